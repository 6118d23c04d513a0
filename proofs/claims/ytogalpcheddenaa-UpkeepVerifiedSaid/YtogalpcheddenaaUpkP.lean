/-
  Maintenance plans, in plain Lean: tasks that are valid.
-/
import Derived.Test.YtogalpcheddenaaModU
import Derived.Test.YtogalpcheddenaaSimW
namespace Go.Sim
open Go
set_option linter.unusedVariables false
set_option linter.unusedSimpArgs false
set_option linter.unusedSectionVars false
set_option linter.unnecessarySimpa false

abbrev Job := S_api_UpkeepJob
abbrev Task := S_api_UpkeepTask

theorem get_of {α : Type} {l : List α} {i : Nat} (h : i < l.length) : ∃ x, l[i]? = some x := ⟨_, List.getElem?_eq_getElem h⟩
theorem lt_of {α : Type} {l : List α} {i : Nat} {x : α} (h : l[i]? = some x) : i < l.length := (List.getElem?_eq_some_iff.1 h).1
theorem drop_cons {α : Type} {l : List α} {k : Nat} {y : α} {ys : List α} (h : y :: ys = l.drop k) : l[k]? = some y ∧ ys = l.drop (k + 1) := by
  constructor
  · have := congrArg (·[0]?) h
    simpa [List.getElem?_drop] using this.symm
  · have := congrArg (List.drop 1) h
    simpa using this
theorem drop_nil {α : Type} {l : List α} {k : Nat} (h : [] = l.drop k) : l.length ≤ k := by
  have := congrArg List.length h
  simp at this; omega

theorem name_some (s : ByteArray) (h : s.size ≤ maxLen) : Gd (m_netmodel_Name s) (fun _ => True) := by
  unfold m_netmodel_Name
  refine Gd.nd h (Gd.forI (fun _ _ _ => True) (fun i y ys s n _ hn => ?_) (fun i s _ => Gd.ret trivial) _ _ _ trivial)
  unfold m_netmodel_Name_b1
  exact Gd.ite (fun _ => Gd.ret trivial) (fun _ => hn _ trivial)

theorem named_gd (l : List Job) (j : Job) : Gd (m_slices_ContainsFunc_api_UpkeepJob_api_UpkeepJob__upkeep_Check_1 l j) (fun b => b = true ↔ ∃ x ∈ l, x.Name = j.Name) := by
  unfold m_slices_ContainsFunc_api_UpkeepJob_api_UpkeepJob__upkeep_Check_1 m_slices_IndexFunc_api_UpkeepJob_api_UpkeepJob__upkeep_Check_1
  refine Gd.bnd (P := fun r => 0 ≤ r ↔ ∃ x ∈ l, x.Name = j.Name) ?_ (fun r hr => Gd.ret (by simpa using hr))
  refine Gd.forN (fun m i _ => i + m = l.length ∧ ∀ x ∈ l.take i, x.Name ≠ j.Name) ?_ ?_ (l.length : Int).toNat 0 () ⟨by omega, by simp⟩
  · intro m i _ nx ⟨hi, hno⟩ hnx
    unfold m_slices_IndexFunc_api_UpkeepJob_api_UpkeepJob__upkeep_Check_1_b1 m_upkeep_Check_1
    refine Gd.idxN (by omega) (Gd.ite (fun h => Gd.ret ⟨fun _ => ⟨l[i], List.getElem_mem _, by simpa using h⟩, fun _ => by omega⟩) (fun h => hnx () ⟨by omega, ?_⟩))
    intro x hx
    rw [List.take_succ_eq_append_getElem (by omega), List.mem_append, List.mem_singleton] at hx
    rcases hx with hx | rfl
    · exact hno x hx
    · simpa using h
  · intro i _ ⟨hi, hno⟩
    rw [List.take_of_length_le (by omega)] at hno
    exact Gd.ret ⟨fun h => by omega, fun ⟨x, hx, e⟩ => absurd e (hno x hx)⟩
theorem pair_gd (l : List S_A2_Int) (p : S_A2_Int) : Gd (m_slices_Contains_2_int_2_int l p) (fun b => b = true ↔ p ∈ l) := by
  unfold m_slices_Contains_2_int_2_int m_slices_Index_2_int_2_int
  refine Gd.bnd (P := fun r => 0 ≤ r ↔ p ∈ l) ?_ (fun r hr => Gd.ret (by simpa using hr))
  refine Gd.forN (fun m i _ => i + m = l.length ∧ p ∉ l.take i) ?_ ?_ (l.length : Int).toNat 0 () ⟨by omega, by simp⟩
  · intro m i _ nx ⟨hi, hno⟩ hnx
    unfold m_slices_Index_2_int_2_int_b1
    refine Gd.idxN (by omega) (Gd.ite (fun h => Gd.ret ⟨fun _ => ?_, fun _ => by omega⟩) (fun h => hnx () ⟨by omega, ?_⟩))
    · have h : p.a0 = l[i].a0 ∧ p.a1 = l[i].a1 := by simpa using h
      have : p = l[i] := by
        cases hp : p; cases hq : l[i]
        simp only [hp, hq] at h
        rw [h.1, h.2]
      rw [this]; exact List.getElem_mem _
    · rw [List.take_succ_eq_append_getElem (by omega), List.mem_append, List.mem_singleton]
      rintro (h' | h')
      · exact hno h'
      · simp [h'] at h
  · intro i _ ⟨hi, hno⟩
    rw [List.take_of_length_le (by omega)] at hno
    exact Gd.ret ⟨fun h => by omega, fun h => absurd h hno⟩

structure JobOk (j : Job) : Prop where
  nm : m_netmodel_Name j.Name = some true
  l1 : 1 ≤ j.Long
  l2 : j.Long ≤ 60
  f0 : 0 ≤ j.First
  fl : j.First ≤ j.Last
  la : j.Last ≤ 60
  wd : j.Last ≤ j.First + 11
  w0 : 0 ≤ j.Weight
  w1 : j.Weight ≤ 1000
def PairOk (n : Nat) (p : S_A2_Int) : Prop := 0 ≤ p.a0 ∧ p.a0 < n ∧ 0 ≤ p.a1 ∧ p.a1 < n ∧ p.a0 ≠ p.a1
structure TaskOk (t : Task) : Prop where
  j6 : t.Jobs.length ≤ 6
  a256 : t.Apart.length ≤ 256
  c1 : 1 ≤ t.Crews
  c6 : t.Crews ≤ 6
  job : ∀ j ∈ t.Jobs, JobOk j
  nd : (t.Jobs.map (·.Name)).Nodup
  pair : ∀ p ∈ t.Apart, PairOk t.Jobs.length p

theorem check_gd (t : Task) (hz : ∀ j ∈ t.Jobs, j.Name.size ≤ maxLen) : Gd (m_upkeep_Check t) (fun e => e = 0 ↔ TaskOk t) := by
  unfold m_upkeep_Check
  refine Gd.ite (fun h => Gd.ret ⟨fun h => by omega, fun h' => ?_⟩) (fun h => ?_)
  · have := h'.j6
    have := h'.a256
    simp at h; omega
  refine Gd.ite (fun h => Gd.ret ⟨fun h => by omega, fun h' => ?_⟩) (fun h1 => ?_)
  · have := h'.c1
    have := h'.c6
    simp at h; omega
  have h : t.Jobs.length ≤ 6 ∧ t.Apart.length ≤ 256 := by simp at h; omega
  have h1 : 1 ≤ t.Crews ∧ t.Crews ≤ 6 := by simp at h1; omega
  refine Gd.forI (fun k ys _ => ys = t.Jobs.drop k ∧ (∀ j ∈ t.Jobs.take k, JobOk j) ∧ ((t.Jobs.take k).map (·.Name)).Nodup) ?_ ?_ t.Jobs 0 () ⟨by simp, by simp, by simp⟩
  · rintro k y ys _ nx ⟨hys, hj, hd⟩ hnx
    obtain ⟨hy, hys'⟩ := drop_cons hys
    have hk := lt_of hy
    have hm := List.mem_of_getElem? hy
    have htake : t.Jobs.take (k + 1) = t.Jobs.take k ++ [y] := by rw [List.take_add_one, hy]; rfl
    obtain ⟨b, hb, _⟩ := name_some y.Name (hz y hm)
    unfold m_upkeep_Check_b1
    refine Gd.bind_eq hb (Gd.ite (fun h => Gd.ret ⟨fun h => by omega, fun h' => ?_⟩) (fun h2 => Gd.nd (by omega) ?_))
    · have := (h'.job y hm).nm
      rw [hb] at this; cases this; simp at h
    have hbt : b = true := by simpa using h2
    subst hbt
    refine Gd.bnd (named_gd _ _) (fun r hr => Gd.ite (fun h => Gd.ret ⟨fun h => by omega, fun h' => ?_⟩) (fun h3 => ?_))
    · obtain ⟨x, hx, hxn⟩ := hr.1 h
      simp only [slc, List.drop_zero, Nat.sub_zero, Int.toNat_natCast] at hx
      have hnd := h'.nd
      rw [← List.take_append_drop k t.Jobs, List.map_append, List.nodup_append] at hnd
      exact absurd hxn (hnd.2.2 _ (List.mem_map.2 ⟨x, hx, rfl⟩) _ (List.mem_map.2 ⟨y, by rw [← hys]; exact List.mem_cons_self .., rfl⟩))
    refine Gd.ite (fun h => Gd.ret ⟨fun h => by omega, fun h' => ?_⟩) (fun h4 => ?_)
    · have q := h'.job y hm
      have := q.l1; have := q.l2; have := q.f0; have := q.fl; have := q.la; have := q.wd; have := q.w0; have := q.w1
      rw [wrap_id (n := y.First + 12) (by omega), wrap_id (by omega)] at h
      simp at h; omega
    · have hJ : JobOk y := by
        simp only [Bool.or_eq_false_iff, decide_eq_false_iff_not] at h4
        obtain ⟨⟨⟨⟨⟨⟨⟨p1, p2⟩, p3⟩, p4⟩, p5⟩, p6⟩, p7⟩, p8⟩ := h4
        rw [wrap_id (n := y.First + 12) (by omega), wrap_id (by omega)] at p6
        exact ⟨hb, by omega, by omega, by omega, by omega, by omega, by omega, by omega, by omega⟩
      refine hnx () ⟨hys', ?_, ?_⟩
      · rw [htake]
        intro x hx
        rw [List.mem_append, List.mem_singleton] at hx
        rcases hx with hx | rfl
        · exact hj x hx
        · exact hJ
      · rw [htake, List.map_append, List.nodup_append]
        refine ⟨hd, by simp, ?_⟩
        rintro a ha c hc rfl
        simp only [List.map_cons, List.map_nil, List.mem_singleton] at hc
        obtain ⟨x, hx, rfl⟩ := List.mem_map.1 ha
        have := hr.2 ⟨x, by simpa [slc] using hx, hc⟩
        rw [this] at h3; cases h3
  · rintro k _ ⟨hys, hj, hd⟩
    have hk := drop_nil hys
    rw [List.take_of_length_le hk] at hj hd
    refine Gd.forI (fun k ys _ => ys = t.Apart.drop k ∧ ∀ p ∈ t.Apart.take k, PairOk t.Jobs.length p) ?_ ?_ t.Apart 0 () ⟨by simp, by simp⟩
    · rintro k y ys _ nx ⟨hys, hp⟩ hnx
      obtain ⟨hy, hys'⟩ := drop_cons hys
      have hm := List.mem_of_getElem? hy
      unfold m_upkeep_Check_b4
      refine Gd.forN (fun m i _ => i + m = 2 ∧ (0 < i → 0 ≤ y.a0 ∧ y.a0 < t.Jobs.length) ∧ (1 < i → 0 ≤ y.a1 ∧ y.a1 < t.Jobs.length)) ?_ ?_ (2 : Int).toNat 0 () ⟨by decide, by omega, by omega⟩
      · rintro m i _ nx2 ⟨hi, q0, q1⟩ hnx2
        unfold m_upkeep_Check_b5
        have hi2 : i = 0 ∨ i = 1 := by omega
        rcases hi2 with rfl | rfl
        · refine Gd.ix (by omega) (y := y.a0) rfl (Gd.ite (fun h => Gd.ret ⟨fun h => by omega, fun h' => ?_⟩) (fun h => hnx2 () ⟨by omega, fun _ => ?_, by omega⟩))
          · have := h'.pair y hm
            unfold PairOk at this
            simp at h; omega
          · simp at h; omega
        · refine Gd.ix (by omega) (y := y.a1) rfl (Gd.ite (fun h => Gd.ret ⟨fun h => by omega, fun h' => ?_⟩) (fun h => hnx2 () ⟨by omega, fun _ => q0 (by omega), fun _ => ?_⟩))
          · have := h'.pair y hm
            unfold PairOk at this
            simp at h; omega
          · simp at h; omega
      · rintro i _ ⟨hi, q0, q1⟩
        refine Gd.ite (fun h => Gd.ret ⟨fun h => by omega, fun h' => ?_⟩) (fun h => hnx () ⟨hys', ?_⟩)
        · have := h'.pair y hm
          unfold PairOk at this
          simp at h; omega
        · have htake : t.Apart.take (k + 1) = t.Apart.take k ++ [y] := by rw [List.take_add_one, hy]; rfl
          rw [htake]
          intro x hx
          rw [List.mem_append, List.mem_singleton] at hx
          rcases hx with hx | rfl
          · exact hp x hx
          · have := q0 (by omega)
            have := q1 (by omega)
            simp at h
            exact ⟨by omega, by omega, by omega, by omega, h⟩
    · rintro k _ ⟨hys, hp⟩
      rw [List.take_of_length_le (drop_nil hys)] at hp
      exact Gd.ret ⟨fun _ => ⟨h.1, h.2, h1.1, h1.2, hj, hd, hp⟩, fun _ => rfl⟩
end Go.Sim
