/-
  Load shedding, in plain Lean: the law of calm.
-/
import Derived.Test.YtaildjiekcgboaaShedQ
namespace Go.Sim
open Go
set_option linter.unusedVariables false
set_option linter.unusedSimpArgs false
set_option linter.unusedSectionVars false
set_option linter.unnecessarySimpa false

theorem cut_eq (y : Int) : Gd (m_gridhallref4_Cut y (-10000) 10000) (fun r => -10000 ≤ r ∧ r ≤ 10000) := by
  have e : IntKind.i64.wrap ((IntKind.i64.wrap (10000 - (-10000))) + 1) = 20001 := by decide
  have h1 : Int.tmod y 20001 < 20001 := Int.tmod_lt_of_pos y (by decide)
  have h2 : -20001 < Int.tmod y 20001 := by
    have := Int.tmod_lt_of_pos (-y) (show (0 : Int) < 20001 by decide)
    rw [Int.neg_tmod] at this; omega
  unfold m_gridhallref4_Cut m_gridhallref4_Cut_b1
  rw [e]
  refine Gd.nd (by decide) (Gd.ite (fun h => ?_) (fun h => ?_))
  · simp at h
    rw [wrap_id (n := Int.tmod y 20001 + 20001) (by omega), wrap_id (by omega)]
    exact Gd.ret ⟨by omega, by omega⟩
  · simp at h
    rw [wrap_id (by omega)]
    exact Gd.ret ⟨by omega, by omega⟩
theorem wrong_no {f : Int} (h0 : -10000 ≤ f) (h1 : f ≤ 10000) : ¬ m_shed_wrong f = true := by
  simp [m_shed_wrong]; omega

theorem run_calm (f : Int) : ∀ (ys : List Stg) (k : Nat) (cs acted : List Int) (out : List ByteArray), cs.length = ys.length → (∀ x ∈ ys, x.Below ≤ f) → (run f k ys cs acted out).1 = out ∧ (run f k ys cs acted out).2.2 = acted
  | [], k, cs, acted, out, _, _ => by simp [run]
  | x :: xs, k, [], acted, out, h, _ => by simp at h
  | x :: xs, k, c :: cs, acted, out, h, hx => by
    have hb := hx x (List.mem_cons_self ..)
    have ih := run_calm f xs (k + 1) cs acted out (by simpa using h) (fun y hy => hx y (List.mem_cons_of_mem _ hy))
    simp only [run]
    rw [if_neg (by simp [hb])]
    exact ih

/-- An earlier stage never lags. -/
structure Inv (l : List Stg) (s : S_shed_Shed) : Prop where
  ok : ShOk s
  st : s.stages = l
  lag : ∀ (i j : Nat) (x y : Stg) (ci cj : Int), i < j → l[i]? = some x → l[j]? = some y → s.count[i]? = some ci → s.count[j]? = some cj → min cj x.Wait ≤ ci
  act : ∀ (i j : Nat) (x y : Stg), i < j → l[i]? = some x → l[j]? = some y → x.Wait ≤ y.Wait → (j : Int) ∈ s.acted → (i : Int) ∈ s.acted
theorem get_of {α : Type} {l : List α} {i : Nat} (h : i < l.length) : ∃ x, l[i]? = some x := ⟨_, List.getElem?_eq_getElem h⟩
theorem lt_of {α : Type} {l : List α} {i : Nat} {x : α} (h : l[i]? = some x) : i < l.length := (List.getElem?_eq_some_iff.1 h).1
theorem Inv.fresh {l : List Stg} (h : StgsOk l) : Inv l (fresh l) := by
  refine ⟨fresh_ok h, rfl, ?_, ?_⟩
  · intro i j x y ci cj hij hi hj hci hcj
    have := (h.all x (List.mem_of_getElem? hi)).w0
    simp only [Sim.fresh, List.getElem?_replicate] at hci hcj
    rw [if_pos (lt_of hi)] at hci
    rw [if_pos (lt_of hj)] at hcj
    cases hci; cases hcj; omega
  · intro i j x y _ _ _ _ h
    simp [Sim.fresh] at h
theorem Inv.step {l : List Stg} {s : S_shed_Shed} (h : Inv l s) (f : Int) : Inv l (stepped s f) := by
  have hl : s.count.length = l.length := by rw [h.ok.len, h.st]
  have hst := h.st
  have hS : StgsOk l := h.st ▸ h.ok.st
  refine ⟨h.ok.step f, h.st, ?_, ?_⟩
  · intro i j x y ci cj hij hi hj hci hcj
    obtain ⟨di, hdi⟩ := get_of (l := s.count) (i := i) (by rw [hl]; exact lt_of hi)
    obtain ⟨dj, hdj⟩ := get_of (l := s.count) (i := j) (by rw [hl]; exact lt_of hj)
    have e1 := run_cnt f s.stages 0 s.count s.acted [] i di x hdi (by rw [hst]; exact hi)
    have e2 := run_cnt f s.stages 0 s.count s.acted [] j dj y hdj (by rw [hst]; exact hj)
    simp only [stepped] at hci hcj
    rw [e1] at hci; rw [e2] at hcj
    cases hci; cases hcj
    have hd := hS.dec i j hij x y hi hj
    have hlag := h.lag i j x y di dj hij hi hj hdi hdj
    have b1 := h.ok.cnt i di x hdi (by rw [hst]; exact hi)
    have b2 := h.ok.cnt j dj y hdj (by rw [hst]; exact hj)
    have w := (hS.all x (List.mem_of_getElem? hi)).w0
    unfold upd
    split <;> split <;> omega
  · intro i j x y hij hi hj hw ha
    obtain ⟨di, hdi⟩ := get_of (l := s.count) (i := i) (by rw [hl]; exact lt_of hi)
    obtain ⟨dj, hdj⟩ := get_of (l := s.count) (i := j) (by rw [hl]; exact lt_of hj)
    have hd := hS.dec i j hij x y hi hj
    have hlag := h.lag i j x y di dj hij hi hj hdi hdj
    have b1 := h.ok.cnt i di x hdi (by rw [hst]; exact hi)
    have b2 := h.ok.cnt j dj y hdj (by rw [hst]; exact hj)
    simp only [stepped] at ha ⊢
    rw [run_acted f _ _ _ _ _ _ h.ok.len] at ha ⊢
    rcases ha with ha | ⟨j', c, z, e, hc, hz, hb, hu⟩
    · exact .inl (h.act i j x y hij hi hj hw ha)
    · have ej : j' = j := by omega
      subst ej
      rw [hst] at hz
      rw [hj] at hz; cases hz
      rw [hdj] at hc; cases hc
      refine .inr ⟨i, di, x, by omega, hdi, by rw [hst]; exact hi, by omega, ?_⟩
      unfold upd at hu ⊢
      rw [if_neg hb] at hu
      rw [if_neg (by omega)]
      omega

theorem same_stage : ∀ (l : List Stg) (v : ByteArray) (i j : Nat) (x y : Stg), (l.flatMap (·.Loads)).Nodup → l[i]? = some x → l[j]? = some y → v ∈ x.Loads → v ∈ y.Loads → i = j
  | [], v, i, j, x, y, _, h, _, _, _ => by simp at h
  | z :: l, v, 0, 0, x, y, _, _, _, _, _ => rfl
  | z :: l, v, 0, j + 1, x, y, hn, hi, hj, hx, hy => by
    rw [List.flatMap_cons, List.nodup_append] at hn
    simp at hi hj; subst hi
    exact absurd rfl (hn.2.2 v hx v (List.mem_flatMap.2 ⟨y, List.mem_of_getElem? hj, hy⟩))
  | z :: l, v, i + 1, 0, x, y, hn, hi, hj, hx, hy => by
    rw [List.flatMap_cons, List.nodup_append] at hn
    simp at hi hj; subst hj
    exact absurd rfl (hn.2.2 v hy v (List.mem_flatMap.2 ⟨x, List.mem_of_getElem? hi, hx⟩))
  | z :: l, v, i + 1, j + 1, x, y, hn, hi, hj, hx, hy => by
    rw [List.flatMap_cons, List.nodup_append] at hn
    have := same_stage l v i j x y hn.2.1 (by simpa using hi) (by simpa using hj) hx hy
    omega
theorem mem_off {s : S_shed_Shed} (h : ShOk s) {i : Nat} {x : Stg} {v : ByteArray} (hi : s.stages[i]? = some x) (hv : v ∈ x.Loads) : v ∈ s.acted.flatMap (loadsAt s.stages) ↔ (i : Int) ∈ s.acted := by
  rw [List.mem_flatMap]
  constructor
  · rintro ⟨a, ha, hva⟩
    obtain ⟨j, rfl, hj⟩ := h.dom a ha
    obtain ⟨y, hy⟩ := get_of hj
    have : loadsAt s.stages (j : Int) = y.Loads := by simp [loadsAt, hy]
    rw [this] at hva
    rw [same_stage _ v i j x y h.st.nd hi hy hv hva]; exact ha
  · intro ha
    exact ⟨_, ha, by simpa [loadsAt, hi] using hv⟩

theorem step_gd {s : S_shed_Shed} (h : ShOk s) {f : Int} (h0 : -10000 ≤ f) (h1 : f ≤ 10000) : m_shed_Shed_Step s f = some ((run f 0 s.stages s.count s.acted []).1, 0, stepped s f) := by
  rw [step_eq h f, if_neg (wrong_no h0 h1)]

theorem ShedCalm_true (l : List Stg) (fr : List Int) (hl : ∀ x ∈ l, ∀ y ∈ x.Loads, y.size ≤ maxLen) : m_gridhallkeep4_ShedCalm l fr = some true := by
  rw [← Gd.eq]
  unfold m_gridhallkeep4_ShedCalm
  rcases new_eq l hl with ⟨e, he, hc, hn⟩ | ⟨hc, hS, hn⟩
  · refine Gd.bind_eq hn ?_
    show Gd ((m_shed_New l).bind _) _
    refine Gd.bind_eq hn ?_
    simp only [optC]
    refine Gd.bind_eq shedFact_true (Gd.ret ?_)
    simp
  · refine Gd.bind_eq hn ?_
    show Gd ((m_shed_New l).bind _) _
    refine Gd.bind_eq hn ?_
    simp only [optC]
    refine Gd.ite (fun h => by simp at h) (fun _ => Gd.nd (by omega) ?_)
    refine Gd.forI (fun _ _ t => ShOk ⟨t.1, t.2.1, t.2.2.1⟩ ∧ t.1 = l ∧ t.2.2.1 = [] ∧ Inv l ⟨t.2.2.2.1, t.2.2.2.2.1, t.2.2.2.2.2⟩) ?_ ?_ _ _ _ ⟨fresh_ok hS, rfl, rfl, Inv.fresh hS⟩
    · rintro k y ys ⟨cst, cct, cac, sst, sct, sac⟩ nx ⟨hcal, hce, hca, hI⟩ hnx
      simp only at hcal hce hca hI
      subst hce; subst hca
      show Gd (m_gridhallkeep4_ShedCalm_b3 cst k y cst cct [] sst sct sac nx) _
      unfold m_gridhallkeep4_ShedCalm_b3
      refine Gd.bnd (cut_eq y) (fun f hf => ?_)
      refine Gd.bind_eq (step_gd hI.ok hf.1 hf.2) ?_
      have hgo : ∀ g, -10000 ≤ g → g ≤ 10000 → (∀ x ∈ cst, x.Below ≤ g) → Gd (m_gridhallkeep4_ShedCalm_b4 cst cct [] nx ((run f 0 sst sct sac []).1, 0, stepped ⟨sst, sct, sac⟩ f) g) (fun x => x = true) := by
        intro g h0 h1 hg
        unfold m_gridhallkeep4_ShedCalm_b4
        refine Gd.bind_eq (step_gd hcal h0 h1) ?_
        have hr := run_calm g cst 0 cct [] [] hcal.len hg
        simp only
        rw [hr.1]
        refine Gd.ite (fun h => by simp at h) (fun _ => ?_)
        exact hnx _ ⟨hcal.step g, rfl, hr.2, hI.step f⟩
      refine Gd.ite (fun h => ?_) (fun h => ?_)
      · have h : 0 < cst.length := by simpa using h
        have hfirst : cst[0]? = some cst[0] := List.getElem?_eq_getElem h
        refine Gd.ix (by omega) hfirst ?_
        have hb := hS.all _ (List.mem_of_getElem? hfirst)
        have := hb.b0
        have := hb.b1
        refine hgo _ (by omega) (by omega) (fun x hx => ?_)
        obtain ⟨i, hi⟩ := List.mem_iff_getElem?.1 hx
        rcases Nat.eq_zero_or_pos i with rfl | hp
        · rw [hfirst] at hi; cases hi; omega
        · have := hS.dec 0 i hp _ _ hfirst hi; omega
      · have h : ¬ 0 < cst.length := by simpa using h
        have : cst = [] := List.eq_nil_of_length_eq_zero (by omega)
        exact hgo _ hf.1 hf.2 (by simp [this])
    · rintro k ⟨cst, cct, cac, sst, sct, sac⟩ ⟨hcal, hce, hca, hI⟩
      simp only at hcal hce hca hI
      subst hce; subst hca
      have hst := hI.st
      simp only at hst
      subst hst
      refine Gd.bind_eq (off_eq hI.ok) ?_
      refine Gd.forI (fun k ys _ => ys = sst.drop k) ?_ ?_ _ _ _ rfl
      · intro j y ys _ nx hys hnx
        have hj : sst[j]? = some y := by
          have := congrArg (·[0]?) hys
          simpa [List.getElem?_drop] using this.symm
        have hjl := lt_of hj
        unfold m_gridhallkeep4_ShedCalm_b7
        refine Gd.nd (by omega) ?_
        refine Gd.forI (fun i xs _ => xs = (sst.take j).drop i) ?_ ?_ _ _ _ (by simp [slc])
        · intro i x xs _ nx2 hxs hnx2
          have hi : (sst.take j)[i]? = some x := by
            have := congrArg (·[0]?) hxs
            simpa [List.getElem?_drop] using this.symm
          rw [List.getElem?_take] at hi
          split at hi
          case isFalse => cases hi
          rename_i hij
          have hnext : ∀ (u : Unit), Gd (nx2 ()) (fun x => x = true) := fun _ => hnx2 () (by
            have := congrArg (List.drop 1) hxs
            simpa using this)
          unfold m_gridhallkeep4_ShedCalm_b8
          refine Gd.ite (fun hw => ?_) (fun _ => hnext ())
          refine Gd.ite (fun hl1 => ?_) (fun _ => hnext ())
          refine Gd.ite (fun hl2 => ?_) (fun _ => hnext ())
          have hw : x.Wait ≤ y.Wait := by simpa using hw
          have hl1 : 0 < x.Loads.length := by simpa using hl1
          have hl2 : 0 < y.Loads.length := by simpa using hl2
          obtain ⟨v, hv⟩ := get_of hl2
          obtain ⟨u, hu⟩ := get_of hl1
          refine Gd.ix (by omega) hv ?_
          obtain ⟨b, hb, hb2⟩ := contains_str (sac.flatMap (loadsAt sst)) v
          refine Gd.bind_eq hb (Gd.ite (fun h => ?_) (fun _ => hnext ()))
          refine Gd.ix (by omega) hu ?_
          obtain ⟨c, hc1, hc2⟩ := contains_str (sac.flatMap (loadsAt sst)) u
          refine Gd.bind_eq hc1 ?_
          have hja := (mem_off hI.ok hj (List.mem_of_getElem? hv)).1 (hb2.1 h)
          have hia := hI.act i j x y hij hi hj hw hja
          have := hc2.2 ((mem_off hI.ok hi (List.mem_of_getElem? hu)).2 hia)
          rw [this]
          exact hnext ()
        · intro _ _ _
          exact hnx () (by
            have := congrArg (List.drop 1) hys
            simpa using this)
      · intro _ _ _
        refine Gd.bind_eq shedFact_true ?_
        simp only [if_true]
        refine Gd.bind_eq (off_eq hcal) (Gd.ret ?_)
        simp
end Go.Sim
