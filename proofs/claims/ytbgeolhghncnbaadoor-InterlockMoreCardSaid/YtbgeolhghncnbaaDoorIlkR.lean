/-
  Interlocks, in plain Lean: an operation and its opposite; further rules.
-/
import Derived.Test.YtbgeolhghncnbaaDoorIlkQ
namespace Go.Sim
open Go
set_option linter.unusedVariables false
set_option linter.unusedSimpArgs false
set_option linter.unusedSectionVars false
set_option linter.unnecessarySimpa false

/-! ### An operation -/
theorem nodup_at {st : List Sw} (h : (st.map (·.Name)).Nodup) {i j : Nat} {x y : Sw} (hi : st[i]? = some x) (hj : st[j]? = some y) (he : x.Name = y.Name) : i = j := by
  have hp := List.pairwise_iff_getElem.1 h
  obtain ⟨hi1, hi2⟩ := List.getElem?_eq_some_iff.1 hi
  obtain ⟨hj1, hj2⟩ := List.getElem?_eq_some_iff.1 hj
  rcases Nat.lt_trichotomy i j with q | q | q
  · exact absurd (by rw [List.getElem_map, List.getElem_map, hi2, hj2, he]) (hp i j (by simpa using hi1) (by simpa using hj1) q)
  · exact q
  · exact absurd (by rw [List.getElem_map, List.getElem_map, hi2, hj2, he]) (hp j i (by simpa using hj1) (by simpa using hi1) q)
theorem set_at {st : List Sw} (hs : SwsOk st) (hsz : ∀ x ∈ st, x.Name.size ≤ maxLen) {i : Nat} {x : Sw} (hi : st[i]? = some x) (closing : Bool) :
    m_interlock_Set st closing x.Name = some (if x.Closed = closing then ([], 11) else (st.set i ⟨x.Name, closing⟩, 0)) := by
  rw [← Gd.eq]
  unfold m_interlock_Set
  obtain ⟨f, hf, hfq⟩ := states_gd st hsz
  have f0 := hfq.2 hs
  subst f0
  refine Gd.bind_eq hf (Gd.ite (fun h => by simp at h) (fun _ => Gd.bnd (index_gd st x.Name) (fun r hr => Gd.ite (fun h => ?_) (fun h => ?_))))
  · exact absurd rfl (hr.no (by simpa using h) x (List.mem_of_getElem? hi))
  · have h0 : 0 ≤ r := by simpa using h
    obtain ⟨y, hy, hyn⟩ := hr.yes h0
    have hij := nodup_at hs.2.2 hy hi hyn
    rw [hij, hi] at hy
    cases hy
    have hri : st[r.toNat]? = some x := by rw [hij]; exact hi
    have h32 := hs.1
    refine Gd.ix h0 hri (Gd.ite (fun hc => Gd.ret ?_) (fun hc => Gd.nd (by omega) (Gd.ix h0 hri (Gd.ret ?_))))
    · rw [if_pos (by simpa using hc)]
    · rw [if_neg (by simpa using hc), hij]
theorem set_gd {st : List Sw} (hsz : ∀ x ∈ st, x.Name.size ≤ maxLen) (closing : Bool) (name : ByteArray) :
    Gd (m_interlock_Set st closing name) (fun r => (r.2 ≠ 0 ∧ r.1 = []) ∨ ∃ i x, SwsOk st ∧ st[i]? = some x ∧ x.Name = name ∧ x.Closed ≠ closing ∧ r = (st.set i ⟨x.Name, closing⟩, 0)) := by
  obtain ⟨f, hf, hfq⟩ := states_gd st hsz
  by_cases f0 : f = 0
  · have hs := hfq.1 f0
    obtain ⟨r, hr, hAt⟩ := index_gd st name
    by_cases h0 : r < 0
    · refine ⟨([], 8), ?_, .inl ⟨by decide, rfl⟩⟩
      unfold m_interlock_Set
      rw [hf, hr]
      simp [f0, h0]
    · obtain ⟨x, hx, rfl⟩ := hAt.yes (by omega)
      rw [set_at hs hsz hx]
      by_cases hc : x.Closed = closing
      · rw [if_pos hc]; exact Gd.ret (.inl ⟨by decide, rfl⟩)
      · rw [if_neg hc]; exact Gd.ret (.inr ⟨_, x, hs, hx, rfl, hc, rfl⟩)
  · refine ⟨([], f), ?_, .inl ⟨f0, rfl⟩⟩
    unfold m_interlock_Set
    rw [hf]
    simp [f0]

theorem equal_sw (a : List Sw) : m_slices_Equal_api_InterlockState_api_InterlockState a a = some true := by
  rw [← Gd.eq]
  unfold m_slices_Equal_api_InterlockState_api_InterlockState
  refine Gd.ite (fun h => by simp at h) (fun _ => ?_)
  refine Gd.forN (fun m i _ => i + m = a.length) ?_ ?_ _ 0 () (by simp)
  · intro m i _ nx hi hnx
    unfold m_slices_Equal_api_InterlockState_api_InterlockState_b1
    refine Gd.idxN (by omega) (Gd.idxN (by omega) (Gd.ite (fun h => by simp at h) (fun _ => hnx () (by omega))))
  · intro i _ _; exact Gd.ret rfl
theorem equal_int (a : List Int) : m_slices_Equal_int_int a a = some true := by
  rw [← Gd.eq]
  unfold m_slices_Equal_int_int
  refine Gd.ite (fun h => by simp at h) (fun _ => ?_)
  refine Gd.forN (fun m i _ => i + m = a.length) ?_ ?_ _ 0 () (by simp)
  · intro m i _ nx hi hnx
    unfold m_slices_Equal_int_int_b1
    refine Gd.idxN (by omega) (Gd.idxN (by omega) (Gd.ite (fun h => by simp at h) (fun _ => hnx () (by omega))))
  · intro i _ _; exact Gd.ret rfl

theorem InterlockSets_of (st : List Sw) (closing : Bool) (name : ByteArray) (hsz : ∀ x ∈ st, x.Name.size ≤ maxLen) : m_gridhallkeep4_InterlockSets st closing name = some true := by
  rw [← Gd.eq]
  unfold m_gridhallkeep4_InterlockSets
  refine Gd.bnd (set_gd hsz closing name) ?_
  rintro r (⟨h1, h2⟩ | ⟨i, x, hs, hi, rfl, hc, rfl⟩)
  · refine Gd.ite (fun _ => Gd.bind_eq fact_true (Gd.ret ?_)) (fun h => by simp at h; exact absurd h h1)
    rw [h2]; rfl
  refine Gd.ite (fun h => by simp at h) (fun _ => Gd.ite (fun h => by simp at h) (fun _ => ?_))
  have hin := lt_of hi
  have hset : (st.set i ⟨x.Name, closing⟩)[i]? = some ⟨x.Name, closing⟩ := by rw [List.getElem?_set_self hin]
  have hnames : (st.set i ⟨x.Name, closing⟩).map (·.Name) = st.map (·.Name) := by
    rw [List.map_set]
    refine List.ext_getElem? fun j => ?_
    rw [List.getElem?_set]
    split
    · rename_i e; subst e
      have hst : st[i] = x := (List.getElem?_eq_some_iff.1 hi).2
      simp [hin, hst]
    · rfl
  have hsz2 : ∀ y ∈ st.set i ⟨x.Name, closing⟩, y.Name.size ≤ maxLen := by
    intro y hy
    have : y.Name ∈ (st.set i ⟨x.Name, closing⟩).map (·.Name) := List.mem_map.2 ⟨y, hy, rfl⟩
    rw [hnames] at this
    obtain ⟨z, hz, e⟩ := List.mem_map.1 this
    rw [← e]; exact hsz z hz
  have hs2 : SwsOk (st.set i ⟨x.Name, closing⟩) := by
    refine ⟨by simpa using hs.1, fun y hy => ?_, by rw [hnames]; exact hs.2.2⟩
    have : y.Name ∈ (st.set i ⟨x.Name, closing⟩).map (·.Name) := List.mem_map.2 ⟨y, hy, rfl⟩
    rw [hnames] at this
    obtain ⟨z, hz, e⟩ := List.mem_map.1 this
    rw [← e]; exact hs.2.1 z hz
  refine Gd.forI (fun k ys _ => ys = (st.set i ⟨x.Name, closing⟩).drop k) ?_ ?_ _ 0 () (by simp)
  · rintro k y ys _ nx hys hnx
    obtain ⟨hy, hys'⟩ := drop_cons hys
    have hk := lt_of hy
    have hk' : k < st.length := by simpa using hk
    unfold m_gridhallkeep4_InterlockSets_b1
    refine Gd.ix (y := st[k]) (by omega) (by rw [show ((k : Int)).toNat = k by omega]; exact List.getElem?_eq_getElem hk') ?_
    by_cases e : i = k
    · subst e
      rw [hset] at hy; cases hy
      have hst : st[i] = x := (List.getElem?_eq_some_iff.1 hi).2
      rw [hst]
      refine Gd.ite (fun _ => Gd.ite (fun _ => ?_) (fun h => by simp at h)) (fun h => by simp at h)
      cases closing
      · exact Gd.ite (fun h => by simp at h) (fun _ => Gd.ite (fun h => by simp at h) (fun _ => hnx () hys'))
      · exact Gd.ite (fun _ => Gd.ite (fun h => by simp at h) (fun _ => hnx () hys')) (fun h => by simp at h)
    · rw [List.getElem?_set_ne e] at hy
      have hst : st[k] = y := (List.getElem?_eq_some_iff.1 hy).2
      rw [hst]
      refine Gd.ite (fun _ => Gd.ite (fun h => ?_) (fun _ => ?_)) (fun h => by simp at h)
      · exact absurd (nodup_at hs.2.2 hi hy (by simpa using (of_decide_eq_true h).symm)) e
      · exact Gd.ix (y := y) (by omega) (by rw [show ((k : Int)).toNat = k by omega]; exact hy) (Gd.ite (fun h => by simp at h) (fun _ => hnx () hys'))
  · intro k _ _
    have e1 := set_at hs2 hsz2 hset (!closing)
    have e2 := set_at hs2 hsz2 hset closing
    rw [if_neg (by cases closing <;> simp)] at e1
    rw [if_pos rfl] at e2
    have hback : (st.set i ⟨x.Name, closing⟩).set i ⟨x.Name, !closing⟩ = st := by
      rw [List.set_set]
      refine List.ext_getElem? fun j => ?_
      rw [List.getElem?_set]
      split
      · rename_i e; subst e
        rw [hi]
        have : x.Closed = !closing := by cases hx : x.Closed <;> cases closing <;> simp_all
        rw [← this]
      · rfl
    simp only [hback] at e1
    refine Gd.bind_eq e1 (Gd.bind_eq e2 (Gd.bind_eq fact_true ?_))
    simp only [equal_sw]
    exact Gd.ret rfl

/-! ### Further rules -/
theorem concat_two {rules more : List Rule} (h1 : rules.length * 48 ≤ 140737488351232) (h2 : more.length * 48 ≤ 140737488351232) :
    m_slices_Concat_api_InterlockRule_api_InterlockRule [rules, more] = some (rules ++ more) := by
  have w1 : IntKind.i64.wrap (0 + (rules.length : Int)) = rules.length := by rw [Int.zero_add]; exact wrap_id ⟨by omega, by omega⟩
  have w2 : IntKind.i64.wrap ((rules.length : Int) + (more.length : Int)) = (rules.length : Int) + more.length := wrap_id ⟨by omega, by omega⟩
  unfold m_slices_Concat_api_InterlockRule_api_InterlockRule
  simp only [forI, m_slices_Concat_api_InterlockRule_api_InterlockRule_b1, m_slices_Concat_api_InterlockRule_api_InterlockRule_b2, w1, w2]
  rw [if_neg (by simp), if_neg (by simp; omega)]
  unfold need
  rw [if_pos (by omega), if_pos (by simp only [List.length_nil]; omega), if_pos (by simp)]
  simp
theorem Asked.less {l more : List Rule} {st : List Sw} {name : ByteArray} (h : Asked (l ++ more) st name) : Asked l st name :=
  ⟨⟨by have := h.1.1; simp at this; omega, fun r hr => h.1.2 r (List.mem_append_left _ hr)⟩, h.2⟩
theorem InterlockMore_of (l more : List Rule) (st : List Sw) (closing : Bool) (name : ByteArray) (hl : ∀ r ∈ l, RuleSz r) (hm : ∀ r ∈ more, RuleSz r) (hs : ∀ x ∈ st, x.Name.size ≤ maxLen)
    (h1 : l.length * 48 ≤ 140737488351232) (h2 : more.length * 48 ≤ 140737488351232) : m_gridhallkeep4_InterlockMore l more st closing name = some true := by
  rw [← Gd.eq]
  unfold m_gridhallkeep4_InterlockMore
  have hlm : ∀ r ∈ l ++ more, RuleSz r := fun r hr => (List.mem_append.1 hr).elim (hl r) (hm r)
  obtain ⟨a, ha, ha2⟩ := explain_full hl hs closing name
  obtain ⟨b, hb, hb2⟩ := explain_full hlm hs closing name
  refine Gd.bind_eq ha (Gd.bind_eq (concat_two h1 h2) (Gd.bind_eq hb ?_))
  rcases hb2 with ⟨hbA, rfl⟩ | ⟨_, hbe, hbn⟩
  · rcases ha2 with ⟨haA, rfl⟩ | ⟨hno, _, _⟩
    · refine Gd.ite (fun h => by simp at h) (fun _ => Gd.bind_eq fact_true ?_)
      simp only [bads_append]
      have hle : ((bads st closing name 0 l).length : Int) ≤ ((bads st closing name 0 l ++ bads st closing name (0 + l.length) more).length : Int) := by rw [List.length_append]; omega
      refine Gd.ite (fun _ => Gd.nd ⟨by omega, hle⟩ ?_) (fun h => absurd hle (of_decide_eq_false h))
      rw [show slc (bads st closing name 0 l ++ bads st closing name (0 + l.length) more) 0 (((bads st closing name 0 l).length : Int)).toNat = bads st closing name 0 l from by simp [slc]]
      exact Gd.bind_eq (equal_int _) (Gd.ret rfl)
    · exact absurd hbA.less hno
  · refine Gd.ite (fun _ => Gd.bind_eq fact_true (Gd.ret ?_)) (fun h => ?_)
    · rw [hbn]; rfl
    · simp at h; exact absurd h.2 hbe
end Go.Sim
