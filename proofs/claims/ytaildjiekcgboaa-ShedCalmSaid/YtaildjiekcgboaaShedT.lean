/-
  Load shedding, in plain Lean: the law of switching back on.
-/
import Derived.Test.YtaildjiekcgboaaShedR
namespace Go.Sim
open Go
set_option linter.unusedVariables false
set_option linter.unusedSimpArgs false
set_option linter.unusedSectionVars false
set_option linter.unnecessarySimpa false

theorem equal_str (a : List ByteArray) : m_slices_Equal_string_string a a = some true := by
  rw [← Gd.eq]
  unfold m_slices_Equal_string_string
  refine Gd.ite (fun h => by simp at h) (fun _ => ?_)
  refine Gd.forN (fun m i _ => i + m = a.length) ?_ ?_ (a.length : Int).toNat 0 () (by omega)
  rotate_left
  · exact fun _ _ _ => Gd.ret rfl
  intro m i _ nx hi hnx
  unfold m_slices_Equal_string_string_b1
  refine Gd.idxN (by omega) (Gd.idxN (by omega) ?_)
  refine Gd.ite (fun h => by simp at h) (fun _ => hnx () (by omega))
theorem concat_str (a b : List ByteArray) (h : a.length + b.length ≤ 1000) : m_slices_Concat_string_string [a, b] = some (a ++ b) := by
  unfold m_slices_Concat_string_string
  simp only [forI, m_slices_Concat_string_string_b1, m_slices_Concat_string_string_b2, need]
  rw [wrap_id (n := 0 + (a.length : Int)) (by omega), wrap_id (by omega)]
  rw [if_neg (by simp <;> omega), if_neg (by simp <;> omega), if_pos (by omega), if_pos (by simp <;> omega), if_pos (by simp <;> omega)]
  rfl

/-- Switched back on: the last of those that acted. -/
def backed (s : S_shed_Shed) : S_shed_Shed := match s.acted.getLast? with
  | none => s
  | some a => ⟨s.stages, s.count.set a.toNat 0, s.acted.dropLast⟩
theorem backed_ok {s : S_shed_Shed} (h : ShOk s) : ShOk (backed s) := by
  unfold backed
  split
  · exact h
  · rename_i a ha
    refine ⟨h.st, by simp [h.len], ?_, fun a ha => h.dom a (List.dropLast_subset _ ha), ?_⟩
    · intro i c x hi hx
      have := (h.st.all x (List.mem_of_getElem? hx)).w0
      simp only [List.getElem?_set] at hi
      split at hi
      · split at hi
        · cases hi; omega
        · cases hi
      · exact h.cnt i c x hi hx
    · exact h.nd.sublist (List.dropLast_sublist _)
theorem last_at {α : Type} {l : List α} {a : α} (h : l.getLast? = some a) : l[l.length - 1]? = some a ∧ l.dropLast ++ [a] = l ∧ 0 < l.length := by
  rw [List.getLast?_eq_getElem?] at h
  have hl := lt_of h
  refine ⟨h, ?_, by omega⟩
  have hne : l ≠ [] := by rintro rfl; simp at hl
  have := List.dropLast_concat_getLast hne
  have e : l.getLast hne = a := by
    rw [List.getLast_eq_getElem hne]
    rw [List.getElem?_eq_getElem hl] at h; exact Option.some.inj h
  rw [e] at this; exact this
theorem back_eq {s : S_shed_Shed} (h : ShOk s) : (s.acted = [] ∧ m_shed_Shed_Back s 0 = some ([], 11, s)) ∨ (∃ a, s.acted.getLast? = some a ∧ m_shed_Shed_Back s 0 = some (loadsAt s.stages a, 0, backed s)) := by
  cases hl : s.acted.getLast? with
  | none =>
    have he : s.acted = [] := by simpa using hl
    refine .inl ⟨he, ?_⟩
    unfold m_shed_Shed_Back
    simp [m_shed_wrong, he]
  | some a =>
    refine .inr ⟨a, rfl, ?_⟩
    obtain ⟨h1, h2, h3⟩ := last_at hl
    have h8 := h.a8
    have hw : IntKind.i64.wrap ((s.acted.length : Int) - 1) = (s.acted.length : Int) - 1 := wrap_id (by omega)
    have ht : ((s.acted.length : Int) - 1).toNat = s.acted.length - 1 := by omega
    obtain ⟨i, rfl, hi⟩ := h.dom a (List.mem_of_getElem? h1)
    obtain ⟨x, hx⟩ := get_of hi
    obtain ⟨c, hc⟩ := get_of (l := s.count) (i := i) (by rw [h.len]; exact hi)
    have hld := (h.st.all x (List.mem_of_getElem? hx)).ld
    rw [← Gd.eq]
    unfold m_shed_Shed_Back
    refine Gd.ite (fun h => by simp [m_shed_wrong] at h) (fun _ => ?_)
    refine Gd.ite (fun h => by simp at h; rw [h] at h3; simp at h3) (fun _ => ?_)
    rw [hw, ht]
    refine Gd.ix (by omega) (by rw [ht]; exact h1) ?_
    refine Gd.nd (by omega) ?_
    refine Gd.ix (by omega) (by simpa using hc) (Gd.ix (by omega) (by simpa using hx) (Gd.nd (by omega) (Gd.ret ?_)))
    simp only [backed, hl, loadsAt, slc, List.drop_zero]
    rw [show ((i : Int)).toNat = i by omega, hx]
    simp only [List.dropLast_eq_take, Nat.sub_zero]
theorem off_back {s : S_shed_Shed} {a : Int} (h : s.acted.getLast? = some a) : (backed s).acted.flatMap (loadsAt (backed s).stages) ++ loadsAt s.stages a = s.acted.flatMap (loadsAt s.stages) := by
  obtain ⟨_, h2, _⟩ := last_at h
  simp only [backed, h]
  conv => rhs; rw [← h2, List.flatMap_append]
  simp
theorem off_le (l : List Stg) (h : StgsOk l) (ac : List Int) : (ac.flatMap (loadsAt l)).length ≤ 12 * ac.length := by
  induction ac with
  | nil => simp
  | cons a ac ih =>
    have : (loadsAt l a).length ≤ 12 := by
      unfold loadsAt
      split
      · rename_i x hx; exact (h.all x (List.mem_of_getElem? hx)).ld
      · simp
    simp only [List.flatMap_cons, List.length_append, List.length_cons]; omega

theorem step_any {s : S_shed_Shed} (h : ShOk s) (f : Int) : ∃ o e s', m_shed_Shed_Step s f = some (o, e, s') ∧ ShOk s' ∧ s'.stages = s.stages := by
  rw [step_eq h f]
  split
  · exact ⟨_, _, _, rfl, h, rfl⟩
  · exact ⟨_, _, _, rfl, h.step f, rfl⟩
theorem calm_zero {l : List Stg} {s : S_shed_Shed} (h : ShOk s) (hs : s.stages = l) (ha : s.acted = []) : stepped s 0 = fresh l := by
  subst hs
  have hb : ∀ x ∈ s.stages, x.Below ≤ 0 := fun x hx => by have := (h.st.all x hx).b1; omega
  unfold stepped fresh
  congr 1
  · apply List.ext_getElem?
    intro i
    have hlen := run_len 0 s.stages 0 s.count s.acted [] h.len
    by_cases hi : i < s.stages.length
    · obtain ⟨x, hx⟩ := get_of hi
      obtain ⟨c, hc⟩ := get_of (l := s.count) (i := i) (by rw [h.len]; exact hi)
      rw [run_cnt 0 s.stages 0 s.count s.acted [] i c x hc hx]
      simp [List.getElem?_replicate, hi, upd, hb x (List.mem_of_getElem? hx)]
    · rw [List.getElem?_eq_none (by rw [hlen]; omega)]
      simp [List.getElem?_replicate, hi]
  · rw [(run_calm 0 s.stages 0 s.count s.acted [] h.len hb).2, ha]

theorem ShedBack_b4_true {l : List Stg} (fr : List Int) (st : List Stg) (ct ac : List Int) (h : ShOk ⟨st, ct, ac⟩) (hst : st = l) (hS : StgsOk l) (hn : m_shed_New l = some (some (fresh l), 0)) : Gd (m_gridhallkeep4_ShedBack_b4 l fr st ct ac) (fun x => x = true) := by
  unfold m_gridhallkeep4_ShedBack_b4
  refine Gd.forN (fun m _ t => ShOk ⟨t.1, t.2.1, t.2.2⟩ ∧ t.1 = l ∧ t.2.2.length ≤ m) ?_ ?_ _ _ _ ⟨h, hst, h.a8⟩
  · rintro m k ⟨st, ct, ac⟩ nx ⟨h, hs, hm⟩ hnx
    simp only at h hs hm
    unfold m_gridhallkeep4_ShedBack_b2
    refine Gd.bind_eq (off_eq h) ?_
    have h8 := h.a8
    have hle := off_le st h.st ac
    rcases back_eq h with ⟨he, hb⟩ | ⟨a, ha, hb⟩
    · simp only at he
      subst he
      refine Gd.bind_eq hb ?_
      refine Gd.ite (fun h => by simp at h) (fun _ => ?_)
      refine Gd.bind_eq (off_eq h) ?_
      refine Gd.bind_eq (concat_str _ _ (by simp)) ?_
      refine Gd.bind_eq (a := true) (by simpa using equal_str []) ?_
      exact hnx _ ⟨h, hs, by simp⟩
    · refine Gd.bind_eq hb ?_
      refine Gd.ite (fun h => by simp at h) (fun _ => ?_)
      refine Gd.bind_eq (off_eq (backed_ok h)) ?_
      have hoff := off_back ha
      have hlen := congrArg List.length hoff
      simp only [List.length_append] at hlen
      refine Gd.bind_eq (concat_str _ _ (by simp only at h8 hlen ⊢; omega)) ?_
      simp only at hoff ⊢
      rw [hoff]
      refine Gd.bind_eq (equal_str _) ?_
      refine hnx _ ⟨backed_ok h, ?_, ?_⟩
      · simp only [backed]
        rw [ha]; exact hs
      · simp only [backed]
        rw [ha]; simp; omega
  · rintro k ⟨st, ct, ac⟩ ⟨h, hs, hm⟩
    simp only at h hs hm
    have hac : ac = [] := List.eq_nil_of_length_eq_zero (by omega)
    refine Gd.bind_eq (step_gd h (by omega) (by omega)) ?_
    · refine Gd.bind_eq hn ?_
      simp only [optC]
      refine Gd.ite (fun h => by simp at h) (fun _ => ?_)
      rw [calm_zero h hs hac]
      refine Gd.forI (fun _ _ t => ShOk ⟨t.1, t.2.1, t.2.2.1⟩ ∧ t.1 = t.2.2.2.1 ∧ t.2.1 = t.2.2.2.2.1 ∧ t.2.2.1 = t.2.2.2.2.2) ?_ ?_ _ _ _ ⟨fresh_ok hS, rfl, rfl, rfl⟩
      · rintro k y ys ⟨st, ct, ac, st', ct', ac'⟩ nx ⟨h, h1, h2, h3⟩ hnx
        simp only at h h1 h2 h3
        subst h1; subst h2; subst h3
        unfold m_gridhallkeep4_ShedBack_b3
        obtain ⟨o, e, s', hst, hok, _⟩ := step_any h y
        refine Gd.bind_eq hst (Gd.bind_eq hst (Gd.ite (fun _ => ?_) (fun h => by simp at h)))
        refine Gd.bind_eq (equal_str _) ?_
        exact hnx _ ⟨hok, rfl, rfl, rfl⟩
      · rintro k ⟨st, ct, ac, st', ct', ac'⟩ ⟨h, h1, h2, h3⟩
        simp only at h h1 h2 h3
        subst h1; subst h2; subst h3
        refine Gd.bind_eq shedFact_true ?_
        simp only [if_true]
        refine Gd.bind_eq (off_eq h) (Gd.bind_eq (off_eq h) (Gd.ret ?_))
        simp

theorem ShedBack_true (l : List Stg) (fr : List Int) (hl : ∀ x ∈ l, ∀ y ∈ x.Loads, y.size ≤ maxLen) : m_gridhallkeep4_ShedBack l fr = some true := by
  rw [← Gd.eq]
  unfold m_gridhallkeep4_ShedBack
  rcases new_eq l hl with ⟨e, he, hc, hn⟩ | ⟨hc, hS, hn⟩
  · refine Gd.bind_eq hn ?_
    simp only [optC]
    refine Gd.bind_eq shedFact_true ?_
    simp only [if_true]
    refine Gd.bind_eq hc (Gd.ret ?_)
    simp
  · refine Gd.bind_eq hn ?_
    simp only [optC]
    refine Gd.ite (fun h => by simp at h) (fun _ => Gd.nd (by omega) ?_)
    refine Gd.forI (fun _ _ t => ShOk ⟨t.1, t.2.1, t.2.2⟩ ∧ t.1 = l) ?_ ?_ _ _ _ ⟨fresh_ok hS, rfl⟩
    · rintro k y ys ⟨st, ct, ac⟩ nx ⟨h, hs⟩ hnx
      simp only at h hs
      unfold m_gridhallkeep4_ShedBack_b1
      obtain ⟨o, e, s', hst, hok, hse⟩ := step_any h y
      exact Gd.bind_eq hst (hnx _ ⟨hok, hse.trans hs⟩)
    · rintro k ⟨st, ct, ac⟩ ⟨h, hs⟩
      simp only at h hs
      refine Gd.bind_eq (off_eq h) ?_
      refine Gd.ite (fun h0 => ?_) (fun _ => ShedBack_b4_true fr st ct ac h hs hS hn)
      have hb : m_shed_Shed_Back ⟨st, ct, ac⟩ (-1) = some ([], 11, ⟨st, ct, ac⟩) := by
        unfold m_shed_Shed_Back
        simp [m_shed_wrong]
      refine Gd.bind_eq hb ?_
      refine Gd.ite (fun _ => ?_) (fun h => by simp at h)
      refine Gd.ite (fun h => by simp at h) (fun _ => ?_)
      refine Gd.bind_eq (off_eq h) ?_
      refine Gd.ite (fun h => by simp at h) (fun _ => ShedBack_b4_true fr st ct ac h hs hS hn)
end Go.Sim
