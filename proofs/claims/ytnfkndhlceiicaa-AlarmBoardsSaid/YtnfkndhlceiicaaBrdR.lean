/-
  Boards of alarms, in plain Lean: how entries are sorted; what is shown.
-/
import Derived.Test.YtnfkndhlceiicaaBrdQ
namespace Go.Sim
open Go
set_option linter.unusedVariables false
set_option linter.unusedSimpArgs false
set_option linter.unusedSectionVars false
set_option linter.unnecessarySimpa false

abbrev Ent := S_api_AlarmEntry
def ltE (a b : Ent) : Bool := decide (a.Time < b.Time) || (decide (a.Time = b.Time) && ltS a.Name b.Name)
def leE (a b : Ent) : Prop := ltE b a = false
theorem ltE_asym {a b : Ent} (h : ltE a b = true) : ltE b a = false := by
  unfold ltE at *
  simp only [Bool.or_eq_true, decide_eq_true_eq, Bool.and_eq_true] at h
  rcases h with h | ⟨h, h2⟩
  · simp; omega
  · simp only [h, ltS_asym h2]; simp
theorem leE_iff (a b : Ent) : leE a b ↔ a.Time < b.Time ∨ (a.Time = b.Time ∧ leS a.Name b.Name) := by
  unfold leE ltE leS
  cases h : ltS b.Name a.Name <;> simp <;> omega
theorem leE_trans {a b c : Ent} (h1 : leE a b) (h2 : leE b c) : leE a c := by
  rw [leE_iff] at *
  rcases h1 with h1 | ⟨h1, h1'⟩
  · rcases h2 with h2 | ⟨h2, _⟩
    · exact .inl (by omega)
    · exact .inl (by omega)
  · rcases h2 with h2 | ⟨h2, h2'⟩
    · exact .inl (by omega)
    · exact .inr ⟨by omega, leS_trans h1' h2'⟩
theorem leE_time {a b : Ent} (h : leE a b) : a.Time ≤ b.Time := by
  rw [leE_iff] at h
  rcases h with h | ⟨h, _⟩ <;> omega
theorem cmpE_gd (a b : Ent) : Gd (m_alarm_Board_All_1 a b) (fun r => r < 0 ↔ ltE a b = true) := by
  have hi : m_cmp_Compare_int a.Time b.Time = if a.Time < b.Time then -1 else if b.Time < a.Time then 1 else 0 := by
    unfold m_cmp_Compare_int m_cmp_isNaN_int; simp
  have hs : m_cmp_Compare_string a.Name b.Name = if ltS a.Name b.Name = true then -1 else if ltS b.Name a.Name = true then 1 else 0 := by
    unfold m_cmp_Compare_string m_cmp_isNaN_string; simp
  unfold m_alarm_Board_All_1 m_cmp_Or_int
  rw [hi, hs]
  refine Gd.bnd (P := fun r => r < 0 ↔ ltE a b = true) ?_ (fun r hr => Gd.ret hr)
  simp only [forI, m_cmp_Or_int_b1]
  unfold ltE
  by_cases h1 : a.Time < b.Time
  · simp only [h1, if_true]; exact Gd.ret (by simp)
  · by_cases h2 : b.Time < a.Time
    · simp only [h1, h2, if_true, if_false]
      refine Gd.ret ?_
      have : ¬ a.Time = b.Time := by omega
      simp [this]
    · have h3 : a.Time = b.Time := by omega
      simp only [h1, h2, if_false]
      cases hx : ltS a.Name b.Name
      · cases hy : ltS b.Name a.Name
        · refine Gd.ite (fun h => by simp at h) (fun _ => Gd.ite (fun h => by simp at h) (fun _ => Gd.ret (by simp)))
        · refine Gd.ite (fun h => by simp at h) (fun _ => Gd.ite (fun _ => Gd.ret (by simp)) (fun h => by simp at h))
      · refine Gd.ite (fun h => by simp at h) (fun _ => Gd.ite (fun _ => Gd.ret (by simp [h3])) (fun h => by simp at h))
/-! ### Sorting -/
def SrtE (l : List Ent) : Prop := ∀ (p q : Nat) (a b : Ent), p < q → l[p]? = some a → l[q]? = some b → leE a b
theorem swap_permE (l : List Ent) (j : Nat) (h : j + 1 < l.length) : ((l.set (j + 1) l[j]).set j l[j + 1]).Perm l := by
  have e : (l.set (j + 1) l[j]).set j l[j + 1] = l.take j ++ (l[j + 1] :: l[j] :: l.drop (j + 2)) := by
    apply List.ext_getElem?
    intro q
    rw [List.getElem?_set, List.getElem?_set, List.getElem?_append]
    simp only [List.length_set, List.length_take, Nat.min_eq_left (show j ≤ l.length by omega), List.getElem?_take]
    by_cases h1 : j = q
    · subst h1; simp; omega
    · rw [if_neg h1]
      by_cases h2 : j + 1 = q
      · subst h2
        rw [if_pos rfl, if_pos h, if_neg (by omega)]
        rw [show j + 1 - j = 1 by omega]; rfl
      · rw [if_neg h2]
        by_cases h3 : q < j
        · rw [if_pos h3, if_pos h3]
        · rw [if_neg h3]
          obtain ⟨d, rfl⟩ : ∃ d, q = j + 2 + d := ⟨q - (j + 2), by omega⟩
          rw [show j + 2 + d - j = d + 2 by omega]
          simp [List.getElem?_drop]
  have e2 : l = l.take j ++ (l[j] :: l[j + 1] :: l.drop (j + 2)) := by
    rw [← List.drop_eq_getElem_cons (show j + 1 < l.length from h), ← List.drop_eq_getElem_cons (show j < l.length by omega), List.take_append_drop]
  rw [e]
  conv => rhs; rw [e2]
  exact List.Perm.append_left _ (List.Perm.swap _ _ _)
/-- Sorted up to i, but for the place j. -/
def SrtButE (l : List Ent) (i j : Nat) : Prop := ∀ (p q : Nat) (a b : Ent), p < q → q ≤ i → q ≠ j → l[p]? = some a → l[q]? = some b → leE a b
theorem isort_gdE (l : List Ent) (hl : l.length ≤ 12) : Gd (m_slices_insertionSortCmpFunc_api_AlarmEntry__alarm_Board_All_1 l 0 l.length) (fun r => r.Perm l ∧ SrtE r) := by
  unfold m_slices_insertionSortCmpFunc_api_AlarmEntry__alarm_Board_All_1
  have h01 : IntKind.i64.wrap (0 + 1) = ((1 : Nat) : Int) := rfl
  rw [h01]
  refine Gd.loopF (fun (s : List Ent × Int) => ∃ i : Nat, s.2 = i ∧ 1 ≤ i ∧ s.1.Perm l ∧ ∀ (p q : Nat) (a b : Ent), p < q → q < i → s.1[p]? = some a → s.1[q]? = some b → leE a b) (fun s => 100 - s.2.toNat) ?_ FUEL _ ⟨1, rfl, by omega, List.Perm.refl _, fun p q a b h1 h2 => by omega⟩ (by simp; unfold FUEL; omega)
  rintro ⟨d, i'⟩ nx ⟨i, hi, h1i, hpm, hs⟩ hn
  simp only at hi hpm hs
  subst hi
  have hdl : d.length = l.length := hpm.length_eq
  unfold m_slices_insertionSortCmpFunc_api_AlarmEntry__alarm_Board_All_1_b3
  refine Gd.ite (fun h => ?_) (fun h => ?_)
  · have hil : i < l.length := by
      have : (i : Int) < ((l.length : Nat) : Int) := by simpa using h
      omega
    have hwi : IntKind.i64.wrap ((i : Int) + 1) = ((i + 1 : Nat) : Int) := by rw [wrap_id ⟨by omega, by omega⟩]; omega
    refine Gd.loopF (fun (s : List Ent × Int) => ∃ j : Nat, s.2 = j ∧ j ≤ i ∧ s.1.Perm l ∧ SrtButE s.1 i j) (fun s => s.2.toNat) ?_ FUEL _ ⟨i, rfl, Nat.le_refl _, hpm, fun p q a b hpq hq hqj => hs p q a b hpq (by omega)⟩ (by simp; unfold FUEL; omega)
    rintro ⟨e, j'⟩ nx2 ⟨j, hj, hji, hpe, hb⟩ hn2
    simp only at hj hpe hb
    subst hj
    have hel : e.length = l.length := hpe.length_eq
    unfold m_slices_insertionSortCmpFunc_api_AlarmEntry__alarm_Board_All_1_b4
    rw [hwi]
    refine Gd.ite (fun h0 => ?_) (fun h0 => ?_)
    · obtain ⟨k, rfl⟩ : ∃ k, j = k + 1 := ⟨j - 1, by
        have : (0 : Int) < (j : Int) := by simpa using h0
        omega⟩
      have hwj : IntKind.i64.wrap (((k + 1 : Nat) : Int) - 1) = (k : Int) := by rw [wrap_id ⟨by omega, by omega⟩]; omega
      have hk1 : k + 1 < e.length := by omega
      have hk0 : k < e.length := by omega
      rw [hwj]
      refine Gd.idxN hk1 (Gd.idxN hk0 (Gd.bnd (cmpE_gd e[k + 1] e[k]) (fun cc hcc => Gd.ite (fun hlt => ?_) (fun hge => ?_))))
      · have hlt : ltE e[k + 1] e[k] = true := hcc.1 (of_decide_eq_true hlt)
        refine Gd.idxN hk0 (Gd.idxN hk1 (Gd.idxN hk1 (Gd.idxN (by simp; omega) ?_)))
        rw [Int.toNat_natCast, Int.toNat_natCast]
        refine hn2 _ ⟨k, rfl, by omega, (swap_permE e k hk1).trans hpe, ?_⟩ (by simp)
        have g1 : e[k]? = some e[k] := List.getElem?_eq_getElem hk0
        have g2 : e[k + 1]? = some e[k + 1] := List.getElem?_eq_getElem hk1
        have val : ∀ q : Nat, ((e.set (k + 1) e[k]).set k e[k + 1])[q]? = if q = k then some e[k + 1] else if q = k + 1 then some e[k] else e[q]? := by
          intro q
          rw [List.getElem?_set, List.getElem?_set]
          by_cases h1 : k = q
          · subst h1; simp; omega
          · rw [if_neg h1, if_neg (Ne.symm h1)]
            by_cases h2 : k + 1 = q
            · subst h2; simp; omega
            · rw [if_neg h2, if_neg (Ne.symm h2)]
        intro p q a b hpq hqi hqk ha hb'
        simp only at ha hb'
        rw [val] at ha hb'
        rw [if_neg hqk] at hb'
        by_cases q1 : q = k + 1
        · rw [if_pos q1] at hb'
          cases hb'
          by_cases p1 : p = k
          · rw [if_pos p1] at ha; cases ha
            exact ltE_asym hlt
          · rw [if_neg p1, if_neg (by omega)] at ha
            exact hb p k a e[k] (by omega) (by omega) (by omega) ha g1
        · rw [if_neg q1] at hb'
          by_cases p1 : p = k
          · rw [if_pos p1] at ha; cases ha
            exact hb (k + 1) q _ b (by omega) hqi q1 g2 hb'
          · rw [if_neg p1] at ha
            by_cases p2 : p = k + 1
            · rw [if_pos p2] at ha; cases ha
              exact hb k q _ b (by omega) hqi q1 g1 hb'
            · rw [if_neg p2] at ha
              exact hb p q a b hpq hqi q1 ha hb'
      · have hge : ltE e[k + 1] e[k] = false := by
          cases hx : ltE e[k + 1] e[k]
          · rfl
          · exact absurd (hcc.2 hx) (of_decide_eq_false hge)
        refine hn _ ⟨i + 1, rfl, by omega, hpe, ?_⟩ (by simp only [Int.toNat_natCast]; omega)
        intro p q a b hpq hqi ha hb'
        simp only at ha hb'
        by_cases q1 : q = k + 1
        · subst q1
          rw [List.getElem?_eq_getElem hk1] at hb'; cases hb'
          by_cases p1 : p = k
          · subst p1
            rw [List.getElem?_eq_getElem hk0] at ha; cases ha
            exact hge
          · exact leE_trans (hb p k a e[k] (by omega) (by omega) (by omega) ha (List.getElem?_eq_getElem hk0)) hge
        · exact hb p q a b hpq (by omega) q1 ha hb'
    · have hj0 : j = 0 := by
        have : (j : Int) ≤ 0 := by simpa using h0
        omega
      subst hj0
      refine hn _ ⟨i + 1, rfl, by omega, hpe, fun p q a b hpq hqi ha hb' => hb p q a b hpq (by omega) (by omega) ha hb'⟩ (by simp only [Int.toNat_natCast]; omega)
  · have hil : l.length ≤ i := by
      have : ((l.length : Nat) : Int) ≤ (i : Int) := by simpa using h
      omega
    refine Gd.ret ⟨hpm, fun p q a b hpq ha hb => hs p q a b hpq ?_ ha hb⟩
    have hq : q < d.length := (List.getElem?_eq_some_iff.1 hb).1
    omega
theorem sort_gdE (l : List Ent) (hl : l.length ≤ 12) : Gd (m_slices_SortFunc_api_AlarmEntry_api_AlarmEntry__alarm_Board_All_1 l) (fun r => r.Perm l ∧ SrtE r) := by
  unfold m_slices_SortFunc_api_AlarmEntry_api_AlarmEntry__alarm_Board_All_1
  have hlen : ∃ z, m_math_bits_Len (IntKind.u64.wrap ((l.length : Nat) : Int)) = some z := by
    have := List.all_eq_true.1 len_some l.length (List.mem_range.2 (by omega))
    exact Option.isSome_iff_exists.1 this
  obtain ⟨z, hz⟩ := hlen
  refine Gd.bind_eq hz (Gd.bnd (P := fun r => r.Perm l ∧ SrtE r) ?_ (fun r hr => Gd.ret hr))
  unfold m_slices_pdqsortCmpFunc_api_AlarmEntry__alarm_Board_All_1
  refine Gd.loopF (fun _ => True) (fun _ => 0) ?_ FUEL () trivial (by unfold FUEL; omega)
  intro _ nx _ _
  unfold m_slices_pdqsortCmpFunc_api_AlarmEntry__alarm_Board_All_1_b3
  refine Gd.ite (fun _ => Gd.bnd (isort_gdE l hl) (fun r hr => Gd.ret hr)) (fun h => ?_)
  rw [wrap_id ⟨by omega, by omega⟩] at h
  simp at h; omega
end Go.Sim
