/-
  Telemetry, in plain Lean: how messages are sorted, and what is kept of them.
-/
import Derived.Test.YthcolhlbmcbdjaaModT
import Derived.Test.YthcolhlbmcbdjaaSimY
import Derived.Lib.Bytealg
import Derived.KernelRfl
namespace Go.Sim
open Go
set_option linter.unusedVariables false
set_option linter.unusedSimpArgs false
set_option linter.unusedSectionVars false
set_option linter.unnecessarySimpa false

abbrev BA := ByteArray
abbrev Msg := S_api_TelemetryMsg
abbrev Pnt := S_telemetry_point
theorem cmpb_lt : ∀ (a b : List UInt8), Go.Lib.compareBytes a b < 0 ↔ Op.bytesLess a b = true
  | [], [] => by simp [Go.Lib.compareBytes, Op.bytesLess]
  | [], _ :: _ => by simp [Go.Lib.compareBytes, Op.bytesLess]
  | _ :: _, [] => by simp [Go.Lib.compareBytes, Op.bytesLess]
  | a :: x, b :: y => by
    unfold Go.Lib.compareBytes
    simp only [Op.bytesLess, Bool.or_eq_true, decide_eq_true_eq, Bool.and_eq_true, beq_iff_eq]
    rcases u8_tri a b with ⟨h1, h2, h3⟩ | ⟨rfl, h2, h3⟩ | ⟨h1, h2, h3⟩
    · rw [if_pos h1]; simp [h1]
    · rw [if_neg h2, if_neg h2, cmpb_lt x y]; simp [h2]
    · rw [if_neg h2, if_pos h1]; simp [h2, h3]
theorem cmp_lt (a b : BA) : cmpS a b < 0 ↔ ltS a b = true := by
  unfold cmpS ltS
  rw [Go.Lib.cmp_eq, cmpb_lt, ByteArray.toList_eq, ByteArray.toList_eq]
theorem cmp_t {a b : Msg} (h : decide (m_telemetry_Points_List_1 a b < 0) = true) : ltS a.Point b.Point = true :=
  (cmp_lt _ _).1 (of_decide_eq_true h)
theorem cmp_f {a b : Msg} (h : decide (m_telemetry_Points_List_1 a b < 0) = false) : ltS a.Point b.Point = false := by
  cases e : ltS a.Point b.Point
  · rfl
  · exact absurd ((cmp_lt _ _).2 e) (of_decide_eq_false h)
/-! ### Sorting -/
def Srt (l : List Msg) : Prop := ∀ (p q : Nat) (a b : Msg), p < q → l[p]? = some a → l[q]? = some b → leS a.Point b.Point
theorem len_some : (List.range 25).all (fun n => (m_math_bits_Len (IntKind.u64.wrap ((n : Nat) : Int))).isSome) = true := by kernel_rfl
theorem swap_perm (l : List Msg) (j : Nat) (h : j + 1 < l.length) : ((l.set (j + 1) l[j]).set j l[j + 1]).Perm l := by
  have e : (l.set (j + 1) l[j]).set j l[j + 1] = l.take j ++ (l[j + 1] :: l[j] :: l.drop (j + 2)) := by
    apply List.ext_getElem?
    intro q
    rw [List.getElem?_set, List.getElem?_set, List.getElem?_append]
    simp only [List.length_set, List.length_take, Nat.min_eq_left (show j ≤ l.length by omega), List.getElem?_take]
    by_cases h1 : j = q
    · subst h1; simp; omega
    · rw [if_neg h1]
      by_cases h2 : j + 1 = q
      · subst h2
        rw [if_pos rfl, if_pos h, if_neg (by omega)]
        rw [show j + 1 - j = 1 by omega]; rfl
      · rw [if_neg h2]
        by_cases h3 : q < j
        · rw [if_pos h3, if_pos h3]
        · rw [if_neg h3]
          obtain ⟨d, rfl⟩ : ∃ d, q = j + 2 + d := ⟨q - (j + 2), by omega⟩
          rw [show j + 2 + d - j = d + 2 by omega]
          simp [List.getElem?_drop]
  have e2 : l = l.take j ++ (l[j] :: l[j + 1] :: l.drop (j + 2)) := by
    rw [← List.drop_eq_getElem_cons (show j + 1 < l.length from h), ← List.drop_eq_getElem_cons (show j < l.length by omega), List.take_append_drop]
  rw [e]
  conv => rhs; rw [e2]
  exact List.Perm.append_left _ (List.Perm.swap _ _ _)
/-- Sorted up to i, but for the place j. -/
def SrtBut (l : List Msg) (i j : Nat) : Prop := ∀ (p q : Nat) (a b : Msg), p < q → q ≤ i → q ≠ j → l[p]? = some a → l[q]? = some b → leS a.Point b.Point
theorem isort_gd (l : List Msg) (hl : l.length ≤ 12) : Gd (m_slices_insertionSortCmpFunc_api_TelemetryMsg__telemetry_Points_List_1 l 0 l.length) (fun r => r.Perm l ∧ Srt r) := by
  unfold m_slices_insertionSortCmpFunc_api_TelemetryMsg__telemetry_Points_List_1
  have h01 : IntKind.i64.wrap (0 + 1) = ((1 : Nat) : Int) := rfl
  rw [h01]
  refine Gd.loopF (fun (s : List Msg × Int) => ∃ i : Nat, s.2 = i ∧ 1 ≤ i ∧ s.1.Perm l ∧ ∀ (p q : Nat) (a b : Msg), p < q → q < i → s.1[p]? = some a → s.1[q]? = some b → leS a.Point b.Point) (fun s => 100 - s.2.toNat) ?_ FUEL _ ⟨1, rfl, by omega, List.Perm.refl _, fun p q a b h1 h2 => by omega⟩ (by simp; unfold FUEL; omega)
  rintro ⟨d, i'⟩ nx ⟨i, hi, h1i, hpm, hs⟩ hn
  simp only at hi hpm hs
  subst hi
  have hdl : d.length = l.length := hpm.length_eq
  unfold m_slices_insertionSortCmpFunc_api_TelemetryMsg__telemetry_Points_List_1_b3
  refine Gd.ite (fun h => ?_) (fun h => ?_)
  · have hil : i < l.length := by
      have : (i : Int) < ((l.length : Nat) : Int) := by simpa using h
      omega
    have hwi : IntKind.i64.wrap ((i : Int) + 1) = ((i + 1 : Nat) : Int) := by rw [wrap_id ⟨by omega, by omega⟩]; omega
    refine Gd.loopF (fun (s : List Msg × Int) => ∃ j : Nat, s.2 = j ∧ j ≤ i ∧ s.1.Perm l ∧ SrtBut s.1 i j) (fun s => s.2.toNat) ?_ FUEL _ ⟨i, rfl, Nat.le_refl _, hpm, fun p q a b hpq hq hqj => hs p q a b hpq (by omega)⟩ (by simp; unfold FUEL; omega)
    rintro ⟨e, j'⟩ nx2 ⟨j, hj, hji, hpe, hb⟩ hn2
    simp only at hj hpe hb
    subst hj
    have hel : e.length = l.length := hpe.length_eq
    unfold m_slices_insertionSortCmpFunc_api_TelemetryMsg__telemetry_Points_List_1_b4
    rw [hwi]
    refine Gd.ite (fun h0 => ?_) (fun h0 => ?_)
    · obtain ⟨k, rfl⟩ : ∃ k, j = k + 1 := ⟨j - 1, by
        have : (0 : Int) < (j : Int) := by simpa using h0
        omega⟩
      have hwj : IntKind.i64.wrap (((k + 1 : Nat) : Int) - 1) = (k : Int) := by rw [wrap_id ⟨by omega, by omega⟩]; omega
      have hk1 : k + 1 < e.length := by omega
      have hk0 : k < e.length := by omega
      rw [hwj]
      refine Gd.idxN hk1 (Gd.idxN hk0 (Gd.ite (fun hlt => ?_) (fun hge => ?_)))
      · have hlt : ltS e[k + 1].Point e[k].Point = true := cmp_t hlt
        refine Gd.idxN hk0 (Gd.idxN hk1 (Gd.idxN hk1 (Gd.idxN (by simp; omega) ?_)))
        rw [Int.toNat_natCast, Int.toNat_natCast]
        refine hn2 _ ⟨k, rfl, by omega, (swap_perm e k hk1).trans hpe, ?_⟩ (by simp)
        have g1 : e[k]? = some e[k] := List.getElem?_eq_getElem hk0
        have g2 : e[k + 1]? = some e[k + 1] := List.getElem?_eq_getElem hk1
        have val : ∀ q : Nat, ((e.set (k + 1) e[k]).set k e[k + 1])[q]? = if q = k then some e[k + 1] else if q = k + 1 then some e[k] else e[q]? := by
          intro q
          rw [List.getElem?_set, List.getElem?_set]
          by_cases h1 : k = q
          · subst h1; simp; omega
          · rw [if_neg h1, if_neg (Ne.symm h1)]
            by_cases h2 : k + 1 = q
            · subst h2; simp; omega
            · rw [if_neg h2, if_neg (Ne.symm h2)]
        intro p q a b hpq hqi hqk ha hb'
        simp only at ha hb'
        rw [val] at ha hb'
        rw [if_neg hqk] at hb'
        by_cases q1 : q = k + 1
        · rw [if_pos q1] at hb'
          cases hb'
          by_cases p1 : p = k
          · rw [if_pos p1] at ha; cases ha
            exact ltS_asym hlt
          · rw [if_neg p1, if_neg (by omega)] at ha
            exact hb p k a e[k] (by omega) (by omega) (by omega) ha g1
        · rw [if_neg q1] at hb'
          by_cases p1 : p = k
          · rw [if_pos p1] at ha; cases ha
            exact hb (k + 1) q _ b (by omega) hqi q1 g2 hb'
          · rw [if_neg p1] at ha
            by_cases p2 : p = k + 1
            · rw [if_pos p2] at ha; cases ha
              exact hb k q _ b (by omega) hqi q1 g1 hb'
            · rw [if_neg p2] at ha
              exact hb p q a b hpq hqi q1 ha hb'
      · have hge : ltS e[k + 1].Point e[k].Point = false := cmp_f hge
        refine hn _ ⟨i + 1, rfl, by omega, hpe, ?_⟩ (by simp only [Int.toNat_natCast]; omega)
        intro p q a b hpq hqi ha hb'
        simp only at ha hb'
        by_cases q1 : q = k + 1
        · subst q1
          rw [List.getElem?_eq_getElem hk1] at hb'; cases hb'
          by_cases p1 : p = k
          · subst p1
            rw [List.getElem?_eq_getElem hk0] at ha; cases ha
            exact hge
          · exact leS_trans (hb p k a e[k] (by omega) (by omega) (by omega) ha (List.getElem?_eq_getElem hk0)) hge
        · exact hb p q a b hpq (by omega) q1 ha hb'
    · have hj0 : j = 0 := by
        have : (j : Int) ≤ 0 := by simpa using h0
        omega
      subst hj0
      refine hn _ ⟨i + 1, rfl, by omega, hpe, fun p q a b hpq hqi ha hb' => hb p q a b hpq (by omega) (by omega) ha hb'⟩ (by simp only [Int.toNat_natCast]; omega)
  · have hil : l.length ≤ i := by
      have : ((l.length : Nat) : Int) ≤ (i : Int) := by simpa using h
      omega
    refine Gd.ret ⟨hpm, fun p q a b hpq ha hb => hs p q a b hpq ?_ ha hb⟩
    have hq : q < d.length := (List.getElem?_eq_some_iff.1 hb).1
    omega
theorem sort_gd (l : List Msg) (hl : l.length ≤ 12) : Gd (m_slices_SortFunc_api_TelemetryMsg_api_TelemetryMsg__telemetry_Points_List_1 l) (fun r => r.Perm l ∧ Srt r) := by
  unfold m_slices_SortFunc_api_TelemetryMsg_api_TelemetryMsg__telemetry_Points_List_1
  have hlen : ∃ z, m_math_bits_Len (IntKind.u64.wrap ((l.length : Nat) : Int)) = some z := by
    have := List.all_eq_true.1 len_some l.length (List.mem_range.2 (by omega))
    exact Option.isSome_iff_exists.1 this
  obtain ⟨z, hz⟩ := hlen
  refine Gd.bind_eq hz (Gd.bnd (P := fun r => r.Perm l ∧ Srt r) ?_ (fun r hr => Gd.ret hr))
  unfold m_slices_pdqsortCmpFunc_api_TelemetryMsg__telemetry_Points_List_1
  refine Gd.loopF (fun _ => True) (fun _ => 0) ?_ FUEL () trivial (by unfold FUEL; omega)
  intro _ nx _ _
  unfold m_slices_pdqsortCmpFunc_api_TelemetryMsg__telemetry_Points_List_1_b3
  refine Gd.ite (fun _ => Gd.bnd (isort_gd l hl) (fun r hr => Gd.ret hr)) (fun h => ?_)
  rw [wrap_id ⟨by omega, by omega⟩] at h
  simp at h; omega
end Go.Sim
