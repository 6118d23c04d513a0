/-
  Alarms, in plain Lean: what explains an alarm, and how texts are sorted.
-/
import Derived.Test.YtnfkndhlceiicaaModB
import Derived.Test.YtnfkndhlceiicaaSimY
import Derived.KernelRfl
namespace Go.Sim
open Go
set_option linter.unusedVariables false
set_option linter.unusedSimpArgs false
set_option linter.unusedSectionVars false
set_option linter.unnecessarySimpa false

abbrev Cz := S_api_AlarmCause
abbrev BA := ByteArray

theorem aname_gd (s : BA) (h : s.size ≤ maxLen) : Gd (m_netmodel_Name s) (fun _ => True) := by
  unfold m_netmodel_Name
  refine Gd.nd h (Gd.forI (fun _ _ _ => True) (fun i y ys s n _ hn => ?_) (fun i s _ => Gd.ret trivial) _ _ _ trivial)
  unfold m_netmodel_Name_b1
  exact Gd.ite (fun _ => Gd.ret trivial) (fun _ => hn _ trivial)
theorem acont_gd (l : List BA) (p : BA) : Gd (m_slices_Contains_string_string l p) (fun b => b = true ↔ p ∈ l) := by
  unfold m_slices_Contains_string_string m_slices_Index_string_string
  refine Gd.bnd (P := fun r => 0 ≤ r ↔ p ∈ l) ?_ (fun r hr => Gd.ret (by simpa using hr))
  refine Gd.forN (fun m i _ => i + m = l.length ∧ p ∉ l.take i) ?_ ?_ (l.length : Int).toNat 0 () ⟨by omega, by simp⟩
  · intro m i _ nx ⟨hi, hno⟩ hnx
    unfold m_slices_Index_string_string_b1
    refine Gd.idxN (by omega) (Gd.ite (fun h => Gd.ret ⟨fun _ => ?_, fun _ => by omega⟩) (fun h => hnx () ⟨by omega, ?_⟩))
    · have : p = l[i] := by simpa using h
      rw [this]; exact List.getElem_mem _
    · rw [List.take_succ_eq_append_getElem (by omega), List.mem_append, List.mem_singleton]
      rintro (h' | h')
      · exact hno h'
      · simp [h'] at h
  · intro i _ ⟨hi, hno⟩
    rw [List.take_of_length_le (by omega)] at hno
    exact Gd.ret ⟨fun h => by omega, fun h => absurd h hno⟩
instance (p : BA) (l : List BA) : Decidable (p ∈ l) := @List.instDecidableMemOfLawfulBEq _ instBEqOfDecidableEq _ p l
/-- Whether a text is there. -/
theorem acont_eq (l : List BA) (p : BA) : m_slices_Contains_string_string l p = some (decide (p ∈ l)) := by
  obtain ⟨b, hb, h⟩ := acont_gd l p
  rw [hb]; congr 1
  cases b
  · exact (decide_eq_false (fun e => by have := h.2 e; cases this)).symm
  · exact (decide_eq_true (h.1 rfl)).symm
theorem acz_gd (l : List Cz) (c : Cz) : Gd (m_slices_Contains_api_AlarmCause_api_AlarmCause l c) (fun _ => True) := by
  unfold m_slices_Contains_api_AlarmCause_api_AlarmCause m_slices_Index_api_AlarmCause_api_AlarmCause
  refine Gd.bnd (P := fun _ => True) ?_ (fun r hr => Gd.ret trivial)
  refine Gd.forN (fun m i _ => i + m = l.length) ?_ (fun _ _ _ => Gd.ret trivial) (l.length : Int).toNat 0 () (by omega)
  intro m i _ nx hi hnx
  unfold m_slices_Index_api_AlarmCause_api_AlarmCause_b1
  exact Gd.idxN (by omega) (Gd.ite (fun h => Gd.ret trivial) (fun h => hnx () (by omega)))

def CzSz (cs : List Cz) : Prop := ∀ c ∈ cs, c.Of.size ≤ maxLen ∧ c.By.size ≤ maxLen
def BaSz (l : List BA) : Prop := ∀ x ∈ l, x.size ≤ maxLen
theorem aCheck_gd (cs : List Cz) (h : CzSz cs) : Gd (m_alarm_Check cs) (fun e => e = 0 → cs.length ≤ 40) := by
  unfold m_alarm_Check
  refine Gd.ite (fun _ => Gd.ret (fun h => by simp at h)) (fun hl => ?_)
  have hl : cs.length ≤ 40 := by
    have : ((cs.length : Nat) : Int) ≤ 40 := by simpa using hl
    omega
  refine Gd.forI (fun i ys _ => i + ys.length = cs.length ∧ CzSz ys) ?_ (fun i s _ => Gd.ret fun _ => hl) _ _ _ ⟨by simp, h⟩
  intro i y ys s n ⟨hi, hys⟩ hn
  simp only [List.length_cons] at hi
  obtain ⟨h1, h2⟩ := hys y (List.mem_cons_self ..)
  unfold m_alarm_Check_b1
  refine Gd.bnd (aname_gd _ h1) (fun b _ => Gd.ite (fun _ => ?_) (fun _ => Gd.ret (fun h => by simp at h)))
  refine Gd.bnd (aname_gd _ h2) (fun b _ => Gd.ite (fun _ => Gd.ret (fun h => by simp at h)) (fun _ => Gd.ite (fun _ => Gd.ret (fun h => by simp at h)) (fun _ => ?_)))
  exact Gd.nd (by omega) (Gd.bnd (acz_gd _ _) (fun c _ => Gd.ite (fun _ => Gd.ret (fun h => by simp at h)) (fun _ => hn _ ⟨by omega, fun x hx => hys x (List.mem_cons_of_mem _ hx)⟩)))
theorem acheck_gd (cs : List Cz) (l : List BA) (h : CzSz cs) (hl : BaSz l) : Gd (m_alarm_check cs l) (fun e => e = 0 → m_alarm_Check cs = some 0 ∧ cs.length ≤ 40 ∧ l.length ≤ 24 ∧ l.Nodup) := by
  unfold m_alarm_check
  obtain ⟨e, he, hc⟩ := aCheck_gd cs h
  refine Gd.bind_eq he (Gd.ite (fun h0 => Gd.ret (fun h => by simp [h] at h0)) (fun h0 => Gd.ite (fun _ => Gd.ret (fun h => by simp at h)) (fun hll => ?_)))
  have h0 : e = 0 := by simpa using h0
  subst h0
  have hll : l.length ≤ 24 := by
    have : ((l.length : Nat) : Int) ≤ 24 := by simpa using hll
    omega
  refine Gd.forI (fun i ys _ => i + ys.length = l.length ∧ ys = l.drop i ∧ (l.take i).Nodup) ?_ ?_ _ _ _ ⟨by simp, by simp, by simp⟩
  · rintro i y ys s n ⟨hi, hys, hnd⟩ hn
    simp only [List.length_cons] at hi
    have hlt : i < l.length := by omega
    rw [List.drop_eq_getElem_cons hlt] at hys
    obtain ⟨rfl, rfl⟩ := List.cons.inj hys
    unfold m_alarm_check_b1
    refine Gd.bnd (aname_gd _ (hl _ (List.getElem_mem _))) (fun b _ => Gd.ite (fun _ => Gd.ret (fun h => by simp at h)) (fun _ => Gd.nd (by omega) ?_))
    have hs : slc l 0 ((i : Int).toNat) = l.take i := by unfold slc; rw [List.drop_zero, Int.toNat_natCast, Nat.sub_zero]
    rw [hs, acont_eq]
    refine Gd.ite (fun _ => Gd.ret (fun h => by simp at h)) (fun hc => hn _ ⟨by omega, rfl, ?_⟩)
    have hc : l[i] ∉ l.take i := by simpa using hc
    rw [List.take_succ_eq_append_getElem hlt, List.nodup_append]
    exact ⟨hnd, by simp, fun a ha b hb => by simp at hb; subst hb; intro e; exact hc (e ▸ ha)⟩
  · rintro i s ⟨hi, _, hnd⟩
    rw [List.take_of_length_le (by simp at hi; omega)] at hnd
    exact Gd.ret fun _ => ⟨he, hc rfl, hll, hnd⟩

/-- y explains x directly. -/
def Arc (cs : List Cz) (l : List BA) (x y : BA) : Prop := (∃ c ∈ cs, c.Of = x ∧ c.By = y) ∧ y ∈ l
/-- y explains x. -/
inductive Rch (cs : List Cz) (l : List BA) (x : BA) : BA → Prop
  | one {y : BA} : Arc cs l x y → Rch cs l x y
  | snoc {y z : BA} : Rch cs l x y → Arc cs l y z → Rch cs l x z
theorem Rch.trans {cs : List Cz} {l : List BA} {x y z : BA} (h1 : Rch cs l x y) (h2 : Rch cs l y z) : Rch cs l x z := by
  induction h2 with
  | one h => exact .snoc h1 h
  | snoc _ h ih => exact .snoc ih h
theorem Rch.mem {cs : List Cz} {l : List BA} {x y : BA} (h : Rch cs l x y) : y ∈ l := by cases h with
  | one h => exact h.2
  | snoc _ h => exact h.2

theorem expl_gd (cs : List Cz) (l : List BA) (name : BA) (hl : l.length ≤ 24) (hc : cs.length ≤ 40) : Gd (m_alarm_explained cs l name) (fun out => out.Nodup ∧ ∀ y, y ∈ out ↔ Rch cs l name y) := by
  unfold m_alarm_explained
  refine Gd.loopF (fun (s : List BA × List BA) => s.1.Nodup ∧ (∀ y ∈ s.1, Rch cs l name y) ∧ (∀ y ∈ s.2, y = name ∨ y ∈ s.1) ∧ (∀ x, x = name ∨ x ∈ s.1 → x ∉ s.2 → ∀ y, Arc cs l x y → y ∈ s.1) ∧ 2 * (24 - s.1.length) + s.2.length ≤ 49)
    (fun s => 2 * (24 - s.1.length) + s.2.length) ?_ FUEL _ ⟨by simp, by simp, by simp, ?_, by simp⟩ (by simp; unfold FUEL; omega)
  · rintro ⟨out, todo⟩ nx ⟨hnd, hr, ht, hp, htot⟩ hn
    simp only at hnd hr ht hp htot
    have ho : out.length ≤ 24 := by
      have := nodup_le out l hnd (fun y hy => (hr y hy).mem); omega
    unfold m_alarm_explained_b9
    refine Gd.ite (fun hne => ?_) (fun he => ?_)
    · obtain ⟨s, ts, rfl⟩ : ∃ a ts, todo = a :: ts := by
        cases todo with
        | nil => simp at hne
        | cons a ts => exact ⟨a, ts, rfl⟩
      simp only [List.length_cons] at htot
      refine Gd.ix (y := s) (by decide) rfl (Gd.nd ⟨by omega, by simp only [List.length_cons]; omega⟩ ?_)
      have hsl : slc (s :: ts) (1 : Int).toNat (s :: ts).length = ts := by
        unfold slc
        rw [show (1 : Int).toNat = 1 from rfl, List.drop_succ_cons, List.drop_zero, List.take_of_length_le (by simp)]
      rw [hsl]
      have hsn : s = name ∨ Rch cs l name s := (ht s (List.mem_cons_self ..)).imp id (hr s)
      refine Gd.seen (fun pre (q : List BA × List BA) => q.1.Nodup ∧ (∀ y ∈ q.1, Rch cs l name y) ∧ (∀ y ∈ q.2, y = name ∨ y ∈ q.1) ∧ (∀ x, x = name ∨ x ∈ q.1 → x ∉ q.2 → x ≠ s → ∀ y, Arc cs l x y → y ∈ q.1) ∧
        (∀ c ∈ pre, c.Of = s → c.By ∈ l → c.By ∈ q.1) ∧ 2 * (24 - q.1.length) + q.2.length ≤ 2 * (24 - out.length) + ts.length) ?_ ?_ _ ⟨hnd, hr, fun y hy => ht y (List.mem_cons_of_mem _ hy), ?_, by simp, Nat.le_refl (2 * (24 - out.length) + ts.length)⟩
      · rintro i c ⟨o, td⟩ nn pre hpre ⟨g1, g2, g3, g4, g5, g6⟩ hnn
        simp only at g1 g2 g3 g4 g5 g6
        obtain ⟨_, hcm, _⟩ := pre_lt hpre
        have ho2 : o.length ≤ 24 := by
          have := nodup_le o l g1 (fun y hy => (g2 y hy).mem); omega
        unfold m_alarm_explained_b12 m_alarm_explained_b13
        rw [acont_eq, acont_eq]
        refine Gd.ite (fun h1 => Gd.ite (fun h2 => Gd.ite (fun h3 => ?_) (fun h3 => ?_)) (fun h2 => ?_)) (fun h1 => ?_)
        · have h1 : c.Of = s := by simpa using h1
          have h2 : c.By ∈ l := by simpa using h2
          have h3 : c.By ∉ o := by simpa using h3
          have harc : Arc cs l s c.By := ⟨⟨c, hcm, h1, rfl⟩, h2⟩
          have hnew : (o ++ [c.By]).Nodup := by
            rw [List.nodup_append]
            exact ⟨g1, by simp, fun a ha b hb => by simp at hb; subst hb; intro e; exact h3 (e ▸ ha)⟩
          have hrn : ∀ y ∈ o ++ [c.By], Rch cs l name y := fun y hy => by
            rcases List.mem_append.1 hy with hy | hy
            · exact g2 y hy
            · simp at hy; subst hy
              rcases hsn with rfl | h
              · exact .one harc
              · exact .snoc h harc
          have hlen : (o ++ [c.By]).length ≤ 24 := by
            have := nodup_le _ l hnew (fun y hy => (hrn y hy).mem); omega
          simp only [List.length_append, List.length_singleton] at hlen
          refine Gd.nd (by simp; omega) (Gd.nd (by simp; omega) (hnn _ ⟨hnew, hrn, ?_, ?_, ?_, by simp; omega⟩))
          · intro y hy
            rcases List.mem_append.1 hy with hy | hy
            · rcases g3 y hy with h | h
              · exact .inl h
              · exact .inr (List.mem_append_left _ h)
            · exact .inr (List.mem_append_right _ hy)
          · intro x hx hxt hxs y hy
            have hxt1 : x ∉ td := fun h => hxt (List.mem_append_left _ h)
            rcases hx with rfl | hx
            · exact List.mem_append_left _ (g4 _ (.inl rfl) hxt1 hxs y hy)
            · rcases List.mem_append.1 hx with hx | hx
              · exact List.mem_append_left _ (g4 x (.inr hx) hxt1 hxs y hy)
              · exact absurd (List.mem_append_right _ hx) hxt
          · intro d hd hd1 hd2
            rcases List.mem_append.1 hd with hd | hd
            · exact List.mem_append_left _ (g5 d hd hd1 hd2)
            · simp at hd; subst hd; simp
        · have h3 : c.By ∈ o := by simpa using h3
          refine hnn _ ⟨g1, g2, g3, g4, fun d hd hd1 hd2 => ?_, g6⟩
          rcases List.mem_append.1 hd with hd | hd
          · exact g5 d hd hd1 hd2
          · simp at hd; subst hd; exact h3
        · have h2 : c.By ∉ l := by simpa using h2
          refine hnn _ ⟨g1, g2, g3, g4, fun d hd hd1 hd2 => ?_, g6⟩
          rcases List.mem_append.1 hd with hd | hd
          · exact g5 d hd hd1 hd2
          · simp at hd; subst hd; exact absurd hd2 h2
        · have h1 : c.Of ≠ s := by simpa using h1
          refine hnn _ ⟨g1, g2, g3, g4, fun d hd hd1 hd2 => ?_, g6⟩
          rcases List.mem_append.1 hd with hd | hd
          · exact g5 d hd hd1 hd2
          · simp at hd; subst hd; exact absurd hd1 h1
      · rintro ⟨o, td⟩ ⟨g1, g2, g3, g4, g5, g6⟩
        simp only at g1 g2 g3 g4 g5 g6
        refine hn _ ⟨g1, g2, g3, fun x hx hxt y hy => ?_, by simp only; omega⟩ (by simp only [List.length_cons]; omega)
        by_cases e : x = s
        · subst e
          obtain ⟨⟨c, hc1, hc2, hc3⟩, hyl⟩ := hy
          subst hc3
          exact g5 c hc1 hc2 hyl
        · exact g4 x hx hxt e y hy
      · intro x hx hxt hxs y hy
        exact hp x hx (fun h => (List.mem_cons.1 h).elim hxs hxt) y hy
    · have htn : todo = [] := by
        cases todo with
        | nil => rfl
        | cons a ts => simp at he
      subst htn
      refine Gd.ret ⟨hnd, fun y => ⟨hr y, fun h => ?_⟩⟩
      induction h with
      | one h => exact hp name (.inl rfl) (by simp) _ h
      | snoc _ h ih => exact hp _ (.inr ih) (by simp) _ h
  · intro x hx hxt
    simp at hx
    subst hx
    simp at hxt

/-! ### Sorting -/
def Srt (l : List BA) : Prop := ∀ (p q : Nat) (a b : BA), p < q → l[p]? = some a → l[q]? = some b → leS a b
theorem len_some : (List.range 25).all (fun n => (m_math_bits_Len (IntKind.u64.wrap ((n : Nat) : Int))).isSome) = true := by kernel_rfl
theorem swap_perm (l : List BA) (j : Nat) (h : j + 1 < l.length) : ((l.set (j + 1) l[j]).set j l[j + 1]).Perm l := by
  have e : (l.set (j + 1) l[j]).set j l[j + 1] = l.take j ++ (l[j + 1] :: l[j] :: l.drop (j + 2)) := by
    apply List.ext_getElem?
    intro q
    rw [List.getElem?_set, List.getElem?_set, List.getElem?_append]
    simp only [List.length_set, List.length_take, Nat.min_eq_left (show j ≤ l.length by omega), List.getElem?_take]
    by_cases h1 : j = q
    · subst h1; simp; omega
    · rw [if_neg h1]
      by_cases h2 : j + 1 = q
      · subst h2
        rw [if_pos rfl, if_pos h, if_neg (by omega)]
        rw [show j + 1 - j = 1 by omega]; rfl
      · rw [if_neg h2]
        by_cases h3 : q < j
        · rw [if_pos h3, if_pos h3]
        · rw [if_neg h3]
          obtain ⟨d, rfl⟩ : ∃ d, q = j + 2 + d := ⟨q - (j + 2), by omega⟩
          rw [show j + 2 + d - j = d + 2 by omega]
          simp [List.getElem?_drop]
  have e2 : l = l.take j ++ (l[j] :: l[j + 1] :: l.drop (j + 2)) := by
    rw [← List.drop_eq_getElem_cons (show j + 1 < l.length from h), ← List.drop_eq_getElem_cons (show j < l.length by omega), List.take_append_drop]
  rw [e]
  conv => rhs; rw [e2]
  exact List.Perm.append_left _ (List.Perm.swap _ _ _)
/-- Sorted up to i, but for the place j. -/
def SrtBut (l : List BA) (i j : Nat) : Prop := ∀ (p q : Nat) (a b : BA), p < q → q ≤ i → q ≠ j → l[p]? = some a → l[q]? = some b → leS a b
theorem isort_gd (l : List BA) (hl : l.length ≤ 12) : Gd (m_slices_insertionSortOrdered_string l 0 l.length) (fun r => r.Perm l ∧ Srt r) := by
  unfold m_slices_insertionSortOrdered_string
  have h01 : IntKind.i64.wrap (0 + 1) = ((1 : Nat) : Int) := rfl
  rw [h01]
  refine Gd.loopF (fun (s : List BA × Int) => ∃ i : Nat, s.2 = i ∧ 1 ≤ i ∧ s.1.Perm l ∧ ∀ (p q : Nat) (a b : BA), p < q → q < i → s.1[p]? = some a → s.1[q]? = some b → leS a b) (fun s => 100 - s.2.toNat) ?_ FUEL _ ⟨1, rfl, by omega, List.Perm.refl _, fun p q a b h1 h2 => by omega⟩ (by simp; unfold FUEL; omega)
  rintro ⟨d, i'⟩ nx ⟨i, hi, h1i, hpm, hs⟩ hn
  simp only at hi hpm hs
  subst hi
  have hdl : d.length = l.length := hpm.length_eq
  unfold m_slices_insertionSortOrdered_string_b3
  refine Gd.ite (fun h => ?_) (fun h => ?_)
  · have hil : i < l.length := by
      have : (i : Int) < ((l.length : Nat) : Int) := by simpa using h
      omega
    have hwi : IntKind.i64.wrap ((i : Int) + 1) = ((i + 1 : Nat) : Int) := by rw [wrap_id ⟨by omega, by omega⟩]; omega
    refine Gd.loopF (fun (s : List BA × Int) => ∃ j : Nat, s.2 = j ∧ j ≤ i ∧ s.1.Perm l ∧ SrtBut s.1 i j) (fun s => s.2.toNat) ?_ FUEL _ ⟨i, rfl, Nat.le_refl _, hpm, fun p q a b hpq hq hqj => hs p q a b hpq (by omega)⟩ (by simp; unfold FUEL; omega)
    rintro ⟨e, j'⟩ nx2 ⟨j, hj, hji, hpe, hb⟩ hn2
    simp only at hj hpe hb
    subst hj
    have hel : e.length = l.length := hpe.length_eq
    unfold m_slices_insertionSortOrdered_string_b4
    rw [hwi]
    refine Gd.ite (fun h0 => ?_) (fun h0 => ?_)
    · obtain ⟨k, rfl⟩ : ∃ k, j = k + 1 := ⟨j - 1, by
        have : (0 : Int) < (j : Int) := by simpa using h0
        omega⟩
      have hwj : IntKind.i64.wrap (((k + 1 : Nat) : Int) - 1) = (k : Int) := by rw [wrap_id ⟨by omega, by omega⟩]; omega
      have hk1 : k + 1 < e.length := by omega
      have hk0 : k < e.length := by omega
      rw [hwj]
      refine Gd.idxN hk1 (Gd.idxN hk0 (Gd.ite (fun hlt => ?_) (fun hge => ?_)))
      · have hlt : ltS e[k + 1] e[k] = true := by simpa [m_cmp_Less_string, m_cmp_isNaN_string] using hlt
        refine Gd.idxN hk0 (Gd.idxN hk1 (Gd.idxN hk1 (Gd.idxN (by simp; omega) ?_)))
        rw [Int.toNat_natCast, Int.toNat_natCast]
        refine hn2 _ ⟨k, rfl, by omega, (swap_perm e k hk1).trans hpe, ?_⟩ (by simp)
        have g1 : e[k]? = some e[k] := List.getElem?_eq_getElem hk0
        have g2 : e[k + 1]? = some e[k + 1] := List.getElem?_eq_getElem hk1
        have val : ∀ q : Nat, ((e.set (k + 1) e[k]).set k e[k + 1])[q]? = if q = k then some e[k + 1] else if q = k + 1 then some e[k] else e[q]? := by
          intro q
          rw [List.getElem?_set, List.getElem?_set]
          by_cases h1 : k = q
          · subst h1; simp; omega
          · rw [if_neg h1, if_neg (Ne.symm h1)]
            by_cases h2 : k + 1 = q
            · subst h2; simp; omega
            · rw [if_neg h2, if_neg (Ne.symm h2)]
        intro p q a b hpq hqi hqk ha hb'
        simp only at ha hb'
        rw [val] at ha hb'
        rw [if_neg hqk] at hb'
        by_cases q1 : q = k + 1
        · rw [if_pos q1] at hb'
          cases hb'
          by_cases p1 : p = k
          · rw [if_pos p1] at ha; cases ha
            exact ltS_asym hlt
          · rw [if_neg p1, if_neg (by omega)] at ha
            exact hb p k a e[k] (by omega) (by omega) (by omega) ha g1
        · rw [if_neg q1] at hb'
          by_cases p1 : p = k
          · rw [if_pos p1] at ha; cases ha
            exact hb (k + 1) q _ b (by omega) hqi q1 g2 hb'
          · rw [if_neg p1] at ha
            by_cases p2 : p = k + 1
            · rw [if_pos p2] at ha; cases ha
              exact hb k q _ b (by omega) hqi q1 g1 hb'
            · rw [if_neg p2] at ha
              exact hb p q a b hpq hqi q1 ha hb'
      · have hge : ltS e[k + 1] e[k] = false := by simpa [m_cmp_Less_string, m_cmp_isNaN_string] using hge
        refine hn _ ⟨i + 1, rfl, by omega, hpe, ?_⟩ (by simp only [Int.toNat_natCast]; omega)
        intro p q a b hpq hqi ha hb'
        simp only at ha hb'
        by_cases q1 : q = k + 1
        · subst q1
          rw [List.getElem?_eq_getElem hk1] at hb'; cases hb'
          by_cases p1 : p = k
          · subst p1
            rw [List.getElem?_eq_getElem hk0] at ha; cases ha
            exact hge
          · exact leS_trans (hb p k a e[k] (by omega) (by omega) (by omega) ha (List.getElem?_eq_getElem hk0)) hge
        · exact hb p q a b hpq (by omega) q1 ha hb'
    · have hj0 : j = 0 := by
        have : (j : Int) ≤ 0 := by simpa using h0
        omega
      subst hj0
      refine hn _ ⟨i + 1, rfl, by omega, hpe, fun p q a b hpq hqi ha hb' => hb p q a b hpq (by omega) (by omega) ha hb'⟩ (by simp only [Int.toNat_natCast]; omega)
  · have hil : l.length ≤ i := by
      have : ((l.length : Nat) : Int) ≤ (i : Int) := by simpa using h
      omega
    refine Gd.ret ⟨hpm, fun p q a b hpq ha hb => hs p q a b hpq ?_ ha hb⟩
    have hq : q < d.length := (List.getElem?_eq_some_iff.1 hb).1
    omega
theorem sort_gd (l : List BA) (hl : l.length ≤ 12) : Gd (m_slices_Sort_string_string l) (fun r => r.Perm l ∧ Srt r) := by
  unfold m_slices_Sort_string_string
  have hlen : ∃ z, m_math_bits_Len (IntKind.u64.wrap ((l.length : Nat) : Int)) = some z := by
    have := List.all_eq_true.1 len_some l.length (List.mem_range.2 (by omega))
    exact Option.isSome_iff_exists.1 this
  obtain ⟨z, hz⟩ := hlen
  refine Gd.bind_eq hz (Gd.bnd (P := fun r => r.Perm l ∧ Srt r) ?_ (fun r hr => Gd.ret hr))
  unfold m_slices_pdqsortOrdered_string
  refine Gd.loopF (fun _ => True) (fun _ => 0) ?_ FUEL () trivial (by unfold FUEL; omega)
  intro _ nx _ _
  unfold m_slices_pdqsortOrdered_string_b3
  refine Gd.ite (fun _ => Gd.bnd (isort_gd l hl) (fun r hr => Gd.ret hr)) (fun h => ?_)
  rw [wrap_id ⟨by omega, by omega⟩] at h
  simp at h; omega
end Go.Sim
