/-
  Verbs that begin with a text, in plain Lean; how texts are sorted.
-/
import Derived.Test.YthcolhlbmcbdjaaModC
import Derived.Test.YthcolhlbmcbdjaaSimY
import Derived.KernelRfl
namespace Go.Sim
open Go
set_option linter.unusedVariables false
set_option linter.unusedSimpArgs false
set_option linter.unusedSectionVars false
set_option linter.unnecessarySimpa false

abbrev BA := ByteArray
/-! ### Sorting -/
def Srt (l : List BA) : Prop := ∀ (p q : Nat) (a b : BA), p < q → l[p]? = some a → l[q]? = some b → leS a b
theorem len_some : (List.range 25).all (fun n => (m_math_bits_Len (IntKind.u64.wrap ((n : Nat) : Int))).isSome) = true := by kernel_rfl
theorem swap_perm (l : List BA) (j : Nat) (h : j + 1 < l.length) : ((l.set (j + 1) l[j]).set j l[j + 1]).Perm l := by
  have e : (l.set (j + 1) l[j]).set j l[j + 1] = l.take j ++ (l[j + 1] :: l[j] :: l.drop (j + 2)) := by
    apply List.ext_getElem?
    intro q
    rw [List.getElem?_set, List.getElem?_set, List.getElem?_append]
    simp only [List.length_set, List.length_take, Nat.min_eq_left (show j ≤ l.length by omega), List.getElem?_take]
    by_cases h1 : j = q
    · subst h1; simp; omega
    · rw [if_neg h1]
      by_cases h2 : j + 1 = q
      · subst h2
        rw [if_pos rfl, if_pos h, if_neg (by omega)]
        rw [show j + 1 - j = 1 by omega]; rfl
      · rw [if_neg h2]
        by_cases h3 : q < j
        · rw [if_pos h3, if_pos h3]
        · rw [if_neg h3]
          obtain ⟨d, rfl⟩ : ∃ d, q = j + 2 + d := ⟨q - (j + 2), by omega⟩
          rw [show j + 2 + d - j = d + 2 by omega]
          simp [List.getElem?_drop]
  have e2 : l = l.take j ++ (l[j] :: l[j + 1] :: l.drop (j + 2)) := by
    rw [← List.drop_eq_getElem_cons (show j + 1 < l.length from h), ← List.drop_eq_getElem_cons (show j < l.length by omega), List.take_append_drop]
  rw [e]
  conv => rhs; rw [e2]
  exact List.Perm.append_left _ (List.Perm.swap _ _ _)
/-- Sorted up to i, but for the place j. -/
def SrtBut (l : List BA) (i j : Nat) : Prop := ∀ (p q : Nat) (a b : BA), p < q → q ≤ i → q ≠ j → l[p]? = some a → l[q]? = some b → leS a b
theorem isort_gd (l : List BA) (hl : l.length ≤ 12) : Gd (m_slices_insertionSortOrdered_string l 0 l.length) (fun r => r.Perm l ∧ Srt r) := by
  unfold m_slices_insertionSortOrdered_string
  have h01 : IntKind.i64.wrap (0 + 1) = ((1 : Nat) : Int) := rfl
  rw [h01]
  refine Gd.loopF (fun (s : List BA × Int) => ∃ i : Nat, s.2 = i ∧ 1 ≤ i ∧ s.1.Perm l ∧ ∀ (p q : Nat) (a b : BA), p < q → q < i → s.1[p]? = some a → s.1[q]? = some b → leS a b) (fun s => 100 - s.2.toNat) ?_ FUEL _ ⟨1, rfl, by omega, List.Perm.refl _, fun p q a b h1 h2 => by omega⟩ (by simp; unfold FUEL; omega)
  rintro ⟨d, i'⟩ nx ⟨i, hi, h1i, hpm, hs⟩ hn
  simp only at hi hpm hs
  subst hi
  have hdl : d.length = l.length := hpm.length_eq
  unfold m_slices_insertionSortOrdered_string_b3
  refine Gd.ite (fun h => ?_) (fun h => ?_)
  · have hil : i < l.length := by
      have : (i : Int) < ((l.length : Nat) : Int) := by simpa using h
      omega
    have hwi : IntKind.i64.wrap ((i : Int) + 1) = ((i + 1 : Nat) : Int) := by rw [wrap_id ⟨by omega, by omega⟩]; omega
    refine Gd.loopF (fun (s : List BA × Int) => ∃ j : Nat, s.2 = j ∧ j ≤ i ∧ s.1.Perm l ∧ SrtBut s.1 i j) (fun s => s.2.toNat) ?_ FUEL _ ⟨i, rfl, Nat.le_refl _, hpm, fun p q a b hpq hq hqj => hs p q a b hpq (by omega)⟩ (by simp; unfold FUEL; omega)
    rintro ⟨e, j'⟩ nx2 ⟨j, hj, hji, hpe, hb⟩ hn2
    simp only at hj hpe hb
    subst hj
    have hel : e.length = l.length := hpe.length_eq
    unfold m_slices_insertionSortOrdered_string_b4
    rw [hwi]
    refine Gd.ite (fun h0 => ?_) (fun h0 => ?_)
    · obtain ⟨k, rfl⟩ : ∃ k, j = k + 1 := ⟨j - 1, by
        have : (0 : Int) < (j : Int) := by simpa using h0
        omega⟩
      have hwj : IntKind.i64.wrap (((k + 1 : Nat) : Int) - 1) = (k : Int) := by rw [wrap_id ⟨by omega, by omega⟩]; omega
      have hk1 : k + 1 < e.length := by omega
      have hk0 : k < e.length := by omega
      rw [hwj]
      refine Gd.idxN hk1 (Gd.idxN hk0 (Gd.ite (fun hlt => ?_) (fun hge => ?_)))
      · have hlt : ltS e[k + 1] e[k] = true := by simpa [m_cmp_Less_string, m_cmp_isNaN_string] using hlt
        refine Gd.idxN hk0 (Gd.idxN hk1 (Gd.idxN hk1 (Gd.idxN (by simp; omega) ?_)))
        rw [Int.toNat_natCast, Int.toNat_natCast]
        refine hn2 _ ⟨k, rfl, by omega, (swap_perm e k hk1).trans hpe, ?_⟩ (by simp)
        have g1 : e[k]? = some e[k] := List.getElem?_eq_getElem hk0
        have g2 : e[k + 1]? = some e[k + 1] := List.getElem?_eq_getElem hk1
        have val : ∀ q : Nat, ((e.set (k + 1) e[k]).set k e[k + 1])[q]? = if q = k then some e[k + 1] else if q = k + 1 then some e[k] else e[q]? := by
          intro q
          rw [List.getElem?_set, List.getElem?_set]
          by_cases h1 : k = q
          · subst h1; simp; omega
          · rw [if_neg h1, if_neg (Ne.symm h1)]
            by_cases h2 : k + 1 = q
            · subst h2; simp; omega
            · rw [if_neg h2, if_neg (Ne.symm h2)]
        intro p q a b hpq hqi hqk ha hb'
        simp only at ha hb'
        rw [val] at ha hb'
        rw [if_neg hqk] at hb'
        by_cases q1 : q = k + 1
        · rw [if_pos q1] at hb'
          cases hb'
          by_cases p1 : p = k
          · rw [if_pos p1] at ha; cases ha
            exact ltS_asym hlt
          · rw [if_neg p1, if_neg (by omega)] at ha
            exact hb p k a e[k] (by omega) (by omega) (by omega) ha g1
        · rw [if_neg q1] at hb'
          by_cases p1 : p = k
          · rw [if_pos p1] at ha; cases ha
            exact hb (k + 1) q _ b (by omega) hqi q1 g2 hb'
          · rw [if_neg p1] at ha
            by_cases p2 : p = k + 1
            · rw [if_pos p2] at ha; cases ha
              exact hb k q _ b (by omega) hqi q1 g1 hb'
            · rw [if_neg p2] at ha
              exact hb p q a b hpq hqi q1 ha hb'
      · have hge : ltS e[k + 1] e[k] = false := by simpa [m_cmp_Less_string, m_cmp_isNaN_string] using hge
        refine hn _ ⟨i + 1, rfl, by omega, hpe, ?_⟩ (by simp only [Int.toNat_natCast]; omega)
        intro p q a b hpq hqi ha hb'
        simp only at ha hb'
        by_cases q1 : q = k + 1
        · subst q1
          rw [List.getElem?_eq_getElem hk1] at hb'; cases hb'
          by_cases p1 : p = k
          · subst p1
            rw [List.getElem?_eq_getElem hk0] at ha; cases ha
            exact hge
          · exact leS_trans (hb p k a e[k] (by omega) (by omega) (by omega) ha (List.getElem?_eq_getElem hk0)) hge
        · exact hb p q a b hpq (by omega) q1 ha hb'
    · have hj0 : j = 0 := by
        have : (j : Int) ≤ 0 := by simpa using h0
        omega
      subst hj0
      refine hn _ ⟨i + 1, rfl, by omega, hpe, fun p q a b hpq hqi ha hb' => hb p q a b hpq (by omega) (by omega) ha hb'⟩ (by simp only [Int.toNat_natCast]; omega)
  · have hil : l.length ≤ i := by
      have : ((l.length : Nat) : Int) ≤ (i : Int) := by simpa using h
      omega
    refine Gd.ret ⟨hpm, fun p q a b hpq ha hb => hs p q a b hpq ?_ ha hb⟩
    have hq : q < d.length := (List.getElem?_eq_some_iff.1 hb).1
    omega
theorem sort_gd (l : List BA) (hl : l.length ≤ 12) : Gd (m_slices_Sort_string_string l) (fun r => r.Perm l ∧ Srt r) := by
  unfold m_slices_Sort_string_string
  have hlen : ∃ z, m_math_bits_Len (IntKind.u64.wrap ((l.length : Nat) : Int)) = some z := by
    have := List.all_eq_true.1 len_some l.length (List.mem_range.2 (by omega))
    exact Option.isSome_iff_exists.1 this
  obtain ⟨z, hz⟩ := hlen
  refine Gd.bind_eq hz (Gd.bnd (P := fun r => r.Perm l ∧ Srt r) ?_ (fun r hr => Gd.ret hr))
  unfold m_slices_pdqsortOrdered_string
  refine Gd.loopF (fun _ => True) (fun _ => 0) ?_ FUEL () trivial (by unfold FUEL; omega)
  intro _ nx _ _
  unfold m_slices_pdqsortOrdered_string_b3
  refine Gd.ite (fun _ => Gd.bnd (isort_gd l hl) (fun r hr => Gd.ret hr)) (fun h => ?_)
  rw [wrap_id ⟨by omega, by omega⟩] at h
  simp at h; omega
theorem isSorted_true (l : List BA) (hl : l.length ≤ 1000) (hs : Srt l) : m_slices_IsSorted_string_string l = some true := by
  rw [← Gd.eq]
  unfold m_slices_IsSorted_string_string
  have hw : IntKind.i64.wrap ((l.length : Int) - 1) = (l.length : Int) - 1 := wrap_id ⟨by omega, by omega⟩
  rw [hw]
  refine Gd.loopF (fun (s : Int) => -1 ≤ s ∧ s < l.length) (fun s => (s + 1).toNat) ?_ FUEL _ ⟨by omega, by omega⟩ (by unfold FUEL; omega)
  intro s nx ⟨h0, h1⟩ hn
  unfold m_slices_IsSorted_string_string_b1
  refine Gd.ite (fun h => ?_) (fun _ => Gd.ret rfl)
  have h : 0 < s := by simpa using h
  obtain ⟨k, rfl⟩ : ∃ k : Nat, s = ((k + 1 : Nat) : Int) := ⟨(s - 1).toNat, by omega⟩
  have hwj : IntKind.i64.wrap (((k + 1 : Nat) : Int) - 1) = (k : Int) := by rw [wrap_id ⟨by omega, by omega⟩]; omega
  have hk1 : k + 1 < l.length := by omega
  have hk0 : k < l.length := by omega
  rw [hwj]
  refine Gd.idxN hk1 (Gd.idxN hk0 (Gd.ite (fun hlt => ?_) (fun _ => hn _ ⟨by omega, by omega⟩ (by omega))))
  have hlt : ltS l[k + 1] l[k] = true := by simpa [m_cmp_Less_string, m_cmp_isNaN_string] using hlt
  have := hs k (k + 1) _ _ (by omega) (List.getElem?_eq_getElem hk0) (List.getElem?_eq_getElem hk1)
  unfold leS at this
  rw [this] at hlt; cases hlt

theorem Srt.pw {l : List BA} (h : Srt l) : l.Pairwise leS := by
  rw [List.pairwise_iff_getElem]
  intro i j hi hj hij
  exact h i j _ _ hij (List.getElem?_eq_getElem hi) (List.getElem?_eq_getElem hj)
theorem srt_unique : ∀ {a b : List BA}, a.Pairwise leS → b.Pairwise leS → a.Perm b → a = b
  | [], b, _, _, h => (List.Perm.nil_eq h)
  | x :: xs, [], _, _, h => absurd h.length_eq (by simp)
  | x :: xs, y :: ys, ha, hb, h => by
    rw [List.pairwise_cons] at ha hb
    have hxy : x = y := by
      have h1 : x ∈ y :: ys := h.mem_iff.1 (List.mem_cons_self ..)
      have h2 : y ∈ x :: xs := h.mem_iff.2 (List.mem_cons_self ..)
      rcases List.mem_cons.1 h1 with e | h1
      · exact e
      · rcases List.mem_cons.1 h2 with e | h2
        · exact e.symm
        · exact leS_anti (ha.1 y h2) (hb.1 x h1)
    subst hxy
    rw [srt_unique ha.2 hb.2 ((List.perm_cons x).1 h)]

def pf (a s : BA) : Bool := decide (s.size ≤ a.size) && decide (a.extract 0 s.size = s)
theorem prefix_eq (a s : BA) : m_strings_HasPrefix a s = some (pf a s) := by
  rw [← Gd.eq]
  unfold m_strings_HasPrefix m_internal_stringslite_HasPrefix
  refine Gd.bnd (P := fun r => r = pf a s) (Gd.ite (fun h => ?_) (fun h => ?_)) (fun r hr => Gd.ret hr)
  · have h1 : s.size ≤ a.size := by
      have : ((s.size : Nat) : Int) ≤ a.size := by simpa using h
      omega
    refine Gd.nd ⟨by omega, by omega⟩ (Gd.ret ?_)
    unfold pf
    rw [decide_eq_true h1, Bool.true_and, Int.toNat_natCast]
  · have h1 : ¬ s.size ≤ a.size := by
      have : (a.size : Int) < ((s.size : Nat) : Int) := by simpa using h
      omega
    refine Gd.ret ?_
    unfold pf
    rw [decide_eq_false h1, Bool.false_and]
theorem equal_refl (l : List BA) : m_slices_Equal_string_string l l = some true := by
  rw [← Gd.eq]
  unfold m_slices_Equal_string_string
  refine Gd.ite (fun h => by simp at h) (fun _ => ?_)
  refine Gd.forN (Q := fun z => z = true) (fun m i (_ : Unit) => i + m = l.length) ?_ (fun _ _ _ => Gd.ret rfl) (l.length : Int).toNat 0 () (by omega)
  intro m i _ nx hi hn
  unfold m_slices_Equal_string_string_b1
  exact Gd.idxN (by omega) (Gd.idxN (by omega) (Gd.ite (fun h => by simp at h) (fun _ => hn _ (by omega))))

def verbs : List BA := [m_console_forms.a0.verb, m_console_forms.a1.verb, m_console_forms.a2.verb, m_console_forms.a3.verb, m_console_forms.a4.verb, m_console_forms.a5.verb, m_console_forms.a6.verb, m_console_forms.a7.verb]
theorem complete_gd (s : BA) : Gd (m_console_Complete s) (fun r => r.Perm (verbs.filter (pf · s)) ∧ Srt r) := by
  unfold m_console_Complete
  refine Gd.forN (fun m i out => i + m = 8 ∧ out = (verbs.take i).filter (pf · s)) ?_ ?_ 8 0 [] ⟨rfl, rfl⟩
  · rintro m i out nx ⟨hi, rfl⟩ hn
    have hlt : i < verbs.length := by show i < 8; omega
    have htk : ((verbs.take (i + 1)).filter (pf · s)) = (verbs.take i).filter (pf · s) ++ (if pf verbs[i] s then [verbs[i]] else []) := by
      rw [List.take_succ_eq_append_getElem hlt, List.filter_append]
      congr 1
      simp only [List.filter_cons, List.filter_nil]
    have hl8 : ((verbs.take i).filter (pf · s)).length ≤ 8 := by
      have h1 := List.length_filter_le (pf · s) (verbs.take i)
      have h2 : (verbs.take i).length ≤ 8 := by simp; omega
      omega
    have hv : ∀ (L : List S_console_form) (h : i < L.length), L.map (·.verb) = verbs → L[i].verb = verbs[i] := by
      intro L h e
      have : (L.map (·.verb))[i]'(by simpa using h) = verbs[i] := by simp only [e]
      simpa using this
    unfold m_console_Complete_b3 m_console_Complete_b4
    refine Gd.idxN (by show i < 8; omega) ?_
    rw [hv _ (by show i < 8; omega) rfl, prefix_eq]
    refine Gd.ite (fun h => Gd.nd (by simp only [List.length_singleton]; omega) (hn _ ⟨by omega, ?_⟩)) (fun h => hn _ ⟨by omega, ?_⟩)
    · rw [htk, if_pos h]
    · rw [htk, if_neg (by simp [h]), List.append_nil]
  · rintro i out ⟨hi, rfl⟩
    have h8 : verbs.take i = verbs := List.take_of_length_le (by show 8 ≤ i; omega)
    rw [h8]
    have hl : (verbs.filter (pf · s)).length ≤ 12 := by
      have := List.length_filter_le (pf · s) verbs
      have h2 : verbs.length = 8 := rfl
      omega
    exact Gd.bnd (sort_gd _ hl) (fun r hr => Gd.ret hr)
theorem pf_empty (a : BA) : pf a ⟨#[]⟩ = true := by
  unfold pf
  have h0 : (⟨#[]⟩ : BA).size = 0 := rfl
  rw [h0, decide_eq_true (Nat.zero_le _), Bool.true_and]
  refine decide_eq_true ?_
  apply ByteArray.ext
  simp
theorem ConsoleCompletes_true (s : BA) : m_gridhallkeep4_ConsoleCompletes s = some true := by
  rw [← Gd.eq]
  unfold m_gridhallkeep4_ConsoleCompletes
  refine Gd.bnd (complete_gd _) (fun all ⟨hp, hs⟩ => ?_)
  have he : verbs.filter (pf · ⟨#[]⟩) = verbs := List.filter_eq_self.2 (fun a _ => pf_empty a)
  rw [he] at hp
  have h8 : all.length = 8 := hp.length_eq
  refine Gd.ite (fun _ => ?_) (fun h => by simp [h8] at h)
  refine Gd.bind_eq (isSorted_true all (by omega) hs) (Gd.ite (fun h => by simp at h) (fun _ => ?_))
  refine Gd.seen (Q := fun z => z = true) (fun pre out => out = pre.filter (pf · s)) ?_ ?_ _ rfl
  · rintro i y out nn pre hpre rfl hn
    obtain ⟨hpl, _, _⟩ := pre_lt hpre
    have hl8 : (pre.filter (pf · s)).length ≤ 8 := by
      have := List.length_filter_le (pf · s) pre
      omega
    unfold m_gridhallkeep4_ConsoleCompletes_b3 m_gridhallkeep4_ConsoleCompletes_b4
    rw [prefix_eq]
    refine Gd.ite (fun h => Gd.nd (by simp only [List.length_singleton]; omega) (hn _ ?_)) (fun h => hn _ ?_)
    · rw [List.filter_append]; simp [List.filter_cons, h]
    · rw [List.filter_append]; simp [List.filter_cons, h]
  · rintro out rfl
    refine Gd.bnd (complete_gd s) (fun r ⟨hp2, hs2⟩ => ?_)
    have e : r = all.filter (pf · s) := srt_unique hs2.pw (hs.pw.filter _) (hp2.trans (hp.filter _).symm)
    rw [e]
    exact Gd.bind_eq (equal_refl _) (Gd.ret rfl)
end Go.Sim
