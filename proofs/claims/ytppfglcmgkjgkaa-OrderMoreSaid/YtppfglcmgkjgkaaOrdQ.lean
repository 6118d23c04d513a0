/-
  States as numbers.
-/
import Derived.Test.YtppfglcmgkjgkaaOrdP
import Derived.KernelRfl
namespace Go.Sim
open Go
set_option linter.unusedVariables false
set_option linter.unusedSimpArgs false
set_option linter.unusedSectionVars false
set_option linter.unnecessarySimpa false

/-! ### Bits of small numbers -/
def orV (a : Int) (k : Int) : Int := IntKind.i64.wrap ((BitVec.ofInt (IntKind.i64).bits a ||| BitVec.ofInt (IntKind.i64).bits (shlV .i64 1 k)).toNat)
def xorV (a : Int) (k : Int) : Int := IntKind.i64.wrap ((BitVec.ofInt (IntKind.i64).bits a ^^^ BitVec.ofInt (IntKind.i64).bits (shlV .i64 1 k)).toNat)
def bitV (a : Int) (k : Int) : Bool := decide ((IntKind.i64.wrap ((BitVec.ofInt (IntKind.i64).bits (shrV .i64 a k) &&& BitVec.ofInt (IntKind.i64).bits 1).toNat)) = 1)
def bitsOk : Bool := (List.range 256).all fun a => (List.range 8).all fun k => decide (orV (a : Int) (k : Int) = ((a ||| 2 ^ k : Nat) : Int)) && decide (xorV (a : Int) (k : Int) = ((a ^^^ 2 ^ k : Nat) : Int)) && (bitV (a : Int) (k : Int) == a.testBit k)
theorem bitsOk_true : bitsOk = true := by kernel_rfl
theorem bits_all {a k : Nat} (ha : a < 256) (hk : k < 8) : orV (a : Int) (k : Int) = ((a ||| 2 ^ k : Nat) : Int) ∧ xorV (a : Int) (k : Int) = ((a ^^^ 2 ^ k : Nat) : Int) ∧ bitV (a : Int) (k : Int) = a.testBit k := by
  have h := bitsOk_true
  unfold bitsOk at h
  rw [List.all_eq_true] at h
  have h := h a (List.mem_range.2 ha)
  rw [List.all_eq_true] at h
  have h := h k (List.mem_range.2 hk)
  simp only [Bool.and_eq_true, decide_eq_true_eq, beq_iff_eq] at h
  exact ⟨h.1.1, h.1.2, h.2⟩

theorem tb_or (a k j : Nat) : (a ||| 2 ^ k).testBit j = (a.testBit j || decide (k = j)) := by
  rw [Nat.testBit_or, Nat.testBit_two_pow]
theorem tb_xor (a k j : Nat) : (a ^^^ 2 ^ k).testBit j = (a.testBit j ^^ decide (k = j)) := by
  rw [Nat.testBit_xor, Nat.testBit_two_pow]
theorem tb_hi {a n j : Nat} (h : a < 2 ^ n) (hj : n ≤ j) : a.testBit j = false :=
  Nat.testBit_lt_two_pow (Nat.lt_of_lt_of_le h (Nat.pow_le_pow_right (by decide) hj))
theorem lt_of_tb {a n : Nat} (h : ∀ j, n ≤ j → a.testBit j = false) : a < 2 ^ n := Nat.lt_pow_two_of_testBit a (fun j hj => h j hj)
theorem xor_lt {a n k : Nat} (ha : a < 2 ^ n) (hk : k < n) : a ^^^ 2 ^ k < 2 ^ n := lt_of_tb fun j hj => by
  rw [tb_xor, tb_hi ha hj]; simp; omega
theorem or_lt {a n k : Nat} (ha : a < 2 ^ n) (hk : k < n) : a ||| 2 ^ k < 2 ^ n := lt_of_tb fun j hj => by
  rw [tb_or, tb_hi ha hj]; simp; omega
theorem xor_xor (a k : Nat) : (a ^^^ 2 ^ k) ^^^ 2 ^ k = a := by
  rw [Nat.xor_assoc, Nat.xor_self, Nat.xor_zero]
theorem pow8 {n : Nat} (h : n ≤ 8) : 2 ^ n ≤ 256 := by
  have := Nat.pow_le_pow_right (n := 2) (by decide) h
  simpa using this

/-- The states of some switches, by a number. -/
def stOf (names : List ByteArray) (c : Nat) : List Sw := names.mapIdx fun i nm => ⟨nm, c.testBit i⟩
theorem stOf_len (names : List ByteArray) (c : Nat) : (stOf names c).length = names.length := by simp [stOf]
theorem stOf_get (names : List ByteArray) (c i : Nat) : (stOf names c)[i]? = names[i]?.map fun nm => ⟨nm, c.testBit i⟩ := by simp [stOf]
theorem stOf_names (names : List ByteArray) (c : Nat) : (stOf names c).map (·.Name) = names := by
  apply List.ext_getElem?
  intro i
  rw [List.getElem?_map, stOf_get]
  cases names[i]? <;> rfl
theorem stOf_mem {names : List ByteArray} {c : Nat} {x : Sw} (h : x ∈ stOf names c) : x.Name ∈ names := by
  rw [← stOf_names names c]; exact List.mem_map.2 ⟨x, h, rfl⟩
/-- The number of states. -/
def codN : Nat → List Sw → Nat
  | _, [] => 0
  | k, x :: xs => (if x.Closed then 2 ^ k else 0) ||| codN (k + 1) xs
theorem codN_bit : ∀ (l : List Sw) (k j : Nat), (codN k l).testBit j = if k ≤ j then (match l[j - k]? with | some x => x.Closed | none => false) else false
  | [], k, j => by simp [codN]
  | x :: xs, k, j => by
    simp only [codN]
    rw [Nat.testBit_or, codN_bit xs (k + 1) j]
    by_cases h : k = j
    · subst h
      rw [if_neg (show ¬ k + 1 ≤ k by omega), if_pos (Nat.le_refl _), Nat.sub_self]
      cases h : x.Closed <;> simp [h]
    · have e : (if x.Closed = true then 2 ^ k else 0).testBit j = false := by
        split
        · rw [Nat.testBit_two_pow]; simp [h]
        · simp
      rw [e, Bool.false_or]
      by_cases h2 : k ≤ j
      · rw [if_pos h2, if_pos (by omega), show j - k = (j - (k + 1)) + 1 by omega, List.getElem?_cons_succ]
      · rw [if_neg h2, if_neg (by omega)]
theorem codN_lt (l : List Sw) : codN 0 l < 2 ^ l.length := lt_of_tb fun j hj => by
  rw [codN_bit, if_pos (by omega), Nat.sub_zero, List.getElem?_eq_none hj]
theorem stOf_codN (l : List Sw) : stOf (l.map (·.Name)) (codN 0 l) = l := by
  apply List.ext_getElem?
  intro i
  rw [stOf_get, List.getElem?_map, codN_bit, if_pos (by omega), Nat.sub_zero]
  cases h : l[i]? with
  | none => simp
  | some x => simp
theorem codN_stOf {names : List ByteArray} {c : Nat} (hc : c < 2 ^ names.length) : codN 0 (stOf names c) = c := by
  apply Nat.eq_of_testBit_eq
  intro j
  rw [codN_bit, if_pos (by omega), Nat.sub_zero, stOf_get]
  cases h : names[j]? with
  | none => 
    simp only [Option.map_none]
    rw [tb_hi hc (by simpa using h)]
  | some x => simp
theorem code_eq (l : List Sw) (hl : l.length ≤ 8) : m_order_code l = some ((codN 0 l : Nat) : Int) := by
  unfold m_order_code
  have key : ∀ (ys : List Sw) (k a : Nat), k + ys.length ≤ 8 → a < 2 ^ k → forI (fun k y s n => m_order_code_b3 k y s n) (fun s => some s) k ys (a : Int) = some (((a ||| codN k ys : Nat)) : Int) := by
    intro ys
    induction ys with
    | nil => intro k a _ _; simp [forI, codN]
    | cons y ys ih =>
      intro k a hk ha
      simp only [List.length_cons] at hk
      have ha2 : a < 256 := Nat.lt_of_lt_of_le ha (pow8 (by omega))
      show m_order_code_b3 k y (a : Int) (forI (fun k y s n => m_order_code_b3 k y s n) (fun s => some s) (k + 1) ys) = _
      have hlt : a < 2 ^ (k + 1) := Nat.lt_of_lt_of_le ha (Nat.pow_le_pow_right (by decide) (by omega))
      have ih1 := ih (k + 1) a (by omega) hlt
      have ih2 := ih (k + 1) (a ||| 2 ^ k) (by omega) (or_lt hlt (by omega))
      generalize forI (fun k y s n => m_order_code_b3 k y s n) (fun s => some s) (k + 1) ys = nx at ih1 ih2 ⊢
      unfold m_order_code_b3 m_order_code_b4
      simp only [codN]
      split
      · unfold need
        rw [if_pos (by omega)]
        have := (bits_all ha2 (show k < 8 by omega)).1
        unfold orV at this
        rw [this, ih2, Nat.or_assoc]
      · rw [ih1]; simp
  have := key l 0 0 (by omega) (by simp)
  simpa using this
theorem code_stOf {names : List ByteArray} {c : Nat} (hc : c < 2 ^ names.length) (hn : names.length ≤ 8) : m_order_code (stOf names c) = some (c : Int) := by
  rw [code_eq _ (by rw [stOf_len]; exact hn), codN_stOf hc]

/-- Names of switches. -/
structure NamesOk (names : List ByteArray) : Prop where
  len : names.length ≤ 8
  nm : ∀ x ∈ names, m_netmodel_Name x = some true
  nd : names.Nodup
  sz : ∀ x ∈ names, x.size ≤ maxLen
theorem NamesOk.sws {names : List ByteArray} (h : NamesOk names) (c : Nat) : SwsOk (stOf names c) :=
  ⟨by rw [stOf_len]; have := h.len; omega, fun x hx => h.nm _ (stOf_mem hx), by rw [stOf_names]; exact h.nd⟩
theorem NamesOk.ssz {names : List ByteArray} (h : NamesOk names) (c : Nat) : ∀ x ∈ stOf names c, x.Name.size ≤ maxLen := fun x hx => h.sz _ (stOf_mem hx)

theorem set_gd {names : List ByteArray} (h : NamesOk names) {c i : Nat} (hc : c < 2 ^ names.length) {nm : ByteArray} (hi : names[i]? = some nm) (closing : Bool) :
    m_interlock_Set (stOf names c) closing nm = if c.testBit i = closing then some ([], 11) else some (stOf names (c ^^^ 2 ^ i), 0) := by
  obtain ⟨f, hf, hfq⟩ := states_gd (stOf names c) (h.ssz c)
  have f0 := hfq.2 (h.sws c)
  subst f0
  unfold m_interlock_Set
  rw [hf]
  obtain ⟨r, hr, hA⟩ := index_gd (stOf names c) nm
  simp only [Option.bind_some, decide_true, Bool.not_true, Bool.false_eq_true, if_false]
  rw [hr]
  have hx : (stOf names c)[i]? = some ⟨nm, c.testBit i⟩ := by rw [stOf_get, hi]; rfl
  have hr0 : 0 ≤ r := by
    refine Int.not_lt.1 fun hlt => ?_
    exact hA.no hlt _ (List.mem_of_getElem? hx) rfl
  obtain ⟨x, hxr, hxn⟩ := hA.yes hr0
  have hri : r.toNat = i := by
    rw [stOf_get] at hxr
    obtain ⟨nm', hnm', e⟩ := Option.map_eq_some_iff.1 hxr
    have : nm' = nm := by rw [← e] at hxn; exact hxn
    subst this
    have h1 := lt_of hnm'
    have h2 := lt_of hi
    rw [List.getElem?_eq_getElem h1] at hnm'
    rw [List.getElem?_eq_getElem h2] at hi
    have := hnm'.trans hi.symm
    exact (List.getElem_inj h.nd).1 (Option.some.inj this)
  simp only [Option.bind_some]
  rw [if_neg (by simp; omega)]
  unfold idx
  rw [if_pos hr0, hri, hx]
  simp only [decide_eq_true_eq]
  split
  · rfl
  · rename_i hne
    have hlen := h.len
    unfold need
    rw [if_pos (by rw [stOf_len]; omega)]
    congr 2
    apply List.ext_getElem?
    intro j
    rw [List.getElem?_set, stOf_get, stOf_get, stOf_len, tb_xor]
    by_cases e : i = j
    · subst e
      rw [if_pos rfl, if_pos (lt_of hi), hi]
      simp
      revert hne
      cases c.testBit i <;> cases closing <;> simp
    · rw [if_neg e]
      simp [e]
end Go.Sim
