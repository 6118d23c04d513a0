/-
  Numerals that are read.
-/
import Derived.Test.YtfakgoeoclfoaaaGreatDoorLrgM
namespace Go.Sim
open Go
set_option linter.unusedVariables false
set_option linter.unusedSimpArgs false
set_option linter.unusedSectionVars false
set_option linter.unnecessarySimpa false

theorem pre_minus (l : List UInt8) : m_internal_stringslite_HasPrefix (ba l) (⟨#[45]⟩) = some (decide (l.head? = some 45)) := by
  have h1 : (⟨#[45]⟩ : ByteArray).size = 1 := rfl
  unfold m_internal_stringslite_HasPrefix
  rw [h1, ba_size]
  cases l with
  | nil => rfl
  | cons c r =>
    rw [if_pos (by simp; omega)]
    unfold need
    rw [if_pos (by simp only [List.length_cons]; omega), show ((1 : Nat) : Int).toNat = 1 from rfl, ba_extract]
    congr 1
    have e : (ba (((c :: r).take 1).drop 0) = (⟨#[45]⟩ : ByteArray)) ↔ ((c :: r).head? = some 45) := by
      rw [show (⟨#[45]⟩ : ByteArray) = ba [45] from rfl]
      constructor
      · intro h
        have := ba_inj h
        simp at this
        simp [this]
      · intro h
        simp only [List.head?_cons, Option.some.injEq] at h
        rw [h]; rfl
    exact decide_eq_decide.2 e
theorem has_minus (l : List UInt8) : m_strings_HasPrefix (ba l) (⟨#[45]⟩) = some (decide (l.head? = some 45)) := by
  unfold m_strings_HasPrefix
  rw [pre_minus l]; rfl
theorem trim_minus (l : List UInt8) : m_strings_TrimPrefix (ba l) (⟨#[45]⟩) = some (ba (if l.head? = some 45 then l.tail else l)) := by
  have h1 : (⟨#[45]⟩ : ByteArray).size = 1 := rfl
  unfold m_strings_TrimPrefix m_internal_stringslite_TrimPrefix
  rw [pre_minus l]
  simp only [Option.bind_some]
  by_cases h : l.head? = some 45
  · rw [if_pos (by simp [h]), if_pos h, h1, ba_size]
    cases l with
    | nil => cases h
    | cons c r =>
      unfold need
      rw [if_pos (by simp only [List.length_cons]; omega), show ((1 : Nat) : Int).toNat = 1 from rfl, ba_extract]
      simp
  · rw [if_neg (by simp [h]), if_neg h]; rfl
theorem IOk.plus {a : LI} (h : IOk a) (h0 : 0 ≤ ival a) : a.minus = false := by
  cases hm : a.minus with
  | false => rfl
  | true =>
    have hne := h.sign hm
    have : nv a.words ≠ 0 := fun e => hne ((nv_zero h.wf h.tp).1 e)
    unfold ival at h0
    rw [if_pos hm] at h0; omega
theorem chunk_n {n : Nat} (h : 0 < n) (h2 : n ≤ 100000) : IntKind.i64.wrap ((Int.tmod (IntKind.i64.wrap ((n : Int) - 1)) 9) + 1) = (((n - 1) % 9 + 1 : Nat) : Int) := by
  rw [wrap_id (n := (n : Int) - 1) ⟨by omega, by omega⟩]
  have : Int.tmod ((n : Int) - 1) 9 = (((n - 1) % 9 : Nat) : Int) := by
    rw [show (n : Int) - 1 = ((n - 1 : Nat) : Int) by omega]
    rw [Int.tmod_eq_emod_of_nonneg (by omega)]; rfl
  rw [this, wrap_id ⟨by omega, by omega⟩]; omega
theorem read_step {D n c v P : Nat} (h : D = 0 ∨ n = 9) (hP : P = 10 ^ n) : D * 10 ^ 9 + c = D * P + c := by
  rcases h with h | h
  · rw [h, Nat.zero_mul, Nat.zero_mul]
  · rw [hP, h]
theorem read_gd {ds : List UInt8} (h : ∀ c ∈ ds, Dig c) (hl : ds.length ≤ 2000) (neg : Bool) :
    Gd (m_large_Read (ba (if neg = true then 45 :: ds else ds))) (fun a => IOk a ∧ a.words.length ≤ 10000 ∧ ival a = if neg = true then -(dv ds : Int) else dv ds) := by
  unfold m_large_Read
  have hll : (if neg = true then 45 :: ds else ds).length ≤ 1000000 := by
    split
    · simp only [List.length_cons]; omega
    · omega
  have hhd : (if neg = true then 45 :: ds else ds).head? = some 45 ↔ neg = true := by
    cases neg with
    | true => simp
    | false =>
      simp only [Bool.false_eq_true, if_false, iff_false]
      intro hh
      cases ds with
      | nil => cases hh
      | cons c r =>
        simp only [List.head?_cons, Option.some.injEq] at hh
        have := (h c (List.mem_cons_self ..)).1
        rw [hh] at this; exact absurd this (by decide)
  have htr : (if (if neg = true then 45 :: ds else ds).head? = some 45 then (if neg = true then 45 :: ds else ds).tail else (if neg = true then 45 :: ds else ds)) = ds := by
    cases neg with
    | true => simp
    | false => rw [if_neg (by rw [hhd]; simp)]; simp
  refine Gd.bind_eq (has_minus _) (Gd.bind_eq (trim_minus _) ?_)
  rw [htr]
  have hdec : decide ((if neg = true then 45 :: ds else ds).head? = some 45) = neg := by
    cases neg with
    | true => simp
    | false => rw [decide_eq_false (by rw [hhd]; simp)]
  rw [hdec]
  refine Gd.loopF (fun (z : ByteArray × Bool × List U32) => ∃ pre suf : List UInt8, ds = pre ++ suf ∧ z.1 = ba suf ∧ z.2.1 = false ∧ IOk ⟨false, z.2.2⟩ ∧ (nv z.2.2 = dv pre) ∧ z.2.2.length ≤ 5 * pre.length ∧ (pre = [] ∨ suf.length % 9 = 0))
    (fun z => z.1.size) ?_ FUEL _ ⟨[], ds, rfl, rfl, rfl, ⟨Wf.nil, fun y hy => by simp at hy, fun hh => by simp at hh⟩, rfl, by simp, .inl rfl⟩ (by rw [ba_size]; simp only [FUEL]; omega)
  rintro ⟨s, c, w⟩ nx ⟨pre, suf, e1, e2, e3, e4, e5, e6, e7⟩ hnx
  simp only at e2 e3 e4 e5 e6 e7 hnx ⊢
  subst e2 e3
  have hlen : pre.length + suf.length ≤ 2000 := by rw [← List.length_append, ← e1]; exact hl
  unfold m_large_Read_b3
  rw [ba_size]
  refine Gd.ite (fun h0 => ?_) (fun h0 => ?_)
  · have h0 : 0 < suf.length := by have := of_decide_eq_true h0; omega
    rw [chunk_n h0 (by omega)]
    generalize hn : (suf.length - 1) % 9 + 1 = n
    have hn9 : n ≤ 9 := by omega
    have hns : n ≤ suf.length := by have := Nat.mod_le (suf.length - 1) 9; omega
    rw [Int.toNat_natCast, ba_extract, ba_extract, List.drop_zero, List.take_of_length_le (Nat.le_refl _), ba_size]
    have htl : (suf.take n).length = n := by rw [List.length_take]; omega
    have hdg : ∀ x ∈ suf.take n, Dig x := fun x hx => h x (by rw [e1]; exact List.mem_append_right _ (List.mem_of_mem_take hx))
    have hpu := puB_dig hdg (by rw [htl]; exact hn9)
    have hdl : dv (suf.take n) < 10 ^ 9 := Nat.lt_of_lt_of_le (dv_lt hdg) (Nat.pow_le_pow_right (by decide) (by omega))
    rw [hpu, htl]
    refine Gd.nd ⟨by omega, by omega⟩ (Gd.nd ⟨by omega, by omega, rfl⟩ ?_)
    rw [wrap_id (n := (dv (suf.take n) : Int)) ⟨by omega, by omega⟩]
    refine Gd.bnd (of_gd (n := 1000000000) (by omega)) (fun t ht => Gd.bnd (mul_gd e4 ht.1 (by simp only; omega)) (fun m hm => Gd.bnd (of_gd (n := (dv (suf.take n) : Int)) (by omega)) (fun u hu => Gd.bnd (iadd_gd hm.1 hu.1 (by simp only at hm; omega) (by omega)) (fun r hr => Gd.nd ⟨by omega, by omega⟩ ?_))))
    have hiv : ival (⟨false, w⟩ : LI) = (dv pre : Int) := by unfold ival; simp only [Bool.false_eq_true, if_false]; rw [e5]
    have hval : ival r = ((dv (pre ++ suf.take n) : Nat) : Int) := by
      rw [hr.2.2, hm.2.2, ht.2.2, hu.2.2, hiv, dv_app, htl]
      have := read_step (D := dv pre) (n := n) (c := dv (suf.take n)) (v := 0) (P := 10 ^ n) (by
        rcases e7 with e7 | e7
        · left; rw [e7]; rfl
        · right; omega) rfl
      rw [← this]
      have e9 : (10 ^ 9 : Nat) = 1000000000 := rfl
      rw [e9]
      generalize dv pre = A
      generalize dv (suf.take n) = C
      omega
    have hrm : r.minus = false := hr.1.plus (by rw [hval]; omega)
    refine hnx _ ⟨pre ++ suf.take n, suf.drop n, by rw [List.append_assoc, List.take_append_drop]; exact e1, rfl, hrm, ?_, ?_, ?_, ?_⟩ ?_
    · rw [← hrm]; exact hr.1
    · have := hval
      unfold ival at this
      rw [if_neg (by rw [hrm]; simp)] at this
      simp only; omega
    · simp only at hm ⊢
      rw [List.length_append, htl]; omega
    · right; rw [List.length_drop]; omega
    · simp only [ba_size, List.length_drop]; omega
  · have h0 : ¬ 0 < suf.length := by have := of_decide_eq_false h0; omega
    have hs0 : suf = [] := List.eq_nil_of_length_eq_zero (by omega)
    subst hs0
    rw [List.append_nil] at e1
    subst e1
    unfold m_large_Read_b2
    have e4w : Wf w := e4.wf
    have e4t : Top w := e4.top
    refine Gd.ite (fun hneg => Gd.ret ⟨⟨e4.wf, e4.top, fun hm hw => ?_⟩, by simp only; omega, ?_⟩) (fun hneg => Gd.ret ⟨e4, by simp only; omega, ?_⟩)
    · have hw : w = [] := hw
      subst hw
      simp at hm
    · rw [if_pos hneg]
      unfold ival
      simp only [decide_eq_true_eq]
      split
      · rw [e5]
      · rename_i hh
        have : w = [] := List.eq_nil_of_length_eq_zero (by omega)
        rw [this] at e5 ⊢
        rw [← e5]; rfl
    · rw [if_neg (by rw [hneg]; simp)]
      unfold ival
      simp only [Bool.false_eq_true, if_false]
      rw [e5]
end Go.Sim
