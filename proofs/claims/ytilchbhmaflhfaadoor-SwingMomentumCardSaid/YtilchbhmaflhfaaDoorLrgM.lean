/-
  Decimal numerals as lists of bytes.
-/
import Derived.Test.YtilchbhmaflhfaaDoorLrgL
import Derived.Lib.ItoaNum
import Derived.Lib.ParseIntB
namespace Go.Sim
open Go
set_option linter.unusedVariables false
set_option linter.unusedSimpArgs false
set_option linter.unusedSectionVars false
set_option linter.unnecessarySimpa false

/-! ### Bytes -/
abbrev bl (s : ByteArray) : List UInt8 := s.data.toList
def ba (l : List UInt8) : ByteArray := ⟨l.toArray⟩
@[simp] theorem bl_ba (l : List UInt8) : bl (ba l) = l := rfl
@[simp] theorem ba_bl (s : ByteArray) : ba (bl s) = s := by
  show (⟨s.data.toList.toArray⟩ : ByteArray) = s
  rw [Array.toArray_toList]
theorem bl_inj {a b : ByteArray} (h : bl a = bl b) : a = b := by rw [← ba_bl a, h, ba_bl]
theorem bl_len (s : ByteArray) : (bl s).length = s.size := by show s.data.toList.length = s.data.size; exact Array.length_toList
theorem ba_size (l : List UInt8) : (ba l).size = l.length := (bl_len (ba l)).symm
theorem bl_app (a b : ByteArray) : bl (a ++ b) = bl a ++ bl b := by show (a ++ b).data.toList = _; simp
theorem ba_app (a b : List UInt8) : ba a ++ ba b = ba (a ++ b) := bl_inj (bl_app _ _)
theorem ba_inj {a b : List UInt8} (h : ba a = ba b) : a = b := by have := congrArg bl h; simpa using this
theorem bl_extract (s : ByteArray) (i j : Nat) : bl (s.extract i j) = ((bl s).take j).drop i := by
  show (s.extract i j).data.toList = (s.data.toList.take j).drop i
  simp [ByteArray.data_extract, Array.toList_extract, List.drop_take]
theorem ba_extract (l : List UInt8) (i j : Nat) : (ba l).extract i j = ba ((l.take j).drop i) := bl_inj (by rw [bl_extract, bl_ba, bl_ba])
theorem size_app (a b : ByteArray) : (a ++ b).size = a.size + b.size := by rw [← bl_len, bl_app, List.length_append, bl_len, bl_len]

/-! ### Where a byte is -/
theorem indexByte_cases (c : UInt8) : ∀ (l : List UInt8), (c ∉ l ∧ Lib.indexByte l c = -1) ∨ ∃ a b, l = a ++ c :: b ∧ c ∉ a ∧ Lib.indexByte l c = a.length
  | [] => .inl ⟨by simp, rfl⟩
  | x :: l => by
    by_cases e : x = c
    · subst e
      exact .inr ⟨[], l, rfl, by simp, by simp [Lib.indexByte]⟩
    · have hb : (x == c) = false := by simpa using e
      rcases indexByte_cases c l with ⟨h1, h2⟩ | ⟨a, b, rfl, h2, h3⟩
      · refine .inl ⟨by simp [h1]; exact fun h => e h.symm, ?_⟩
        simp [Lib.indexByte, hb, h2]
      · refine .inr ⟨x :: a, b, rfl, by simp [h2]; exact fun h => e h.symm, ?_⟩
        simp only [Lib.indexByte, hb, h3]
        rw [if_neg (by simp), if_neg (by simp)]
        simp only [List.length_cons]; omega
theorem bytesL_one (c : UInt8) : bytesL (ba [c]) = [⟨c.toNat⟩] := by simp [bytesL, ba]
theorem toNat_toUInt8 (c : UInt8) : ((c.toNat : Int)).toNat.toUInt8 = c := by simp
theorem index_eq (s : ByteArray) (c : UInt8) : m_internal_stringslite_Index s (ba [c]) = some (Lib.indexByte (bl s) c) := by
  unfold m_internal_stringslite_Index m_internal_stringslite_IndexByte
  by_cases e : ba [c] = s
  · subst e
    rw [if_pos (by simp)]
    simp [Lib.indexByte]
  · rw [if_neg (by simp [ba_size, e]), if_pos (by simp [ba_size]), bytesL_one]
    simp [idx, idxB]
theorem bytesL_ba (l : List UInt8) : bytesL (ba l) = l.map fun b => (⟨b.toNat⟩ : U8) := rfl
theorem bstr_bytesL (l : List UInt8) : bstr (l.map fun b => (⟨b.toNat⟩ : U8)) = ba l := by
  refine bl_inj ?_
  show (List.map _ (List.map _ l)).toArray.toList = l
  rw [List.map_map, List.toList_toArray]
  conv => rhs; rw [← List.map_id l]
  refine List.map_congr_left fun b _ => ?_
  simp

/-! ### Digits -/
def Dig (c : UInt8) : Prop := 48 ≤ c.toNat ∧ c.toNat ≤ 57
instance (c : UInt8) : Decidable (Dig c) := by unfold Dig; infer_instance
def dvF (acc : Nat) : List UInt8 → Nat
  | [] => acc
  | c :: r => dvF (acc * 10 + (c.toNat - 48)) r
def dv (l : List UInt8) : Nat := dvF 0 l
theorem dvF_eq : ∀ (l : List UInt8) (acc : Nat), dvF acc l = acc * 10 ^ l.length + dv l
  | [], acc => by
    rw [List.length_nil, Nat.pow_zero, Nat.mul_one]; rfl
  | c :: r, acc => by
    have h2 := dvF_eq r (0 * 10 + (c.toNat - 48))
    unfold dv dvF
    rw [dvF_eq r, h2, List.length_cons, Nat.pow_succ]
    have : (acc * 10 + (c.toNat - 48)) * 10 ^ r.length = acc * (10 ^ r.length * 10) + (0 * 10 + (c.toNat - 48)) * 10 ^ r.length := by
      rw [Nat.add_mul, Nat.zero_mul, Nat.zero_add, Nat.mul_assoc, Nat.mul_comm 10]
    rw [this, Nat.add_assoc]
theorem dv_app (a b : List UInt8) : dv (a ++ b) = dv a * 10 ^ b.length + dv b := by
  have key : ∀ (a : List UInt8) (acc : Nat), dvF acc (a ++ b) = dvF (dvF acc a) b := by
    intro a
    induction a with
    | nil => intro acc; rfl
    | cons c r ih => intro acc; exact ih _
  unfold dv
  rw [key, dvF_eq]; rfl
theorem dv_one (c : UInt8) : dv [c] = c.toNat - 48 := by
  show 0 * 10 + (c.toNat - 48) = _
  omega
theorem dv_cons (c : UInt8) (r : List UInt8) : dv (c :: r) = (c.toNat - 48) * 10 ^ r.length + dv r := by
  have := dv_app [c] r
  rw [dv_one] at this; simpa using this
theorem dv_zeros (n : Nat) : dv (List.replicate n (48 : UInt8)) = 0 := by
  induction n with
  | zero => rfl
  | succ n ih => rw [List.replicate_succ, dv_cons, ih]; simp
theorem dv_lt : ∀ {l : List UInt8}, (∀ c ∈ l, Dig c) → dv l < 10 ^ l.length
  | [], _ => by
    show 0 < 10 ^ 0
    decide
  | c :: r, h => by
    have h1 := dv_lt (l := r) (fun z hz => h z (List.mem_cons_of_mem _ hz))
    have h2 := (h c (List.mem_cons_self ..)).2
    rw [dv_cons, List.length_cons, Nat.pow_succ, Nat.mul_comm (10 ^ r.length) 10]
    have : (c.toNat - 48) * 10 ^ r.length ≤ 9 * 10 ^ r.length := Nat.mul_le_mul_right _ (by omega)
    generalize 10 ^ r.length = P at *
    omega
theorem dv_ge {c : UInt8} {r : List UInt8} (hc : Dig c) (h0 : c ≠ 48) : 10 ^ r.length ≤ dv (c :: r) := by
  have : 1 ≤ c.toNat - 48 := by
    have := hc.1
    have hne : c.toNat ≠ 48 := fun e => h0 (UInt8.toNat_inj.1 (by rw [e]; rfl))
    omega
  rw [dv_cons]
  have : 1 * 10 ^ r.length ≤ (c.toNat - 48) * 10 ^ r.length := Nat.mul_le_mul_right _ this
  generalize 10 ^ r.length = P at *
  omega
/-- A numeral as it is written: digits, and no zero ahead but "0" itself. -/
structure Num (l : List UInt8) : Prop where
  dig : ∀ c ∈ l, Dig c
  ne : l ≠ []
  lead : l.head? = some 48 → l = [48]
theorem head_app {a b : List UInt8} (h : a ≠ []) : (a ++ b).head? = a.head? := by
  cases a with
  | nil => exact absurd rfl h
  | cons x r => rfl
theorem dig_of {u : Nat} (h : u < 10) : (UInt8.ofNat (48 + u)).toNat = 48 + u := by rw [UInt8.toNat_ofNat']; omega
theorem num_dec (u : Nat) : Num (Lib.decDigits u) ∧ dv (Lib.decDigits u) = u := by
  induction u using Nat.strongRecOn with
  | _ u ih =>
    by_cases h : u < 10
    · rw [Lib.decDigits_one h]
      have hd := dig_of h
      refine ⟨⟨fun c hc => ?_, by simp, fun hh => ?_⟩, by rw [dv_one, hd]; omega⟩
      · rw [List.mem_singleton] at hc; subst hc; unfold Dig; omega
      · simp only [List.head?_cons, Option.some.injEq] at hh
        rw [hh]
    · obtain ⟨h1, h2⟩ := ih (u / 10) (by omega)
      have e : Lib.decDigits u = Lib.decDigits (u / 10) ++ [UInt8.ofNat (48 + u % 10)] := by rw [Lib.decDigits, dif_neg h]
      have hd := dig_of (u := u % 10) (by omega)
      rw [e]
      refine ⟨⟨fun c hc => ?_, by simp, fun hh => ?_⟩, ?_⟩
      · rcases List.mem_append.1 hc with hc | hc
        · exact h1.dig c hc
        · rw [List.mem_singleton] at hc; subst hc; unfold Dig; omega
      · rw [head_app h1.ne] at hh
        have := h1.lead hh
        rw [this] at h2
        have : dv [48] = 0 := rfl
        omega
      · rw [dv_app, h2, dv_one, hd]
        simp only [List.length_singleton, Nat.pow_one]; omega
theorem num_inj : ∀ {a b : List UInt8}, Num a → Num b → dv a = dv b → a = b := by
  have zero : ∀ {a : List UInt8}, Num a → dv a = 0 → a = [48] := by
    intro a ha h0
    cases a with
    | nil => exact absurd rfl ha.ne
    | cons c r =>
      by_cases hc : c = 48
      · exact ha.lead (by rw [hc]; rfl)
      · have := dv_ge (r := r) (ha.dig c (List.mem_cons_self ..)) hc
        have : 0 < 10 ^ r.length := Nat.pow_pos (by decide)
        omega
  have eqlen : ∀ (a b : List UInt8), a.length = b.length → (∀ c ∈ a, Dig c) → (∀ c ∈ b, Dig c) → dv a = dv b → a = b := by
    intro a
    induction a with
    | nil => intro b hl _ _ _; cases b with | nil => rfl | cons _ _ => simp at hl
    | cons c r ih =>
      intro b hl ha hb h
      cases b with
      | nil => simp at hl
      | cons d s =>
        have hl' : r.length = s.length := by simpa using hl
        have h1 := dv_lt (l := r) (fun z hz => ha z (List.mem_cons_of_mem _ hz))
        have h2 := dv_lt (l := s) (fun z hz => hb z (List.mem_cons_of_mem _ hz))
        have hc := ha c (List.mem_cons_self ..)
        have hd := hb d (List.mem_cons_self ..)
        rw [dv_cons, dv_cons, ← hl'] at h
        rw [← hl'] at h2
        have hP : 0 < 10 ^ r.length := Nat.pow_pos (by decide)
        have e1 : c.toNat - 48 = d.toNat - 48 := by
          have q1 : ((c.toNat - 48) * 10 ^ r.length + dv r) / 10 ^ r.length = c.toNat - 48 := by
            rw [Nat.add_comm, Nat.add_mul_div_right _ _ hP, Nat.div_eq_of_lt h1, Nat.zero_add]
          have q2 : ((d.toNat - 48) * 10 ^ r.length + dv s) / 10 ^ r.length = d.toNat - 48 := by
            rw [Nat.add_comm, Nat.add_mul_div_right _ _ hP, Nat.div_eq_of_lt h2, Nat.zero_add]
          rw [← q1, h, q2]
        have e2 : c = d := UInt8.toNat_inj.1 (by have := hc.1; have := hd.1; omega)
        rw [e1] at h
        rw [e2, ih s hl' (fun z hz => ha z (List.mem_cons_of_mem _ hz)) (fun z hz => hb z (List.mem_cons_of_mem _ hz)) (by omega)]
  intro a b ha hb h
  by_cases h0 : dv a = 0
  · rw [zero ha h0, zero hb (by omega)]
  · have big : ∀ {l : List UInt8}, Num l → dv l ≠ 0 → ∃ c r, l = c :: r ∧ 10 ^ r.length ≤ dv l := by
      intro l hl hz
      cases l with
      | nil => exact absurd rfl hl.ne
      | cons c r =>
        refine ⟨c, r, rfl, dv_ge (hl.dig c (List.mem_cons_self ..)) (fun hc => hz ?_)⟩
        rw [hl.lead (by rw [hc]; rfl)]; rfl
    obtain ⟨c, r, rfl, h1⟩ := big ha h0
    obtain ⟨d, s, rfl, h2⟩ := big hb (by omega)
    have h3 := dv_lt ha.dig
    have h4 := dv_lt hb.dig
    refine eqlen _ _ ?_ ha.dig hb.dig h
    rw [h] at h1 h3
    have l1 : r.length < (d :: s).length := (Nat.pow_lt_pow_iff_right (by decide)).1 (Nat.lt_of_le_of_lt h1 h4)
    have l2 : s.length < (c :: r).length := (Nat.pow_lt_pow_iff_right (by decide)).1 (Nat.lt_of_le_of_lt h2 h3)
    simp only [List.length_cons] at l1 l2 ⊢; omega
theorem dec_of {l : List UInt8} (h : Num l) : Lib.decDigits (dv l) = l := num_inj (num_dec _).1 h (num_dec _).2
theorem nd_le {u k : Nat} (hk : 1 ≤ k) (h : u < 10 ^ k) : (Lib.decDigits u).length ≤ k := by
  obtain ⟨h1, h2⟩ := num_dec u
  cases hl : Lib.decDigits u with
  | nil => simp
  | cons c r =>
    rw [hl] at h1 h2
    by_cases hc : c = 48
    · rw [h1.lead (by rw [hc]; rfl)]; simpa using hk
    · have := dv_ge (r := r) (h1.dig c (List.mem_cons_self ..)) hc
      rw [h2] at this
      have : r.length < k := (Nat.pow_lt_pow_iff_right (by decide)).1 (Nat.lt_of_le_of_lt this h)
      rw [List.length_cons]; exact this
theorem lt_of_nd {u k : Nat} (h : (Lib.decDigits u).length ≤ k) : u < 10 ^ k := by
  obtain ⟨h1, h2⟩ := num_dec u
  have := dv_lt h1.dig
  rw [h2] at this
  exact Nat.lt_of_lt_of_le this (Nat.pow_le_pow_right (by decide) h)
theorem nd_iff {u k : Nat} (hk : 1 ≤ k) : (Lib.decDigits u).length ≤ k ↔ u < 10 ^ k := ⟨lt_of_nd, nd_le hk⟩
/-- digits of a number below 10 ^ k, with zeros ahead. -/
def pad (k : Nat) (r : Nat) : List UInt8 := List.replicate (k - (Lib.decDigits r).length) 48 ++ Lib.decDigits r
theorem pad_len {k r : Nat} (hk : 1 ≤ k) (h : r < 10 ^ k) : (pad k r).length = k := by
  have := nd_le hk h
  unfold pad
  rw [List.length_append, List.length_replicate]; omega
theorem pad_dig (k r : Nat) : ∀ c ∈ pad k r, Dig c := by
  intro c hc
  rcases List.mem_append.1 hc with hc | hc
  · rw [(List.mem_replicate.1 hc).2]; exact ⟨by decide, by decide⟩
  · exact (num_dec r).1.dig c hc
theorem dv_pad (k r : Nat) : dv (pad k r) = r := by
  unfold pad
  rw [dv_app, dv_zeros, (num_dec r).2]; omega
theorem dec_pad {k q r : Nat} (hk : 1 ≤ k) (hq : 0 < q) (hr : r < 10 ^ k) : Lib.decDigits (q * 10 ^ k + r) = Lib.decDigits q ++ pad k r := by
  obtain ⟨h1, h2⟩ := num_dec q
  refine num_inj (num_dec _).1 ⟨fun c hc => ?_, by simp [h1.ne], fun hh => ?_⟩ ?_
  · rcases List.mem_append.1 hc with hc | hc
    · exact h1.dig c hc
    · exact pad_dig _ _ c hc
  · rw [head_app h1.ne] at hh
    rw [h1.lead hh] at h2
    have : dv [48] = 0 := rfl
    omega
  · rw [(num_dec _).2, dv_app, h2, pad_len hk hr, dv_pad]
theorem parseM {M : Nat} (hM : M < 1844674407370955162) : ∀ (l : List UInt8) (acc : Nat), (∀ c ∈ l, Dig c) → dvF acc l ≤ M → acc ≤ M → Lib.parseUintM M acc l = .ok (dvF acc l)
  | [], acc, _, _, _ => rfl
  | c :: r, acc, h, hl, ha => by
    have hc := h c (List.mem_cons_self ..)
    have hle : acc * 10 + (c.toNat - 48) ≤ M := by
      have := dvF_eq r (acc * 10 + (c.toNat - 48))
      have h1 : dvF acc (c :: r) = dvF (acc * 10 + (c.toNat - 48)) r := rfl
      have hP : 1 ≤ 10 ^ r.length := Nat.pow_pos (by decide)
      have : (acc * 10 + (c.toNat - 48)) * 1 ≤ (acc * 10 + (c.toNat - 48)) * 10 ^ r.length := Nat.mul_le_mul_left _ hP
      generalize 10 ^ r.length = P at *
      omega
    rw [Lib.parseUintM, if_pos (show 48 ≤ c.toNat ∧ c.toNat ≤ 57 from hc), if_neg (by omega), if_neg (by omega)]
    exact parseM hM r _ (fun z hz => h z (List.mem_cons_of_mem _ hz)) hl hle
theorem puB_dig {l : List UInt8} (h : ∀ c ∈ l, Dig c) (hl : l.length ≤ 9) : puB (ba l) = ((dv l : Int), false) := by
  unfold puB
  have h1 := dv_lt h
  have h2 : 10 ^ l.length ≤ 10 ^ 9 := Nat.pow_le_pow_right (by decide) hl
  have e := parseM (M := 4294967295) (by decide) l 0 h (by show dv l ≤ _; omega) (by omega)
  show (match Lib.parseUintM 4294967295 0 l with | .ok v => ((v : Int), false) | .syntax => (0, true) | .range => (4294967295, true)) = _
  rw [e]; rfl
end Go.Sim
