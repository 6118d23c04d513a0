/-
  The archive's texts, in plain Lean: lines, digests, numerals to the base 16.
-/
import Derived.Test.YtldmgakhhhjhoaaDoorAspP
import Derived.Test.YtldmgakhhhjhoaaDoorTxtS
namespace Go.Sim
open Go
set_option linter.unusedVariables false
set_option linter.unusedSimpArgs false
set_option linter.unusedSectionVars false
set_option linter.unnecessarySimpa false

/-! ### Lines -/
theorem dec_len20 (u : Nat) (h : u < 10 ^ 20) : (Lib.decDigits u).length ≤ 20 := by
  rw [Lib.decDigits_length]
  have key : ∀ (k u : Nat), u < 10 ^ (k + 1) → Lib.nDigits u ≤ k + 1 := by
    intro k
    induction k with
    | zero => intro u h; rw [Lib.nDigits_small (by simpa using h)]; omega
    | succ k ih =>
      intro u h
      by_cases h10 : u < 10
      · rw [Lib.nDigits_small h10]; omega
      · rw [Lib.nDigits_big h10]
        have := ih (u / 10) (by rw [Nat.pow_succ] at h; omega)
        omega
  exact key 19 u h
theorem itoa_len21 {n : Int} (h : -9223372036854775808 ≤ n ∧ n ≤ 9223372036854775807) : (Lib.itoa n).length ≤ 21 := by
  unfold Lib.itoa
  split
  · have := dec_len20 n.natAbs (by omega); simp; omega
  · have := dec_len20 n.toNat (by omega); omega
def lineP (e : Ev) : List UInt8 := Lib.itoa e.Time ++ 32 :: (bl e.Kind ++ 32 :: (bl e.Name ++ 32 :: Lib.itoa e.Value))
structure LineOk (e : Ev) : Prop where
  t : -9223372036854775808 ≤ e.Time ∧ e.Time ≤ 9223372036854775807
  v : -9223372036854775808 ≤ e.Value ∧ e.Value ≤ 9223372036854775807
  k : e.Kind.size ≤ 100000
  n : e.Name.size ≤ 100000
theorem lineP_len {e : Ev} (h : LineOk e) : (lineP e).length ≤ 45 + e.Kind.size + e.Name.size := by
  have h1 := itoa_len21 h.t; have h2 := itoa_len21 h.v
  have h3 := bl_len e.Kind; have h4 := bl_len e.Name
  unfold lineP
  simp only [List.length_append, List.length_cons]
  omega
theorem line_eq {e : Ev} (h : LineOk e) : m_archive_line e = some (ba (lineP e)) := by
  have h1 := itoa_len21 h.t; have h2 := itoa_len21 h.v
  have z1 : (itoaB e.Time).size = (Lib.itoa e.Time).length := (bl_len _).symm
  have z2 : (itoaB e.Value).size = (Lib.itoa e.Value).length := (bl_len _).symm
  have z3 : (⟨#[32]⟩ : ByteArray).size = 1 := rfl
  have k1 := h.k; have k2 := h.n
  refine Gd.eq.1 ?_
  unfold m_archive_line
  refine Gd.nd h.t (Gd.nd ?_ (Gd.nd ?_ (Gd.nd ?_ (Gd.nd ?_ (Gd.nd ?_ (Gd.nd h.v (Gd.nd ?_ (Gd.ret ?_))))))))
  · rw [z1, z3]; simp only [maxLen]; omega
  · simp only [size_app, z1, z3, maxLen]; omega
  · simp only [size_app, z1, z3, maxLen]; omega
  · simp only [size_app, z1, z3, maxLen]; omega
  · simp only [size_app, z1, z3, maxLen]; omega
  · simp only [size_app, z1, z2, z3, maxLen]; omega
  · refine bl_inj ?_
    rw [bl_app, bl_app, bl_app, bl_app, bl_app, bl_app, bl_ba, lineP]
    show Lib.itoa e.Time ++ [32] ++ bl e.Kind ++ [32] ++ bl e.Name ++ [32] ++ Lib.itoa e.Value = _
    simp

/-! ### Digests -/
def stepD (n : Int) (y : Int) : Int := IntKind.u64.wrap ((IntKind.u64.wrap ((BitVec.ofInt (IntKind.u64).bits n ^^^ BitVec.ofInt (IntKind.u64).bits (IntKind.u64.wrap y)).toNat)) * 1099511628211)
def digP (n : Int) (l : List UInt8) : Int := (l ++ [10]).foldl (fun n (c : UInt8) => stepD n (c.toNat : Int)) n
theorem u64_rng (n : Int) : 0 ≤ IntKind.u64.wrap n ∧ IntKind.u64.wrap n < 18446744073709551616 := by
  rw [show IntKind.u64.wrap n = n % 18446744073709551616 by simp [IntKind.wrap, IntKind.bits, IntKind.signed]]
  omega
theorem digP_rng (n : Int) (l : List UInt8) : 0 ≤ digP n l ∧ digP n l < 18446744073709551616 := by
  unfold digP
  rw [List.foldl_append]
  exact u64_rng _
theorem forI_fold {α β : Type} (f : α → β → α) : ∀ (l : List β) (i : Nat) (s : α), forI (fun (_ : Nat) y s (n : α → Option α) => n (f s y)) (fun s => some s) i l s = some (l.foldl f s)
  | [], _, _ => rfl
  | y :: l, i, s => forI_fold f l (i + 1) (f s y)
theorem digest_eq (n : Int) (s : ByteArray) (h : s.size ≤ 1000000) : m_archive_digest n s = some (digP n (bl s)) := by
  have z : (⟨#[10]⟩ : ByteArray).size = 1 := rfl
  refine Gd.eq.1 ?_
  unfold m_archive_digest
  refine Gd.nd (by rw [z]; simp only [maxLen]; omega) (Gd.nd (by rw [size_app, z]; simp only [maxLen]; omega) (Gd.eq.2 ?_))
  have := forI_fold (fun (n : Int) (y : U8) => stepD n y.n) (bytesL (s ++ ⟨#[10]⟩)) 0 n
  have e : bytesL (s ++ ⟨#[10]⟩) = (bl s ++ [10]).map (fun b : UInt8 => (⟨b.toNat⟩ : U8)) := by
    show ((s ++ ⟨#[10]⟩ : ByteArray).data.toList).map _ = _
    rw [show (s ++ ⟨#[10]⟩ : ByteArray).data.toList = bl s ++ [10] from bl_app _ _]
  rw [e, List.foldl_map] at this
  rw [e]
  exact this

/-! ### Numerals to the base 16 -/
def HexL (l : List U8) : Prop := ∀ y ∈ l, 48 ≤ y.n ∧ y.n ≤ 122
def digs : List U8 := bytesL (⟨#[48, 49, 50, 51, 52, 53, 54, 55, 56, 57, 97, 98, 99, 100, 101, 102, 103, 104, 105, 106, 107, 108, 109, 110, 111, 112, 113, 114, 115, 116, 117, 118, 119, 120, 121, 122]⟩)
theorem digs_ok : digs.length = 36 ∧ HexL digs := by
  refine ⟨by decide, fun y hy => ?_⟩
  have : digs.all (fun y => decide (48 ≤ y.n) && decide (y.n ≤ 122)) = true := by decide
  have := List.all_eq_true.1 this y hy
  simpa using this
def HexB (s : ByteArray) : Prop := s.size ≤ 65 ∧ ∀ c ∈ bl s, 48 ≤ c.toNat
theorem HexB.not {s : ByteArray} (h : HexB s) {c : UInt8} (hc : c.toNat < 48) : c ∉ bl s := fun hm => by have := h.2 c hm; omega
theorem bstr_hex {l : List U8} (h : HexL l) (hl : l.length ≤ 65) : HexB (bstr l) := by
  refine ⟨by rw [← bl_len]; show (l.map _).length ≤ 65; simpa using hl, fun c hc => ?_⟩
  have hc : c ∈ l.map fun y => UInt8.ofNat y.n.toNat := by simpa [bstr, bl] using hc
  obtain ⟨y, hy, rfl⟩ := List.mem_map.1 hc
  have := h y hy
  rw [UInt8.toNat_ofNat']
  omega
theorem fmt_last {n : Int} {i : Nat} {l : List U8} (h0 : 0 ≤ n) (h1 : n < 16) (hi : 1 ≤ i) (hl : l.length = 65) (hi2 : i ≤ 65) (hx : HexL (l.drop i)) :
    Gd (m_internal_strconv_formatBits_b10 false false n (i : Int) l) (fun r => HexB r.2) := by
  unfold m_internal_strconv_formatBits_b10
  have hw : IntKind.i64.wrap ((i : Int) - 1) = ((i - 1 : Nat) : Int) := by rw [wrap_id ⟨by omega, by omega⟩]; omega
  rw [hw]
  have hd : n.toNat < digs.length := by rw [digs_ok.1]; omega
  refine Gd.ix (l := digs) h0 (List.getElem?_eq_getElem hd) (Gd.idxN (show i - 1 < l.length by omega) ?_)
  have hdm := digs_ok.2 _ (List.getElem_mem hd)
  generalize digs[n.toNat] = y at hdm
  unfold m_internal_strconv_formatBits_b8 m_internal_strconv_formatBits_b7
  refine Gd.ite (fun h => by cases h) (fun _ => Gd.ite (fun h => by cases h) (fun _ => Gd.nd ⟨by omega, by omega⟩ (Gd.ret ?_)))
  simp only [Int.toNat_natCast]
  have e : (l.set (i - 1) y).drop (i - 1) = y :: l.drop i := by
    rw [List.drop_eq_getElem_cons (by simp; omega)]
    rw [List.getElem_set_self, show i - 1 + 1 = i by omega, List.drop_set_of_lt (by omega)]
  rw [e]
  refine bstr_hex (fun z hz => ?_) (by simp; omega)
  rcases List.mem_cons.1 hz with rfl | hz
  · exact hdm
  · exact hx z hz
theorem and15 (n : Int) : 0 ≤ IntKind.u64.wrap ((BitVec.ofInt (IntKind.u64).bits n &&& BitVec.ofInt (IntKind.u64).bits (IntKind.u64.wrap ((IntKind.u64.wrap 16) - 1))).toNat) ∧ IntKind.u64.wrap ((BitVec.ofInt (IntKind.u64).bits n &&& BitVec.ofInt (IntKind.u64).bits (IntKind.u64.wrap ((IntKind.u64.wrap 16) - 1))).toNat) < 16 := by
  have h1 : (BitVec.ofInt (IntKind.u64).bits (IntKind.u64.wrap ((IntKind.u64.wrap 16) - 1))).toNat = 15 := by decide
  have h2 : (BitVec.ofInt (IntKind.u64).bits n &&& BitVec.ofInt (IntKind.u64).bits (IntKind.u64.wrap ((IntKind.u64.wrap 16) - 1))).toNat ≤ 15 := by
    rw [BitVec.toNat_and, h1]; exact Nat.and_le_right
  rw [show ∀ n, IntKind.u64.wrap n = n % 18446744073709551616 by intro n; simp [IntKind.wrap, IntKind.bits, IntKind.signed]]
  omega
theorem tz16 : m_math_bits_TrailingZeros (IntKind.u64.wrap 16) = some 4 := by decide
theorem fmt_gd {n : Int} (h : 0 ≤ n ∧ n < 18446744073709551616) : Gd (m_strconv_FormatUint n 16) HexB := by
  unfold m_strconv_FormatUint m_internal_strconv_FormatUint
  refine Gd.bnd (P := HexB) (Gd.ite (fun h => by simp at h) (fun _ => Gd.bnd (P := fun r => HexB r.2) ?_ (fun r hr => Gd.ret hr))) (fun r hr => Gd.ret hr)
  unfold m_internal_strconv_formatBits m_internal_strconv_formatBits_b15
  refine Gd.ite (fun h => by simp at h) (fun _ => Gd.ite (fun h => by cases h) (fun _ => Gd.ite (fun _ => Gd.bind_eq tz16 ?_) (fun h => absurd h (by decide))))
  refine Gd.loopF (fun (z : Int × Int × List U8) => ∃ k : Nat, 1 ≤ k ∧ k ≤ 16 ∧ 0 ≤ z.1 ∧ z.1 < (16 ^ k : Nat) ∧ z.2.1 = ((49 + k : Nat) : Int) ∧ z.2.2.length = 65 ∧ HexL (z.2.2.drop (49 + k))) (fun z => z.2.1.toNat) ?_ FUEL _ ⟨16, by omega, by omega, h.1, by simpa using h.2, rfl, by simp, by intro y hy; simp at hy⟩ (by simp only [FUEL]; decide)
  rintro ⟨u, i, l⟩ nx ⟨k, k1, k2, u0, u1, rfl, hl, hx⟩ hnx
  simp only at u0 u1 hl hx hnx ⊢
  unfold m_internal_strconv_formatBits_b11
  have h16 : IntKind.u64.wrap 16 = 16 := by decide
  refine Gd.ite (fun hge => ?_) (fun hlt => fmt_last u0 (by rw [h16] at hlt; simp at hlt; omega) (by omega) hl (by omega) hx)
  have hge : (16 : Int) ≤ u := by rw [h16] at hge; simpa using hge
  have hk : 2 ≤ k := by
    rcases Nat.lt_or_ge k 2 with h | h
    · have : k = 1 := by omega
      subst this; simp at u1; omega
    · exact h
  obtain ⟨k, rfl⟩ : ∃ q, k = q + 1 := ⟨k - 1, by omega⟩
  obtain ⟨a0, a1⟩ := and15 u
  have hw : IntKind.i64.wrap (((49 + (k + 1) : Nat) : Int) - 1) = ((49 + k : Nat) : Int) := by rw [wrap_id ⟨by omega, by omega⟩]; omega
  rw [hw]
  generalize IntKind.u64.wrap ((BitVec.ofInt (IntKind.u64).bits u &&& BitVec.ofInt (IntKind.u64).bits (IntKind.u64.wrap ((IntKind.u64.wrap 16) - 1))).toNat) = j at a0 a1
  have hd : j.toNat < digs.length := by rw [digs_ok.1]; omega
  refine Gd.ix (l := digs) a0 (List.getElem?_eq_getElem hd) (Gd.idxN (show 49 + k < l.length by omega) (Gd.nd (by decide) ?_))
  have hdm := digs_ok.2 _ (List.getElem_mem hd)
  generalize digs[j.toNat] = y at hdm
  have hsh : shrV .u64 u (IntKind.u64.wrap 4) = u / 16 := by
    unfold shrV
    rw [show (min (IntKind.u64.wrap 4).toNat IntKind.u64.bits) = 4 by decide, Int.fdiv_eq_ediv_of_nonneg _ (by decide)]
    rfl
  rw [hsh]
  refine hnx _ ⟨k, by omega, by omega, by simp only; omega, ?_, rfl, by simp [hl], ?_⟩ (by simp only [Int.toNat_natCast]; omega)
  · simp only
    rw [Nat.pow_succ] at u1
    omega
  · simp only [Int.toNat_natCast]
    rw [List.drop_eq_getElem_cons (by simp; omega), List.getElem_set_self, List.drop_set_of_lt (by omega)]
    intro z hz
    rcases List.mem_cons.1 hz with rfl | hz
    · exact hdm
    · exact hx z hz
def fmt (n : Int) : ByteArray := (m_strconv_FormatUint n 16).getD ⟨#[]⟩
theorem fmt_eq {n : Int} (h : 0 ≤ n ∧ n < 18446744073709551616) : m_strconv_FormatUint n 16 = some (fmt n) ∧ HexB (fmt n) := by
  obtain ⟨r, hr, hh⟩ := fmt_gd h
  have : fmt n = r := by unfold fmt; rw [hr]; rfl
  rw [this]; exact ⟨hr, hh⟩
end Go.Sim
