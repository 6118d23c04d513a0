/-
  Long division: how good the guess of a digit is; leading zeros.
-/
import Derived.Test.YtfakgoeoclfoaaaGreatDoorLrgD
namespace Go.Sim
open Go
set_option linter.unusedVariables false
set_option linter.unusedSimpArgs false
set_option linter.unusedSectionVars false
set_option linter.unnecessarySimpa false

/-! ### The guess (W: the base; R: what stands behind the two leading digits) -/
section
variable {W R v1 v2 vl u2 ul top q V U : Nat}
/-- The divisor and the part of the dividend, split. -/
structure Spl (W R v1 v2 vl u2 ul top V U : Nat) : Prop where
  V : V = (v1 * W + v2) * R + vl
  U : U = (top * W + u2) * R + ul
  vl : vl < R
  ul : ul < R
  u2 : u2 < W
  v2 : v2 < W
theorem Spl.top_le (h : Spl W R v1 v2 vl u2 ul top V U) (hq : q * V ≤ U) : q * v1 ≤ top := by
  rcases Nat.lt_or_ge top (q * v1) with hlt | hge
  · exfalso
    have h1 : (top + 1) * (W * R) ≤ q * v1 * (W * R) := Nat.mul_le_mul_right _ hlt
    have h2 : v1 * (W * R) ≤ V := by
      rw [h.V, Nat.add_mul, Nat.mul_assoc v1]; omega
    have h3 : q * (v1 * (W * R)) ≤ q * V := Nat.mul_le_mul_left _ h2
    have h4 : U < (top + 1) * (W * R) := by
      have e1 : (u2 + 1) * R ≤ W * R := Nat.mul_le_mul_right _ h.u2
      rw [Nat.add_mul] at e1
      have hul := h.ul
      rw [h.U, Nat.add_mul, Nat.mul_assoc top, Nat.add_mul top]
      omega
    rw [Nat.mul_assoc q] at h1
    omega
  · exact hge
theorem Spl.lead_le (h : Spl W R v1 v2 vl u2 ul top V U) (hq : q * V ≤ U) : q * (v1 * W + v2) ≤ top * W + u2 := by
  rcases Nat.lt_or_ge (top * W + u2) (q * (v1 * W + v2)) with hlt | hge
  · exfalso
    have h1 : (top * W + u2 + 1) * R ≤ q * (v1 * W + v2) * R := Nat.mul_le_mul_right _ hlt
    have h2 : (v1 * W + v2) * R ≤ V := by rw [h.V]; omega
    have h3 : q * ((v1 * W + v2) * R) ≤ q * V := Nat.mul_le_mul_left _ h2
    have hul := h.ul
    have hU := h.U
    rw [Nat.add_mul _ 1] at h1
    rw [Nat.mul_assoc q] at h1
    omega
  · exact hge
theorem Spl.near (h : Spl W R v1 v2 vl u2 ul top V U) {g : Nat} (hg : g ≤ W) (hv : 1 ≤ v1) (hl : g * (v1 * W + v2) ≤ top * W + u2) : g * V < U + V := by
  have h1 : g * (v1 * W + v2) * R ≤ (top * W + u2) * R := Nat.mul_le_mul_right _ hl
  have h2 : g * vl ≤ W * vl := Nat.mul_le_mul_right _ hg
  have h3 : W * (vl + 1) ≤ W * R := Nat.mul_le_mul_left _ h.vl
  have h4 : 1 * (W * R) ≤ v1 * (W * R) := Nat.mul_le_mul_right _ hv
  have e1 : g * V = g * (v1 * W + v2) * R + g * vl := by rw [h.V, Nat.mul_add, Nat.mul_assoc]
  have e2 : V = v1 * (W * R) + v2 * R + vl := by rw [h.V, Nat.add_mul, Nat.mul_assoc]
  have hU := h.U
  have hR : 0 < R := by have := h.vl; omega
  have hW : 0 < W := by have := h.u2; omega
  rw [Nat.mul_add, Nat.mul_one] at h3
  omega
/-- What the loop over a guess keeps: not too small; what is left of the top. -/
structure Gs (W R v1 v2 vl u2 ul top V U q g rest : Nat) : Prop where
  ge : q ≤ g
  eq : g * v1 + rest = top
  rest : rest < W
  le : g ≤ W + 1
/-- What comes out. -/
structure Gd1 (W V U q g : Nat) : Prop where
  ge : q ≤ g
  le : g ≤ q + 1
  w : g ≤ W
theorem Spl.out (h : Spl W R v1 v2 vl u2 ul top V U) {g : Nat} (hq : U < (q + 1) * V) (hge : q ≤ g) (hg : g ≤ W) (hv : 1 ≤ v1) (hl : g * (v1 * W + v2) ≤ top * W + u2) : Gd1 W V U q g := by
  refine ⟨hge, ?_, hg⟩
  have h1 := h.near hg hv hl
  rcases Nat.lt_or_ge (q + 1) g with hlt | hge'
  · exfalso
    have h2 : (q + 2) * V ≤ g * V := Nat.mul_le_mul_right _ hlt
    rw [Nat.add_mul] at h2 hq
    omega
  · exact hge'
/-- The test says that the guess is right, or one too great. -/
theorem Gs.stop (h : Spl W R v1 v2 vl u2 ul top V U) {g rest : Nat} (hs : Gs W R v1 v2 vl u2 ul top V U q g rest) (hq : U < (q + 1) * V) (hv : 1 ≤ v1) (hg : g < W) (ht : g * v2 ≤ rest * W + u2) : Gd1 W V U q g := by
  refine h.out hq hs.ge (by omega) hv ?_
  rw [← hs.eq, Nat.mul_add, Nat.add_mul, Nat.mul_assoc]
  omega
/-- The guess is too great. -/
theorem Gs.less (h : Spl W R v1 v2 vl u2 ul top V U) {g rest : Nat} (hs : Gs W R v1 v2 vl u2 ul top V U q g rest) (hq : q * V ≤ U) (hqW : q < W) (ht : W ≤ g ∨ rest * W + u2 < g * v2) : q < g := by
  rcases ht with ht | ht
  · omega
  · have h1 := h.lead_le hq
    rw [← hs.eq] at h1
    rcases Nat.lt_or_ge q g with hlt | hge
    · exact hlt
    · exfalso
      have h2 : g * (v1 * W + v2) ≤ q * (v1 * W + v2) := Nat.mul_le_mul_right _ hge
      rw [Nat.mul_add g] at h2
      rw [Nat.add_mul (g * v1), Nat.mul_assoc] at h1
      omega
theorem Gs.next {g rest : Nat} (hs : Gs W R v1 v2 vl u2 ul top V U q g rest) (hl : q < g) (hr : rest + v1 < W) : Gs W R v1 v2 vl u2 ul top V U q (g - 1) (rest + v1) := by
  have h := hs.eq; have hle := hs.le
  obtain ⟨k, rfl⟩ : ∃ k, g = k + 1 := ⟨g - 1, by omega⟩
  rw [Nat.add_mul] at h
  exact ⟨by omega, by rw [Nat.add_sub_cancel]; omega, hr, by omega⟩
/-- The rest has grown beyond the base: the guess cannot be tested any more, and is good. -/
theorem Gs.over (h : Spl W R v1 v2 vl u2 ul top V U) {g rest : Nat} (hs : Gs W R v1 v2 vl u2 ul top V U q g rest) (hq : U < (q + 1) * V) (hv : 1 ≤ v1) (hl : q < g) (hr : W ≤ rest + v1) : Gd1 W V U q (g - 1) := by
  have he := hs.eq; have hle := hs.le; have hv2 := h.v2
  obtain ⟨k, rfl⟩ : ∃ k, g = k + 1 := ⟨g - 1, by omega⟩
  rw [Nat.add_sub_cancel]
  rw [Nat.add_mul] at he
  refine h.out hq (by omega) (by omega) hv ?_
  have h1 : k * v2 ≤ W * v2 := Nat.mul_le_mul_right _ (by omega)
  have h2 : W * (v2 + 1) ≤ W * W := Nat.mul_le_mul_left _ hv2
  have h3 : W * W ≤ (rest + v1) * W := Nat.mul_le_mul_right _ hr
  have e : top = k * v1 + (rest + v1) := by omega
  rw [e, Nat.mul_add k, Nat.add_mul (k * v1), Nat.mul_assoc]
  rw [Nat.mul_add] at h2
  omega
end

/-! ### Leading zeros -/
def len8T : List U8 := bytesL (⟨#[0, 1, 2, 2, 3, 3, 3, 3, 4, 4, 4, 4, 4, 4, 4, 4, 5, 5, 5, 5, 5, 5, 5, 5, 5, 5, 5, 5, 5, 5, 5, 5, 6, 6, 6, 6, 6, 6, 6, 6, 6, 6, 6, 6, 6, 6, 6, 6, 6, 6, 6, 6, 6, 6, 6, 6, 6, 6, 6, 6, 6, 6, 6, 6, 7, 7, 7, 7, 7, 7, 7, 7, 7, 7, 7, 7, 7, 7, 7, 7, 7, 7, 7, 7, 7, 7, 7, 7, 7, 7, 7, 7, 7, 7, 7, 7, 7, 7, 7, 7, 7, 7, 7, 7, 7, 7, 7, 7, 7, 7, 7, 7, 7, 7, 7, 7, 7, 7, 7, 7, 7, 7, 7, 7, 7, 7, 7, 7, 8, 8, 8, 8, 8, 8, 8, 8, 8, 8, 8, 8, 8, 8, 8, 8, 8, 8, 8, 8, 8, 8, 8, 8, 8, 8, 8, 8, 8, 8, 8, 8, 8, 8, 8, 8, 8, 8, 8, 8, 8, 8, 8, 8, 8, 8, 8, 8, 8, 8, 8, 8, 8, 8, 8, 8, 8, 8, 8, 8, 8, 8, 8, 8, 8, 8, 8, 8, 8, 8, 8, 8, 8, 8, 8, 8, 8, 8, 8, 8, 8, 8, 8, 8, 8, 8, 8, 8, 8, 8, 8, 8, 8, 8, 8, 8, 8, 8, 8, 8, 8, 8, 8, 8, 8, 8, 8, 8, 8, 8, 8, 8, 8, 8, 8, 8, 8, 8, 8, 8, 8, 8, 8, 8, 8, 8, 8, 8]⟩)
def len8B (i : Nat) (y : U8) : Bool := decide (1 ≤ y.n) && (decide (y.n ≤ 8) && (decide (2 ^ (y.n.toNat - 1) ≤ i) && decide (i < 2 ^ y.n.toNat)))
theorem len8_ok : ∀ i : Nat, 1 ≤ i → i < 256 → ∃ y, len8T[i]? = some y ∧ len8B i y = true := by
  have h : (List.range 256).all (fun i => decide (i = 0) || (match len8T[i]? with | some y => len8B i y | none => false)) = true := by decide +kernel
  intro i h1 h2
  have := List.all_eq_true.1 h i (by simpa using h2)
  rw [decide_eq_false (by omega), Bool.false_or] at this
  cases hy : len8T[i]? with
  | none => rw [hy] at this; cases this
  | some y => rw [hy] at this; exact ⟨y, rfl, this⟩
theorem len_b1 {n m : Int} (h1 : 1 ≤ n) (h2 : n < 256) (hm : 0 ≤ m ∧ m ≤ 24) : Gd (m_math_bits_Len32_b1 n m) (fun r => ∃ L : Nat, r = m + L ∧ 1 ≤ L ∧ L ≤ 8 ∧ 2 ^ (L - 1) ≤ n.toNat ∧ n.toNat < 2 ^ L) := by
  obtain ⟨y, hy, hb⟩ := len8_ok n.toNat (by omega) (by omega)
  simp only [len8B, Bool.and_eq_true, decide_eq_true_eq] at hb
  obtain ⟨b1, b2, b3, b4⟩ := hb
  have hw : IntKind.u8.wrap n = n := by
    rw [show IntKind.u8.wrap n = n % 256 by simp [IntKind.wrap, IntKind.bits, IntKind.signed]]; omega
  unfold m_math_bits_Len32_b1
  rw [hw]
  refine Gd.ix (l := len8T) (by omega) hy (Gd.ret ⟨y.n.toNat, ?_, by omega, by omega, b3, b4⟩)
  rw [wrap_id (n := y.n) (by omega), wrap_id (by omega)]
  omega
theorem shr32u {n : Int} {k : Nat} (hk : k ≤ 32) : shrV .u32 n (k : Int) = n / (2 ^ k : Nat) := by
  unfold shrV
  rw [show (min ((k : Int)).toNat IntKind.u32.bits) = k by show min ((k : Int)).toNat 32 = k; omega, Int.fdiv_eq_ediv_of_nonneg _ (Int.le_of_lt (Int.pow_pos (by decide)))]
  rw [Int.natCast_pow]; rfl
theorem lz_gd {x : Int} (h1 : 1 ≤ x) (h2 : x < 4294967296) : Gd (m_math_bits_LeadingZeros32 x) (fun r => ∃ s : Nat, r = s ∧ s ≤ 31 ∧ 2147483648 ≤ x.toNat * 2 ^ s ∧ x.toNat * 2 ^ s < 4294967296) := by
  have fin : ∀ (o : Option Int), Gd o (fun r => ∃ l : Nat, r = l ∧ 1 ≤ l ∧ l ≤ 32 ∧ 2 ^ (l - 1) ≤ x.toNat ∧ x.toNat < 2 ^ l) → Gd (o.bind fun r101 => some (IntKind.i64.wrap (32 - r101))) (fun r => ∃ s : Nat, r = s ∧ s ≤ 31 ∧ 2147483648 ≤ x.toNat * 2 ^ s ∧ x.toNat * 2 ^ s < 4294967296) := fun o ho => by
    refine Gd.bnd ho (fun r hr => Gd.ret ?_)
    obtain ⟨l, rfl, l1, l2, l3, l4⟩ := hr
    refine ⟨32 - l, by rw [wrap_id (by omega)]; omega, by omega, ?_, ?_⟩
    · have : 2 ^ (l - 1) * 2 ^ (32 - l) ≤ x.toNat * 2 ^ (32 - l) := Nat.mul_le_mul_right _ l3
      rw [← Nat.pow_add, show l - 1 + (32 - l) = 31 by omega] at this
      exact this
    · have : x.toNat * 2 ^ (32 - l) < 2 ^ l * 2 ^ (32 - l) := Nat.mul_lt_mul_of_pos_right l4 (Nat.pow_pos (by decide))
      rw [← Nat.pow_add, show l + (32 - l) = 32 by omega] at this
      exact this
  have part : ∀ (n : Int) (base : Nat), n = x / (2 ^ base : Nat) → base ≤ 24 → ∀ L : Nat, 1 ≤ L → 2 ^ (L - 1) ≤ n.toNat → n.toNat < 2 ^ L → 2 ^ (base + L - 1) ≤ x.toNat ∧ x.toNat < 2 ^ (base + L) := fun n base hn hb L l1 l2 l3 => by
    have e : n.toNat = x.toNat / 2 ^ base := by
      rw [hn]
      obtain ⟨X, rfl⟩ : ∃ X : Nat, x = X := ⟨x.toNat, by omega⟩
      rfl
    have hp : 0 < 2 ^ base := Nat.pow_pos (by decide)
    rw [e] at l2 l3
    rw [Nat.le_div_iff_mul_le hp, ← Nat.pow_add] at l2
    rw [Nat.div_lt_iff_lt_mul hp, ← Nat.pow_add] at l3
    rw [show base + L - 1 = L - 1 + base by omega, Nat.add_comm base L]
    exact ⟨l2, l3⟩
  unfold m_math_bits_LeadingZeros32
  refine fin _ ?_
  unfold m_math_bits_Len32
  refine Gd.ite (fun h => ?_) (fun h => ?_)
  · have h := of_decide_eq_true h
    rw [show shrV .u32 x 16 = x / 65536 from shr32u (k := 16) (by omega)]
    unfold m_math_bits_Len32_b2
    refine Gd.ite (fun h3 => ?_) (fun h3 => ?_)
    · have h3 := of_decide_eq_true h3
      rw [show shrV .u32 (x / 65536) 8 = x / 65536 / 256 from shr32u (k := 8) (by omega), show IntKind.i64.wrap (16 + 8) = 24 by decide]
      refine (len_b1 (by omega) (by omega) (by omega)).mono ?_
      rintro r ⟨L, rfl, l1, l2, l3, l4⟩
      obtain ⟨p1, p2⟩ := part (x / 65536 / 256) 24 (by show _ = x / 16777216; omega) (by omega) L l1 l3 l4
      exact ⟨24 + L, by omega, by omega, by omega, p1, p2⟩
    · have h3 := of_decide_eq_false h3
      refine (len_b1 (by omega) (by omega) (by omega)).mono ?_
      rintro r ⟨L, rfl, l1, l2, l3, l4⟩
      obtain ⟨p1, p2⟩ := part (x / 65536) 16 (by show _ = x / 65536; omega) (by omega) L l1 l3 l4
      exact ⟨16 + L, by omega, by omega, by omega, p1, p2⟩
  · have h := of_decide_eq_false h
    unfold m_math_bits_Len32_b2
    refine Gd.ite (fun h3 => ?_) (fun h3 => ?_)
    · have h3 := of_decide_eq_true h3
      rw [show shrV .u32 x 8 = x / 256 from shr32u (k := 8) (by omega), show IntKind.i64.wrap (0 + 8) = 8 by decide]
      refine (len_b1 (by omega) (by omega) (by omega)).mono ?_
      rintro r ⟨L, rfl, l1, l2, l3, l4⟩
      obtain ⟨p1, p2⟩ := part (x / 256) 8 (by show _ = x / 256; omega) (by omega) L l1 l3 l4
      exact ⟨8 + L, by omega, by omega, by omega, p1, p2⟩
    · have h3 := of_decide_eq_false h3
      refine (len_b1 (by omega) (by omega) (by omega)).mono ?_
      rintro r ⟨L, rfl, l1, l2, l3, l4⟩
      obtain ⟨p1, p2⟩ := part x 0 (by show _ = x / 1; omega) (by omega) L l1 l3 l4
      exact ⟨0 + L, by omega, by omega, by omega, p1, p2⟩
end Go.Sim
