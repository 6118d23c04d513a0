/-
  Numbers of any size: from ints; shifted.
-/
import Derived.Test.YtfakgoeoclfoaaaGreatDoorLrgC
namespace Go.Sim
open Go
set_option linter.unusedVariables false
set_option linter.unusedSimpArgs false
set_option linter.unusedSectionVars false
set_option linter.unnecessarySimpa false

theorem of_gd {n : Int} (h : -9223372036854775808 ≤ n ∧ n ≤ 9223372036854775807) : Gd (m_large_Of n) (fun r => IOk r ∧ r.words.length ≤ 2 ∧ ival r = n) := by
  have core : ∀ m : Int, 0 ≤ m → m < 18446744073709551616 → (m = n ∧ 0 ≤ n ∨ m = -n ∧ n < 0) → Gd (m_large_Of_b1 n m) (fun r => IOk r ∧ r.words.length ≤ 2 ∧ ival r = n) := fun m h0 h1 h2 => by
    unfold m_large_Of_b1
    rw [shr32, u32w, u32w]
    have hw : Wf [⟨m % 4294967296⟩, ⟨m / 4294967296 % 4294967296⟩] := fun y hy => by
      rcases List.mem_cons.1 hy with rfl | hy
      · simp only; omega
      · rw [List.mem_singleton] at hy; subst hy; simp only; omega
    have hv : nv [⟨m % 4294967296⟩, ⟨m / 4294967296 % 4294967296⟩] = m.toNat := by
      simp only [nv]
      show (m % 4294967296).toNat + 4294967296 * ((m / 4294967296 % 4294967296).toNat + 4294967296 * 0) = _
      omega
    refine Gd.bnd (norm_gd _ _ hw (by simp)) (fun r hr => Gd.ret ⟨hr.1, hr.2.1, ?_⟩)
    rw [ival_of hr.2.2.1 hr.2.2.2, hv]
    rcases h2 with ⟨rfl, h2⟩ | ⟨rfl, h2⟩
    · rw [if_neg (by simp; omega)]; omega
    · rw [if_pos (by simp; omega)]; omega
  unfold m_large_Of
  refine Gd.ite (fun h0 => core _ ?_ ?_ (.inr ⟨?_, ?_⟩)) (fun h0 => core _ ?_ ?_ (.inl ⟨?_, ?_⟩))
  · rw [u64w]; omega
  · rw [u64w]; omega
  · have := of_decide_eq_true h0
    rw [u64w, u64w]; omega
  · exact of_decide_eq_true h0
  · rw [u64w]; omega
  · rw [u64w]; omega
  · have := of_decide_eq_false h0
    rw [u64w]; omega
  · have := of_decide_eq_false h0; omega

/-! ### Shifts -/
theorem or_shl {c x : Nat} {s : Nat} (hs : s ≤ 31) (hc : c < 2 ^ s) (hx : x < 4294967296) :
    IntKind.u64.wrap ((BitVec.ofInt (IntKind.u64).bits (c : Int) ||| BitVec.ofInt (IntKind.u64).bits (shlV .u64 (IntKind.u64.wrap (x : Int)) (s : Int))).toNat) = ((c + x * 2 ^ s : Nat) : Int) := by
  have hp : (2 : Nat) ^ s ≤ 2147483648 := Nat.pow_le_pow_right (by decide) hs
  have hx2 : x * 2 ^ s ≤ 4294967295 * 2147483648 := Nat.mul_le_mul (by omega) hp
  rw [u64_id (n := (x : Int)) (by omega)]
  have e1 : shlV .u64 (x : Int) (s : Int) = ((x * 2 ^ s : Nat) : Int) := by
    unfold shlV
    rw [show (min ((s : Int)).toNat IntKind.u64.bits) = s by show min ((s : Int)).toNat 64 = s; omega]
    rw [show (x : Int) * 2 ^ s = ((x * 2 ^ s : Nat) : Int) by rw [Int.natCast_mul, Int.natCast_pow]; rfl]
    rw [u64_id (by omega)]
  rw [e1]
  show IntKind.u64.wrap (((BitVec.ofInt 64 ((c : Nat) : Int) ||| BitVec.ofInt 64 ((x * 2 ^ s : Nat) : Int)).toNat : Nat) : Int) = _
  rw [BitVec.ofInt_natCast, BitVec.ofInt_natCast, BitVec.toNat_or, BitVec.toNat_ofNat, BitVec.toNat_ofNat, Nat.mod_eq_of_lt (by omega), Nat.mod_eq_of_lt (by omega)]
  have e2 : c ||| x * 2 ^ s = c + x * 2 ^ s := by
    have := Nat.shiftLeft_add_eq_or_of_lt (i := s) (b := c) hc x
    rw [Nat.shiftLeft_eq] at this
    rw [Nat.or_comm, ← this, Nat.add_comm]
  rw [e2, u64_id (by omega)]
theorem shift_step {A P c x S W out o c' : Nat} (h : out + P * c = A * S) (hd : o + W * c' = c + x * S) : (out + P * o) + P * W * c' = (A + P * x) * S := by
  have e : P * o + P * (W * c') = P * c + P * (x * S) := by rw [← Nat.mul_add, hd, Nat.mul_add]
  rw [Nat.mul_assoc P W, Nat.add_mul, Nat.mul_assoc P x]
  omega
theorem shifted_gd {a : List U32} (ha : Wf a) (hz : a.length ≤ 1000000) {s : Nat} (hs : s ≤ 31) :
    Gd (m_large_shifted a (s : Int)) (fun r => Wf r ∧ r.length = a.length + 1 ∧ nv r = nv a * 2 ^ s ∧ ∃ t, r[a.length]? = some t ∧ t.n.toNat < 2 ^ s) := by
  have w1 : IntKind.i64.wrap ((a.length : Int) + 1) = ((a.length + 1 : Nat) : Int) := by rw [wrap_id ⟨by omega, by omega⟩]; omega
  have hp : (2 : Nat) ^ s ≤ 2147483648 := Nat.pow_le_pow_right (by decide) hs
  have hp0 : 0 < (2 : Nat) ^ s := Nat.pow_pos (by decide)
  unfold m_large_shifted
  rw [w1]
  refine Gd.nd ⟨by omega, by omega⟩ ?_
  refine Gd.forI (fun k ys (z : List U32 × Int) => ys = a.drop k ∧ k ≤ a.length ∧ z.1.length = a.length + 1 ∧ Wf z.1 ∧ 0 ≤ z.2 ∧ z.2.toNat < 2 ^ s ∧ nv (z.1.take k) + WB ^ k * z.2.toNat = nv (a.take k) * 2 ^ s) ?_ ?_ _ 0 _ ⟨by simp, by omega, by simp, fun y hy => ?_, Int.le_refl _, by simpa using hp0, by simp [nv]⟩
  · rintro k x ys ⟨l, c⟩ nx ⟨h0, h1, h2, h3, h4, h5, h6⟩ hnx
    simp only at h2 h3 h4 h5 h6 hnx ⊢
    have hk : k < a.length := by
      have := congrArg List.length h0
      simp at this; omega
    have hx : a[k]? = some x := by
      have := congrArg (·[0]?) h0
      simpa [List.getElem?_drop] using this.symm
    have hys : ys = a.drop (k + 1) := by
      have := congrArg (List.drop 1) h0
      simpa using this
    have hxw := ha x (List.mem_of_getElem? hx)
    obtain ⟨cn, rfl⟩ : ∃ cn : Nat, c = cn := ⟨c.toNat, by omega⟩
    obtain ⟨X, hX⟩ : ∃ X : Nat, x.n = X := ⟨x.n.toNat, by omega⟩
    have hkn : ((k : Int)).toNat = k := by omega
    unfold m_large_shifted_b1
    rw [hX]
    simp only [Int.toNat_natCast] at h5 h6
    rw [or_shl hs h5 (by omega)]
    refine Gd.nd (by omega) (Gd.idxN (show k < l.length by omega) ?_)
    rw [hkn, u32w, shr32]
    have hb : cn + X * 2 ^ s < 4294967296 * 2 ^ s := by
      have : (X + 1) * 2 ^ s ≤ 4294967296 * 2 ^ s := Nat.mul_le_mul_right _ (by omega)
      rw [Nat.add_mul] at this
      omega
    have hdm := Nat.mod_add_div (cn + X * 2 ^ s) WB
    have hq : (cn + X * 2 ^ s) / WB < 2 ^ s := by
      rw [Nat.div_lt_iff_lt_mul (by decide), Nat.mul_comm (2 ^ s)]; exact hb
    have e1 : ((cn + X * 2 ^ s : Nat) : Int) % 4294967296 = (((cn + X * 2 ^ s) % WB : Nat) : Int) := rfl
    have e2 : ((cn + X * 2 ^ s : Nat) : Int) / 4294967296 = (((cn + X * 2 ^ s) / WB : Nat) : Int) := rfl
    have hm : (cn + X * 2 ^ s) % WB < WB := Nat.mod_lt _ (by decide)
    rw [e1, e2]
    generalize (cn + X * 2 ^ s) % WB = o at hdm hm
    generalize (cn + X * 2 ^ s) / WB = c' at hdm hq
    refine hnx _ ⟨hys, by omega, by simp [h2], h3.set ⟨by omega, by have : o < 4294967296 := hm; omega⟩, by simp only; omega, by simp only [Int.toNat_natCast]; exact hq, ?_⟩
    simp only
    rw [set_take (by omega), nv_snoc, List.length_take, Nat.min_eq_left (by omega), nv_take hx, hX, Nat.pow_succ]
    simp only [Int.toNat_natCast]
    exact shift_step h6 hdm
  · rintro k ⟨l, c⟩ ⟨h0, h1, h2, h3, h4, h5, h6⟩
    simp only at h2 h3 h4 h5 h6 ⊢
    have hk : k = a.length := by
      have := congrArg List.length h0
      simp at this; omega
    subst hk
    have hkn : ((a.length : Int)).toNat = a.length := by omega
    rw [hkn, u32w, show c % 4294967296 = c by omega]
    refine Gd.idxN (by omega) (Gd.ret ⟨h3.set (by omega), by simp [h2], ?_, ⟨⟨c⟩, List.getElem?_set_self (by omega), h5⟩⟩)
    have e := set_take (l := l) (k := a.length) (v := ⟨c⟩) (by omega)
    rw [List.take_of_length_le (by simp; omega)] at e
    rw [e, nv_snoc, List.length_take, Nat.min_eq_left (by omega)]
    rw [List.take_length] at h6
    exact h6
  · rw [List.mem_replicate] at hy
    rw [hy.2]; simp
end Go.Sim
