/-
  Long division: one digit.
-/
import Derived.Test.YtfakgoeoclfoaaaGreatDoorLrgE
namespace Go.Sim
open Go
set_option linter.unusedVariables false
set_option linter.unusedSimpArgs false
set_option linter.unusedSectionVars false
set_option linter.unnecessarySimpa false

theorem and_low {t : Nat} (h : t < 18446744073709551616) : IntKind.u64.wrap ((BitVec.ofInt (IntKind.u64).bits (t : Int) &&& BitVec.ofInt (IntKind.u64).bits 4294967295).toNat) = ((t % WB : Nat) : Int) := by
  have e : (BitVec.ofInt (IntKind.u64).bits 4294967295).toNat = 4294967295 := by decide
  have e2 : (BitVec.ofInt (IntKind.u64).bits (t : Int)).toNat = t := by
    show (BitVec.ofInt 64 (t : Int)).toNat = t
    rw [BitVec.ofInt_natCast, BitVec.toNat_ofNat, Nat.mod_eq_of_lt h]
  rw [BitVec.toNat_and, e, e2]
  have := Nat.and_two_pow_sub_one_eq_mod t 32
  rw [show (2 : Nat) ^ 32 - 1 = 4294967295 from rfl] at this
  rw [this, show (2 : Nat) ^ 32 = WB from rfl]
  have hm : t % WB < WB := Nat.mod_lt _ (by decide)
  rw [u64_id ⟨by omega, by have : t % WB < 4294967296 := hm; omega⟩]
theorem nvI_set {l : List U32} {k : Nat} {x v : U32} (h : l[k]? = some x) (hx : 0 ≤ x.n) (hv : 0 ≤ v.n) : (nv (l.set k v) : Int) + ((WB ^ k : Nat) : Int) * x.n = nv l + ((WB ^ k : Nat) : Int) * v.n := by
  have := congrArg (fun n : Nat => (n : Int)) (nv_set (v := v) h)
  simp only [Int.natCast_add, Int.natCast_mul] at this
  rw [Int.toNat_of_nonneg hx, Int.toNat_of_nonneg hv] at this
  exact this
theorem ms_step {nl nl' o nw P W bo ca low ca' bo' Z gy : Int} (hA : nl' + P * o = nl + P * nw) (hB : nw + W * bo' = bo + o - low) (hC : low + W * ca' = ca + gy) (hI : nl + P * (bo - ca) = Z) :
    nl' + P * W * (bo' - ca') = Z - P * gy := by
  have e : W * (bo' - ca') = bo + o - nw - ca - gy := by rw [Int.mul_sub]; omega
  rw [Int.mul_assoc, e, ← hI, Int.mul_sub, Int.mul_sub, Int.mul_sub, Int.mul_add, Int.mul_sub]
  omega
/-- What lies behind the changed places stays. -/
theorem nv_upto {l l0 : List U32} {m : Nat} (h : ∀ p, m ≤ p → l[p]? = l0[p]?) (hm : m ≤ l.length) : nv l = nv (l.take m) + WB ^ m * nv (l0.drop m) := by
  have e : l.drop m = l0.drop m := by
    apply List.ext_getElem?
    intro i
    rw [List.getElem?_drop, List.getElem?_drop]
    exact h _ (by omega)
  have : nv l = nv (l.take m ++ l.drop m) := by rw [List.take_append_drop]
  rw [this, nv_app, e, List.length_take, Nat.min_eq_left hm]
theorem nv_td (l : List U32) {m : Nat} (hm : m ≤ l.length) : nv l = nv (l.take m) + WB ^ m * nv (l.drop m) := nv_upto (fun _ _ => rfl) hm

/-- Multiply and subtract. -/
theorem ms_gd {b : List U32} {r134 vs : List U32} {j : Nat} {g : Nat} {l0 : List U32} {fin : List U32 × Int × Int → Option (List U32 × List U32)} {Q : List U32 × List U32 → Prop}
    (hvs : slc r134 0 (((b.length : Int) : Int).toNat) = vs) (hvl : vs.length = b.length) (hvw : Wf vs) (hl : Wf l0) (hjn : j + b.length < l0.length) (hN : l0.length ≤ 1000001) (hg : g ≤ WB)
    (hk : ∀ l bo ca, l.length = l0.length → Wf l → -1 ≤ bo → bo ≤ 0 → 0 ≤ ca → ca < 4294967296 → (nv l : Int) + ((WB ^ (j + b.length) : Nat) : Int) * (bo - ca) = nv l0 - ((WB ^ j : Nat) : Int) * ((g : Int) * (nv vs : Int)) →
      (∀ p, j + b.length ≤ p → l[p]? = l0[p]?) → (∀ p, p < j → l[p]? = l0[p]?) → Gd (fin (l, bo, ca)) Q) :
    Gd (forN (fun k s1409 n => m_large_divWords_b17 b r134 (j : Int) (g : Int) k s1409.1 s1409.2.1 s1409.2.2 n) fin b.length 0 (l0, 0, 0)) Q := by
  have hg : g ≤ 4294967296 := hg
  refine Gd.forN (fun m k (z : List U32 × Int × Int) => k + m = b.length ∧ z.1.length = l0.length ∧ Wf z.1 ∧ -1 ≤ z.2.1 ∧ z.2.1 ≤ 0 ∧ 0 ≤ z.2.2 ∧ z.2.2 < 4294967296 ∧ (nv z.1 : Int) + ((WB ^ (j + k) : Nat) : Int) * (z.2.1 - z.2.2) = nv l0 - ((WB ^ j : Nat) : Int) * ((g : Int) * (nv (vs.take k) : Int)) ∧ (∀ p, j + k ≤ p → z.1[p]? = l0[p]?) ∧ (∀ p, p < j → z.1[p]? = l0[p]?)) ?_ ?_ _ 0 _ ⟨by omega, rfl, hl, by show (-1 : Int) ≤ 0; omega, Int.le_refl _, Int.le_refl _, by show (0 : Int) < 4294967296; omega, by simp [nv], fun p _ => rfl, fun p _ => rfl⟩
  · rintro m k ⟨l, bo, ca⟩ nx ⟨h0, h1, h2, h3, h4, h5, h6, h7, h8, h9⟩ hnx
    simp only at h1 h2 h3 h4 h5 h6 h7 h8 h9 hnx ⊢
    have hkb : k < b.length := by omega
    obtain ⟨y, hy⟩ : ∃ y, vs[k]? = some y := ⟨_, List.getElem?_eq_getElem (by omega)⟩
    have hyw := hvw y (List.mem_of_getElem? hy)
    obtain ⟨o, ho⟩ : ∃ o, l[j + k]? = some o := ⟨_, List.getElem?_eq_getElem (by omega)⟩
    have how := h2 o (List.mem_of_getElem? ho)
    have wj : IntKind.i64.wrap ((k : Int) + (j : Int)) = ((j + k : Nat) : Int) := by rw [wrap_id ⟨by omega, by omega⟩]; omega
    have hjk : (((j + k : Nat) : Int)).toNat = j + k := by omega
    unfold m_large_divWords_b17
    rw [hvs, wj]
    refine Gd.ix (by omega) (by rw [Int.toNat_natCast]; exact hy) (Gd.ix (by omega) (by rw [hjk]; exact ho) (Gd.ix (by omega) (by rw [hjk]; exact ho) ?_))
    obtain ⟨Y, hY⟩ : ∃ Y : Nat, y.n = Y := ⟨y.n.toNat, by omega⟩
    obtain ⟨cn, rfl⟩ : ∃ cn : Nat, ca = cn := ⟨ca.toNat, by omega⟩
    have hgy : g * Y ≤ 4294967296 * 4294967295 := Nat.mul_le_mul hg (by omega)
    have ht : IntKind.u64.wrap ((cn : Int) + (IntKind.u64.wrap ((g : Int) * (IntKind.u64.wrap (y.n))))) = ((cn + g * Y : Nat) : Int) := by
      rw [hY, u64_id (n := (Y : Int)) (by omega), show (g : Int) * (Y : Int) = ((g * Y : Nat) : Int) by rw [Int.natCast_mul], u64_id (n := ((g * Y : Nat) : Int)) (by omega), u64_id (by omega)]
      omega
    rw [ht, and_low (by omega), shr32]
    have hdm := Nat.mod_add_div (cn + g * Y) WB
    have hlow : (cn + g * Y) % WB < WB := Nat.mod_lt _ (by decide)
    have hcl : (cn + g * Y) / WB < 4294967296 := by
      rw [Nat.div_lt_iff_lt_mul (by decide)]
      show cn + g * Y < 4294967296 * 4294967296
      omega
    have e2 : ((cn + g * Y : Nat) : Int) / 4294967296 = (((cn + g * Y) / WB : Nat) : Int) := rfl
    rw [e2]
    have hC : (((cn + g * Y) % WB : Nat) : Int) + 4294967296 * (((cn + g * Y) / WB : Nat) : Int) = (cn : Int) + ((g * Y : Nat) : Int) := by
      have : (cn + g * Y) % WB + 4294967296 * ((cn + g * Y) / WB) = cn + g * Y := hdm
      omega
    generalize (cn + g * Y) % WB = low at hlow hC
    generalize (cn + g * Y) / WB = c2 at hcl hC
    have hlow : low < 4294967296 := hlow
    have hnb : IntKind.i64.wrap (bo + (IntKind.i64.wrap ((IntKind.i64.wrap (o.n)) - (IntKind.i64.wrap ((low : Nat) : Int))))) = bo + o.n - low := by
      rw [wrap_id (n := o.n) (by omega), wrap_id (n := (low : Int)) (by omega), wrap_id (n := o.n - low) (by omega), wrap_id (by omega)]
      omega
    rw [hnb, hjk, u32w, shr32i]
    refine hnx _ ⟨by omega, by simp [h1], h2.set (by omega), by simp only; omega, by simp only; omega, by simp only; omega, by simp only; omega, ?_, fun p hp => ?_, fun p hp => ?_⟩
    · simp only
      have hA := nvI_set (l := l) (k := j + k) (x := o) (v := ⟨(bo + o.n - low) % 4294967296⟩) ho how.1 (by simp only; omega)
      simp only at hA
      have hB : (bo + o.n - low) % 4294967296 + 4294967296 * ((bo + o.n - low) / 4294967296) = bo + o.n - low := by omega
      have := ms_step hA hB hC h7
      rw [show j + (k + 1) = (j + k) + 1 by omega, Nat.pow_succ, Int.natCast_mul, show ((WB : Nat) : Int) = 4294967296 from rfl, this, nv_take hy, hY, Nat.pow_add]
      simp only [Int.toNat_natCast, Int.natCast_add, Int.natCast_mul]
      rw [Int.mul_add (g : Int), Int.mul_add ((WB ^ j : Nat) : Int), Int.mul_assoc ((WB ^ j : Nat) : Int) ((WB ^ k : Nat) : Int)]
      have e : (g : Int) * (((WB ^ k : Nat) : Int) * (Y : Int)) = ((WB ^ k : Nat) : Int) * ((g : Int) * (Y : Int)) := by
        rw [← Int.mul_assoc, Int.mul_comm (g : Int), Int.mul_assoc]
      rw [e]
      omega
    · simp only
      rw [List.getElem?_set_ne (by omega)]
      exact h8 p (by omega)
    · simp only
      rw [List.getElem?_set_ne (by omega)]
      exact h9 p hp
  · rintro k ⟨l, bo, ca⟩ ⟨h0, h1, h2, h3, h4, h5, h6, h7, h8, h9⟩
    simp only at h1 h2 h3 h4 h5 h6 h7 h8 h9
    have hk' : k = b.length := by omega
    subst hk'
    rw [← hvl, List.take_length] at h7
    rw [hvl] at h7
    exact hk l bo ca h1 h2 h3 h4 h5 h6 h7 h8 h9
end Go.Sim
