/-
  The greatest common divisor; quotients in lowest terms.
-/
import Derived.Test.YtfakgoeoclfoaaaGreatDoorLrgJ
namespace Go.Sim
open Go
set_option linter.unusedVariables false
set_option linter.unusedSimpArgs false
set_option linter.unusedSectionVars false
set_option linter.unnecessarySimpa false

theorem nv_zero {w : List U32} (hw : Wf w) (ht : Top w) : nv w = 0 ↔ w = [] := by
  constructor
  · intro h
    rcases List.eq_nil_or_concat w with h' | ⟨a, y, h'⟩
    · exact h'
    · have := nv_ge hw ht (by rw [h']; simp)
      have hp : 0 < WB ^ (w.length - 1) := Nat.pow_pos (by decide)
      omega
  · intro h; rw [h]; rfl
theorem nv_inj {a b : List U32} (ha : Wf a) (hb : Wf b) (hta : Top a) (htb : Top b) (h : nv a = nv b) : a = b := by
  rcases Nat.lt_trichotomy a.length b.length with h1 | h1 | h1
  · have := nv_short ha hb htb h1; omega
  · exact nv_eq_of ha hb h1 h
  · have := nv_short hb ha hta h1; omega
theorem IOk.ext' {a b : LI} (ha : IOk a) (hb : IOk b) (h : ival a = ival b) : a = b := by
  obtain ⟨am, aw⟩ := a; obtain ⟨bm, bw⟩ := b
  have za := nv_zero ha.wf ha.tp; have zb := nv_zero hb.wf hb.tp
  have sa := ha.sign; have sb := hb.sign
  simp only [ival] at h za zb sa sb
  have key : am = bm → aw = bw → (S_large_Int.mk am aw) = S_large_Int.mk bm bw := by rintro rfl rfl; rfl
  cases am <;> cases bm <;> simp at h sa sb
  · exact key rfl (nv_inj ha.wf hb.wf ha.tp hb.tp (by omega))
  · have : nv bw = 0 := by omega
    exact absurd (zb.1 this) sb
  · have : nv aw = 0 := by omega
    exact absurd (za.1 this) sa
  · exact key rfl (nv_inj ha.wf hb.wf ha.tp hb.tp (by omega))
/-- The steps that Euclid takes. -/
def gmu (A B : Nat) : Nat := if B = 0 then 0 else 2 * Nat.log2 (A * B) + 2 + (if A < B then 1 else 0)
theorem gmu_lt {A B : Nat} (hB : B ≠ 0) : gmu B (A % B) < gmu A B := by
  unfold gmu
  rw [if_neg hB]
  by_cases hR : A % B = 0
  · rw [if_pos hR]; omega
  · rw [if_neg hR]
    have hlt : A % B < B := Nat.mod_lt _ (by omega)
    rw [if_neg (by omega : ¬ B < A % B)]
    by_cases hAB : A < B
    · rw [if_pos hAB, Nat.mod_eq_of_lt hAB, Nat.mul_comm B A]; omega
    · rw [if_neg hAB]
      have hle : 2 * (B * (A % B)) ≤ A * B := by
        have h1 : A % B + B * (A / B) = A := Nat.mod_add_div A B
        have h2 : 1 ≤ A / B := (Nat.le_div_iff_mul_le (by omega)).2 (by omega)
        have h3 : B * 1 ≤ B * (A / B) := Nat.mul_le_mul_left _ h2
        have h4 : B * (2 * (A % B)) ≤ B * A := Nat.mul_le_mul_left _ (by omega)
        rw [Nat.mul_comm A B, ← Nat.mul_assoc, Nat.mul_comm 2 B, Nat.mul_assoc]; exact h4
      have hpos : 0 < B * (A % B) := Nat.mul_pos (by omega) (by omega)
      have h5 : Nat.log2 (B * (A % B)) < Nat.log2 (A * B) := by
        have h6 : 2 ^ Nat.log2 (B * (A % B)) ≤ B * (A % B) := Nat.log2_self_le (by omega)
        have h7 : 2 ^ (Nat.log2 (B * (A % B)) + 1) ≤ A * B := by rw [Nat.pow_succ]; omega
        exact (Nat.le_log2 (by omega)).2 h7
      omega
theorem WB_pow (n : Nat) : WB ^ n = 2 ^ (32 * n) := by rw [Nat.pow_mul]
theorem gmu_le {a b : List U32} (ha : Wf a) (hb : Wf b) (hza : a.length ≤ 900000) (hzb : b.length ≤ 900000) : gmu (nv a) (nv b) ≤ 200000000 := by
  unfold gmu
  split
  · omega
  · rename_i h
    have h1 : Nat.log2 (nv a * nv b) ≤ 64000000 := by
      by_cases h0 : nv a * nv b = 0
      · rw [h0]; decide
      · have h2 : nv a * nv b < 2 ^ (32 * (a.length + b.length)) := by
          rw [← WB_pow, Nat.pow_add]
          exact Nat.mul_lt_mul_of_lt_of_le (nv_lt ha) (Nat.le_of_lt (nv_lt hb)) (Nat.pow_pos (by decide))
        have := (Nat.log2_lt h0).2 h2
        omega
    split <;> omega
theorem sign_zero {a : LI} (h : IOk a) : m_large_Int_Sign a = 0 ↔ nv a.words = 0 := by
  unfold m_large_Int_Sign
  rw [nv_zero h.wf h.tp]
  by_cases h1 : a.words = []
  · simp [h1]
  · have : a.words.length ≠ 0 := fun h => h1 (List.eq_nil_of_length_eq_zero h)
    rw [if_neg (by simp; exact h1)]
    constructor
    · intro h; split at h <;> omega
    · intro h; exact absurd h h1
theorem IOk.pos {w : List U32} (hw : Wf w) (ht : Top w) : IOk (S_large_Int.mk false w) := ⟨hw, ht, fun h => by simp at h⟩
/-- Euclid. -/
theorem gcd_gd {a b : LI} (ha : IOk a) (hb : IOk b) {L : Nat} (hL : L ≤ 900000) (hza : a.words.length ≤ L) (hzb : b.words.length ≤ L) :
    Gd (m_large_Gcd a b) (fun r => IOk r ∧ r.minus = false ∧ r.words.length ≤ L ∧ nv r.words = Nat.gcd (nv a.words) (nv b.words)) := by
  unfold m_large_Gcd
  refine Gd.loopF (fun (z : Bool × List U32 × Bool × List U32) => z.1 = false ∧ z.2.2.1 = false ∧ Wf z.2.1 ∧ Top z.2.1 ∧ Wf z.2.2.2 ∧ Top z.2.2.2 ∧ z.2.1.length ≤ L ∧ z.2.2.2.length ≤ L ∧ Nat.gcd (nv z.2.2.2) (nv z.2.1) = Nat.gcd (nv a.words) (nv b.words)) (fun z => gmu (nv z.2.2.2) (nv z.2.1)) ?_ FUEL _ ⟨rfl, rfl, hb.wf, hb.tp, ha.wf, ha.tp, hzb, hza, rfl⟩ ?_
  · rintro ⟨c1, l1, c2, l2⟩ nx ⟨h1, h2, h3, h4, h5, h6, h7, h8, h9⟩ hnx
    simp only at h1 h2 h3 h4 h5 h6 h7 h8 h9 hnx ⊢
    subst h1 h2
    unfold m_large_Gcd_b3 m_large_Gcd_b2
    have hs := sign_zero (IOk.pos h3 h4)
    simp only at hs
    refine Gd.ite (fun h => ?_) (fun h => ?_)
    · have hB : nv l1 ≠ 0 := by
        intro e
        rw [hs.2 e] at h; simp at h
      refine Gd.bnd (div_gd h5 h3 h6 h4 (fun e => hB (by rw [e]; rfl)) (by omega) (by omega)) (fun r hr => ?_)
      obtain ⟨r1, r2, r3, r4, r5, r6⟩ := hr
      refine Gd.nd (by omega) (Gd.bnd (norm_gd false r.2 r2 (by omega)) (fun s hs' => ?_))
      obtain ⟨s1, s2, s3, s4⟩ := hs'
      have hm : s.minus = false := by
        rcases Bool.eq_false_or_eq_true s.minus with h | h
        · have := s4.1 h; simp at this
        · exact h
      refine hnx _ ⟨hm, rfl, s1.wf, s1.tp, h3, h4, by simp only; omega, h7, ?_⟩ ?_
      · simp only
        rw [s3, r6, ← h9, ← Nat.gcd_comm (nv l1) (nv l2), Nat.gcd_rec (nv l1) (nv l2), Nat.gcd_comm]
      · simp only
        rw [s3, r6]
        exact gmu_lt hB
    · have hB : nv l1 = 0 := by
        apply hs.1
        simpa using h
      rw [hB, Nat.gcd_zero_right] at h9
      exact Gd.ret ⟨IOk.pos h5 h6, rfl, h8, h9⟩
  · simp only [FUEL]
    have := gmu_le ha.wf hb.wf (by omega) (by omega)
    omega
/-- The quotient of a natural number. -/
theorem dm_gd {a b : LI} (ha : IOk a) (hb : IOk b) (hm : a.minus = false) (h0 : nv b.words ≠ 0) (hza : a.words.length ≤ 900000) (hzb : b.words.length ≤ 900000) :
    Gd (m_large_Int_DivMod a b) (fun r => IOk r.1 ∧ r.1.minus = false ∧ r.1.words.length ≤ a.words.length ∧ nv r.1.words = nv a.words / nv b.words) := by
  unfold m_large_Int_DivMod m_large_Int_DivMod_b1
  refine Gd.bnd (div_gd ha.wf hb.wf ha.tp hb.tp (fun e => h0 (by rw [e]; rfl)) hza hzb) (fun r hr => ?_)
  obtain ⟨r1, r2, r3, r4, r5, r6⟩ := hr
  refine Gd.nd (by omega) (Gd.bnd (norm_gd _ _ r1 (by omega)) (fun s hs => Gd.nd (by omega) (Gd.bnd (norm_gd _ _ r2 (by omega)) (fun t ht => ?_))))
  obtain ⟨s1, s2, s3, s4⟩ := hs
  obtain ⟨t1, t2, t3, t4⟩ := ht
  rw [hm] at s4 t4
  have hsm : s.minus = false := by
    rcases Bool.eq_false_or_eq_true s.minus with h | h
    · have := s4.1 h; simp at this
    · exact h
  refine Gd.ite (fun h => ?_) (fun h => Gd.ret ⟨s1, hsm, by simp only; omega, by simp only; rw [s3, r5]⟩)
  have := t4.1 h; simp at this
end Go.Sim
