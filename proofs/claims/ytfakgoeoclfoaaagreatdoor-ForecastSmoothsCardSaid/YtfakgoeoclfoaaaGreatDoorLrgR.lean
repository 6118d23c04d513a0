/-
  How many words a value takes.
-/
import Derived.Test.YtfakgoeoclfoaaaGreatDoorLrgQ
namespace Go.Sim
open Go
set_option linter.unusedVariables false
set_option linter.unusedSimpArgs false
set_option linter.unusedSectionVars false
set_option linter.unnecessarySimpa false

/-- The value can be laid in so many words. -/
def RB (q : Rat) (L : Nat) : Prop := ∃ r : LR, ROk r ∧ RL r L ∧ rv r = q
theorem ROk.rb {r : LR} (h : ROk r) {L : Nat} (hb : RB (rv r) L) : RL r L := by
  obtain ⟨s, h1, h2, h3⟩ := hb
  rw [h.ext' h1 h3.symm]; exact h2
theorem RB.mono {q : Rat} {L M : Nat} (h : RB q L) (hM : L ≤ M) : RB q M := by
  obtain ⟨s, h1, h2, h3⟩ := h
  exact ⟨s, h1, h2.mono hM, h3⟩
theorem RB.add {p q : Rat} {A B : Nat} (h : RB p A) (k : RB q B) (hz : A + B ≤ 800000) : RB (p + q) (A + B + 1) := by
  obtain ⟨a, h1, h2, h3⟩ := h; obtain ⟨b, k1, k2, k3⟩ := k
  obtain ⟨r, _, r1, r2, r3⟩ := radd_gd h1 k1 h2 k2 hz
  exact ⟨r, r1, r2, by rw [r3, h3, k3]⟩
theorem RB.sub {p q : Rat} {A B : Nat} (h : RB p A) (k : RB q B) (hz : A + B ≤ 800000) : RB (p - q) (A + B + 1) := by
  obtain ⟨a, h1, h2, h3⟩ := h; obtain ⟨b, k1, k2, k3⟩ := k
  obtain ⟨r, _, r1, r2, r3⟩ := rsub_gd h1 k1 h2 k2 hz
  exact ⟨r, r1, r2, by rw [r3, h3, k3]⟩
theorem RB.mul {p q : Rat} {A B : Nat} (h : RB p A) (k : RB q B) (hz : A + B ≤ 800000) : RB (p * q) (A + B) := by
  obtain ⟨a, h1, h2, h3⟩ := h; obtain ⟨b, k1, k2, k3⟩ := k
  obtain ⟨r, _, r1, r2, r3⟩ := rmul_gd h1 k1 h2 k2 hz
  exact ⟨r, r1, r2, by rw [r3, h3, k3]⟩
theorem len_le {w : List U32} (hw : Wf w) (ht : Top w) {k : Nat} (h : nv w < WB ^ k) : w.length ≤ k := by
  rcases Nat.lt_or_ge k w.length with hl | hl
  · exfalso
    have hne : w ≠ [] := fun e => by rw [e] at hl; simp at hl
    have h1 := nv_ge hw ht hne
    have h2 : WB ^ k ≤ WB ^ (w.length - 1) := Nat.pow_le_pow_right (by decide) (by omega)
    exact absurd h (Nat.not_lt.2 (Nat.le_trans h2 h1))
  · exact hl
theorem wb_le_ten (k m : Nat) (h : 32 * k ≤ 3 * m) : WB ^ k ≤ 10 ^ m := by
  have h3 : (2 : Nat) ^ (32 * k) ≤ 2 ^ (3 * m) := Nat.pow_le_pow_right (by decide) h
  have h5 : ((2 : Nat) ^ 3) ^ m ≤ 10 ^ m := Nat.pow_le_pow_left (by decide) m
  rw [← Nat.pow_mul] at h5
  rw [WB_pow k]
  exact Nat.le_trans h3 h5
theorem wb_ten {k : Nat} (hk : k ≤ 187) : WB ^ k ≤ 10 ^ 2000 := wb_le_ten k 2000 (by omega)
theorem RB.fits {q : Rat} {L : Nat} (h : RB q L) (hL : L ≤ 187) : fits q := by
  obtain ⟨r, h1, h2, rfl⟩ := h
  have e := wb_ten hL
  have key : ∀ {w : List U32}, Wf w → w.length ≤ L → nv w < 10 ^ 2000 := fun hw hl =>
    Nat.lt_of_lt_of_le (nv_lt hw) (Nat.le_trans (Nat.pow_le_pow_right (by decide) hl) e)
  refine fits_of (k := 2000) ?_ ?_ (by decide) (Nat.le_refl _)
  · rw [h1.num, ival_abs]; exact key h1.n.wf h2.1
  · rw [h1.den]; exact key h1.d.wf h2.2
theorem li_of {m : Int} {k : Nat} (h : m.natAbs < WB ^ k) (hk : k ≤ 187) : ∃ a : LI, IOk a ∧ a.words.length ≤ k ∧ ival a = m := by
  obtain ⟨a, _, h1, h2, h3⟩ := read_itoa (n := m) (nd_le (by decide) (Nat.lt_of_lt_of_le h (wb_ten hk)))
  exact ⟨a, h1, len_le h1.wf h1.tp (by rw [← ival_abs, h3]; exact h), h3⟩
theorem RB.ratio {m : Int} {d : Int} {k : Nat} (h : m.natAbs < WB ^ k) (hd : d.natAbs < WB ^ k) (h0 : d ≠ 0) (hk : k ≤ 187) : RB ((m : Rat) / (d : Rat)) k := by
  obtain ⟨a, a1, a2, a3⟩ := li_of h hk
  obtain ⟨b, b1, b2, b3⟩ := li_of hd hk
  obtain ⟨r, _, r1, r2, r3, r4⟩ := ratio_gd a1 b1 (by rw [← ival_abs, b3]; omega) (by omega) (by omega)
  exact ⟨r, r1, ⟨by omega, by omega⟩, by rw [r4, a3, b3, Rat.divInt_eq_div]⟩
theorem RB.int {m : Int} {k : Nat} (h : m.natAbs < WB ^ k) (h1 : 1 ≤ k) (hk : k ≤ 187) : RB (m : Rat) k := by
  have := RB.ratio (m := m) (d := 1) h (by
    have : WB ^ 1 ≤ WB ^ k := Nat.pow_le_pow_right (by decide) h1
    have : WB ^ 1 = 4294967296 := by decide
    show 1 < WB ^ k
    omega) (by decide) hk
  have e : (m : Rat) / ((1 : Int) : Rat) = (m : Rat) := by rw [Rat.intCast_one]; grind
  rwa [e] at this
theorem RB.small {m : Int} (h : m.natAbs < 4294967296) : RB (m : Rat) 1 := RB.int (k := 1) (by show m.natAbs < 4294967296 ^ 1; omega) (by decide) (by decide)
theorem RB.frac {m d : Int} (h : m.natAbs < 4294967296) (hd : d.natAbs < 4294967296) (h0 : d ≠ 0) : RB ((m : Rat) / (d : Rat)) 1 :=
  RB.ratio (k := 1) (by show m.natAbs < 4294967296 ^ 1; omega) (by show d.natAbs < 4294967296 ^ 1; omega) h0 (by decide)
end Go.Sim
