/-
  Rational numbers in lowest terms: their values.
-/
import Derived.Test.YtfakgoeoclfoaaaGreatDoorLrgK
namespace Go.Sim
open Go
set_option linter.unusedVariables false
set_option linter.unusedSimpArgs false
set_option linter.unusedSectionVars false
set_option linter.unnecessarySimpa false

abbrev LR := S_large_Rat
structure ROk (r : LR) : Prop where
  n : IOk r.N
  d : IOk r.D
  pos : r.D.minus = false
  nz : nv r.D.words ≠ 0
  cop : Nat.Coprime (nv r.N.words) (nv r.D.words)
/-- The number that it stands for. -/
def rv (r : LR) : Rat := Rat.divInt (ival r.N) (ival r.D)
theorem ival_nat {a : LI} (h : a.minus = false) : ival a = (nv a.words : Nat) := by unfold ival; rw [h]; rfl
theorem ival_abs (a : LI) : (ival a).natAbs = nv a.words := by
  unfold ival
  split <;> omega
theorem ROk.eq {r : LR} (h : ROk r) : rv r = Rat.mk' (ival r.N) (nv r.D.words) h.nz (by rw [ival_abs]; exact h.cop) := by
  unfold rv
  rw [ival_nat h.pos]
  exact (Rat.num_divInt_den (Rat.mk' (ival r.N) (nv r.D.words) h.nz (by rw [ival_abs]; exact h.cop)))
theorem ROk.num {r : LR} (h : ROk r) : (rv r).num = ival r.N := by rw [h.eq]
theorem ROk.den {r : LR} (h : ROk r) : (rv r).den = nv r.D.words := by rw [h.eq]
theorem ROk.ext' {r s : LR} (h : ROk r) (k : ROk s) (e : rv r = rv s) : r = s := by
  have e1 : ival r.N = ival s.N := by rw [← h.num, ← k.num, e]
  have e2 : nv r.D.words = nv s.D.words := by rw [← h.den, ← k.den, e]
  have e3 := h.n.ext' k.n e1
  have e4 := h.d.ext' k.d (by rw [ival_nat h.pos, ival_nat k.pos, e2])
  obtain ⟨a, b⟩ := r; obtain ⟨c, d⟩ := s
  simp only at e3 e4; rw [e3, e4]
/-- At most so many words. -/
def RL (r : LR) (L : Nat) : Prop := r.N.words.length ≤ L ∧ r.D.words.length ≤ L
theorem RL.mono {r : LR} {L M : Nat} (h : RL r L) (hM : L ≤ M) : RL r M := ⟨Nat.le_trans h.1 hM, Nat.le_trans h.2 hM⟩
theorem divInt_cancel {g a b : Int} (hg : g ≠ 0) (hb : b ≠ 0) : Rat.divInt (g * a) (g * b) = Rat.divInt a b := by
  rw [Rat.divInt_eq_divInt_iff (Int.mul_ne_zero hg hb) hb]
  rw [Int.mul_comm g a, Int.mul_assoc]
/-- A quotient by the common divisor. -/
theorem ratX {n d g : LI} (hn : IOk n) (hd : IOk d) (hg : IOk g) (hdm : d.minus = false) (hd0 : nv d.words ≠ 0) (hgv : nv g.words = Nat.gcd (nv n.words) (nv d.words))
    (hzn : n.words.length ≤ 900000) (hzd : d.words.length ≤ 900000) (hzg : g.words.length ≤ 900000) :
    Gd ((m_large_Int_DivMod (S_large_Int.mk false n.words) g).bind fun r195 => (m_large_Int_DivMod (S_large_Int.mk d.minus d.words) g).bind fun r203 => if n.minus then (some (S_large_Rat.mk (S_large_Int.mk (decide (0 < (r195.1.words.length : Int))) r195.1.words) r203.1)) else (some (S_large_Rat.mk (S_large_Int.mk false r195.1.words) r203.1)))
      (fun r => ROk r ∧ r.N.words.length ≤ n.words.length ∧ r.D.words.length ≤ d.words.length ∧ rv r = Rat.divInt (ival n) (ival d)) := by
  have hg0 : nv g.words ≠ 0 := by
    rw [hgv]
    exact Nat.ne_of_gt (Nat.gcd_pos_of_pos_right _ (by omega))
  have gN : nv g.words ∣ nv n.words := by rw [hgv]; exact Nat.gcd_dvd_left _ _
  have gD : nv g.words ∣ nv d.words := by rw [hgv]; exact Nat.gcd_dvd_right _ _
  have hco : Nat.Coprime (nv n.words / nv g.words) (nv d.words / nv g.words) := by
    rw [hgv]; exact Nat.coprime_div_gcd_div_gcd (Nat.gcd_pos_of_pos_right _ (by omega))
  obtain ⟨n', hn'⟩ := gN
  obtain ⟨d', hd'⟩ := gD
  have en : nv n.words / nv g.words = n' := by rw [hn', Nat.mul_div_cancel_left _ (by omega)]
  have ed : nv d.words / nv g.words = d' := by rw [hd', Nat.mul_div_cancel_left _ (by omega)]
  have hd0' : d' ≠ 0 := by intro h; rw [h] at hd'; simp at hd'; exact hd0 hd'
  refine Gd.bnd (dm_gd (a := S_large_Int.mk false n.words) (IOk.pos hn.wf hn.tp) hg rfl hg0 hzn hzg) (fun r hr => Gd.bnd (dm_gd (a := S_large_Int.mk d.minus d.words) hd hg hdm hg0 hzd hzg) (fun t ht => ?_))
  obtain ⟨r1, r2, r3, r4⟩ := hr
  obtain ⟨t1, t2, t3, t4⟩ := ht
  simp only at r3 r4 t3 t4
  rw [en] at r4 hco
  rw [ed] at t4 hco
  have hd2 : ival d = (nv g.words : Int) * (d' : Int) := by rw [ival_nat hdm, hd', Int.natCast_mul]
  have ht2 : ival t.1 = (d' : Int) := by rw [ival_nat t2, t4]
  refine Gd.ite (fun h => Gd.ret ?_) (fun h => Gd.ret ?_)
  · have hN : IOk (S_large_Int.mk (decide (0 < (r.1.words.length : Int))) r.1.words) := ⟨r1.wf, r1.tp, fun h e => by simp only at h e; rw [e] at h; simp at h⟩
    refine ⟨⟨hN, t1, t2, by simp only; omega, by simp only; rw [r4, t4]; exact hco⟩, r3, t3, ?_⟩
    have hi : ival (S_large_Int.mk (decide (0 < (r.1.words.length : Int))) r.1.words) = -(n' : Int) := by
      unfold ival
      simp only
      rw [r4]
      by_cases hl : r.1.words = []
      · rw [hl] at r4 ⊢
        have : n' = 0 := r4.symm
        rw [this]; simp
      · have := List.length_pos_iff.2 hl
        rw [if_pos (by simp; omega)]
    have hin : ival n = (nv g.words : Int) * (-(n' : Int)) := by
      unfold ival; rw [if_pos h, hn', Int.natCast_mul, Int.mul_neg]
    unfold rv
    simp only
    rw [hi, ht2, hin, hd2, divInt_cancel (by omega) (by omega)]
  · refine ⟨⟨IOk.pos r1.wf r1.tp, t1, t2, by simp only; omega, by simp only; rw [r4, t4]; exact hco⟩, r3, t3, ?_⟩
    have hi : ival (S_large_Int.mk false r.1.words) = (n' : Int) := by
      rw [ival_nat rfl]; simp only; rw [r4]
    have hin : ival n = (nv g.words : Int) * (n' : Int) := by
      rw [ival_nat h, hn', Int.natCast_mul]
    unfold rv
    simp only
    rw [hi, ht2, hin, hd2, divInt_cancel (by omega) (by omega)]
theorem one_word {w : List U32} (h : decide ((w.length : Int) = 1) = true) : ∃ x, w = [x] := by
  have := of_decide_eq_true h
  exact List.length_eq_one_iff.1 (by omega)
theorem nv_word {x : U32} (hx : 0 ≤ x.n) : nv [x] = 1 ↔ x.n = 1 := by rw [nv_one]; omega
/-- A quotient with a positive denominator. -/
theorem ratio1 {n d : LI} (hn : IOk n) (hd : IOk d) (hdm : d.minus = false) (hd0 : nv d.words ≠ 0) (hzn : n.words.length ≤ 900000) (hzd : d.words.length ≤ 900000) :
    Gd (m_large_Ratio_b1 d.minus d.words n.minus n.words) (fun r => ROk r ∧ r.N.words.length ≤ n.words.length ∧ r.D.words.length ≤ d.words.length ∧ rv r = Rat.divInt (ival n) (ival d)) := by
  have self : Nat.gcd (nv n.words) (nv d.words) = 1 → Gd (some (S_large_Rat.mk (S_large_Int.mk n.minus n.words) (S_large_Int.mk d.minus d.words))) (fun r => ROk r ∧ r.N.words.length ≤ n.words.length ∧ r.D.words.length ≤ d.words.length ∧ rv r = Rat.divInt (ival n) (ival d)) := fun hg =>
    Gd.ret ⟨⟨hn, hd, hdm, hd0, hg⟩, Nat.le_refl _, Nat.le_refl _, rfl⟩
  have part : Gd ((m_large_Gcd (S_large_Int.mk n.minus n.words) (S_large_Int.mk d.minus d.words)).bind fun r135 => if decide ((r135.words.length : Int) = 1) then (idx r135.words 0 fun y160 => if decide (y160.n = 1) then (some (S_large_Rat.mk (S_large_Int.mk n.minus n.words) (S_large_Int.mk d.minus d.words))) else ((m_large_Int_DivMod (S_large_Int.mk false n.words) r135).bind fun r165 => (m_large_Int_DivMod (S_large_Int.mk d.minus d.words) r135).bind fun r173 => if n.minus then (some (S_large_Rat.mk (S_large_Int.mk (decide (0 < (r165.1.words.length : Int))) r165.1.words) r173.1)) else (some (S_large_Rat.mk (S_large_Int.mk false r165.1.words) r173.1)))) else ((m_large_Int_DivMod (S_large_Int.mk false n.words) r135).bind fun r143 => (m_large_Int_DivMod (S_large_Int.mk d.minus d.words) r135).bind fun r151 => if n.minus then (some (S_large_Rat.mk (S_large_Int.mk (decide (0 < (r143.1.words.length : Int))) r143.1.words) r151.1)) else (some (S_large_Rat.mk (S_large_Int.mk false r143.1.words) r151.1))))
      (fun r => ROk r ∧ r.N.words.length ≤ n.words.length ∧ r.D.words.length ≤ d.words.length ∧ rv r = Rat.divInt (ival n) (ival d)) := by
    refine Gd.bnd (gcd_gd (L := 900000) hn hd (by omega) hzn hzd) (fun g hg => ?_)
    obtain ⟨g1, g2, g3, g4⟩ := hg
    refine Gd.ite (fun h => ?_) (fun h => ratX hn hd g1 hdm hd0 g4 hzn hzd g3)
    obtain ⟨x, hx⟩ := one_word h
    have hxw := g1.wf x (by rw [hx]; simp)
    refine Gd.ix (y := x) (by omega) (by rw [hx]; rfl) (Gd.ite (fun h2 => self ?_) (fun h2 => ratX hn hd g1 hdm hd0 g4 hzn hzd g3))
    rw [← g4, hx, nv_word hxw.1]; exact of_decide_eq_true h2
  unfold m_large_Ratio_b1
  refine Gd.ite (fun h => ?_) (fun h => part)
  obtain ⟨x, hx⟩ := one_word h
  have hxw := hd.wf x (by rw [hx]; simp)
  refine Gd.ix (y := x) (by omega) (by rw [hx]; rfl) (Gd.ite (fun h2 => self ?_) (fun h2 => part))
  have := (nv_word hxw.1).2 (of_decide_eq_true h2)
  rw [hx, this, Nat.gcd_one_right]
theorem ratio_gd {n d : LI} (hn : IOk n) (hd : IOk d) (hd0 : nv d.words ≠ 0) (hzn : n.words.length ≤ 900000) (hzd : d.words.length ≤ 900000) :
    Gd (m_large_Ratio n d) (fun r => ROk r ∧ r.N.words.length ≤ n.words.length ∧ r.D.words.length ≤ d.words.length ∧ rv r = Rat.divInt (ival n) (ival d)) := by
  unfold m_large_Ratio
  refine Gd.ite (fun h => ?_) (fun h => ratio1 hn hd h hd0 hzn hzd)
  refine Gd.bnd (neg_gd hn (by omega)) (fun n' hn' => Gd.bnd (neg_gd hd (by omega)) (fun d' hd' => ?_))
  have e : nv d'.words = nv d.words := by rw [← ival_abs, hd'.2.2, Int.natAbs_neg, ival_abs]
  have hm : d'.minus = false := by
    have h1 := hd'.2.2
    unfold ival at h1
    rw [if_pos h] at h1
    rcases Bool.eq_false_or_eq_true d'.minus with h2 | h2
    · rw [if_pos h2] at h1; omega
    · exact h2
  refine (ratio1 hn'.1 hd'.1 hm (by rw [e]; exact hd0) (by omega) (by omega)).mono (fun r hr => ⟨hr.1, by omega, by omega, ?_⟩)
  rw [hr.2.2.2, hn'.2.2, hd'.2.2]
  rw [Rat.neg_divInt_neg]
/-! ### Operations -/
theorem rv_nz {r : LR} (h : ROk r) : ival r.D ≠ 0 := by rw [ival_nat h.pos]; have := h.nz; omega
theorem mul_nz {a b c : LI} (h : ival c = ival a * ival b) (ha : nv a.words ≠ 0) (hb : nv b.words ≠ 0) : nv c.words ≠ 0 := by
  rw [← ival_abs, h, Int.natAbs_mul, ival_abs, ival_abs]
  exact Nat.mul_ne_zero ha hb
theorem radd_gd {a b : LR} (ha : ROk a) (hb : ROk b) {A B : Nat} (la : RL a A) (lb : RL b B) (hz : A + B ≤ 800000) :
    Gd (m_large_Rat_Add a b) (fun r => ROk r ∧ RL r (A + B + 1) ∧ rv r = rv a + rv b) := by
  have := la.1; have := la.2; have := lb.1; have := lb.2
  unfold m_large_Rat_Add
  refine Gd.bnd (mul_gd ha.n hb.d (by omega)) (fun x hx => Gd.bnd (mul_gd hb.n ha.d (by omega)) (fun y hy => Gd.bnd (iadd_gd hx.1 hy.1 (by omega) (by omega)) (fun s hs => Gd.bnd (mul_gd ha.d hb.d (by omega)) (fun z hz' => ?_))))
  refine Gd.bnd (ratio_gd hs.1 hz'.1 (mul_nz hz'.2.2 ha.nz hb.nz) (by omega) (by omega)) (fun r hr => Gd.ret ⟨hr.1, ⟨by omega, by omega⟩, ?_⟩)
  rw [hr.2.2.2, hs.2.2, hx.2.2, hy.2.2, hz'.2.2]
  unfold rv
  rw [Rat.divInt_add_divInt _ _ (rv_nz ha) (rv_nz hb)]
theorem rneg_gd {a : LR} (ha : ROk a) {A : Nat} (la : RL a A) (hz : A ≤ 800000) :
    Gd (m_large_Rat_Neg a) (fun r => ROk r ∧ RL r A ∧ rv r = -rv a) := by
  have := la.1; have := la.2
  unfold m_large_Rat_Neg
  refine Gd.bnd (neg_gd ha.n (by omega)) (fun x hx => Gd.ret ⟨⟨hx.1, ha.d, ha.pos, ha.nz, ?_⟩, ⟨by simp only; omega, la.2⟩, ?_⟩)
  · have e : nv x.words = nv a.N.words := by rw [← ival_abs, hx.2.2, Int.natAbs_neg, ival_abs]
    simp only; rw [e]; exact ha.cop
  · unfold rv
    simp only
    rw [hx.2.2, Rat.neg_divInt]
theorem rsub_gd {a b : LR} (ha : ROk a) (hb : ROk b) {A B : Nat} (la : RL a A) (lb : RL b B) (hz : A + B ≤ 800000) :
    Gd (m_large_Rat_Sub a b) (fun r => ROk r ∧ RL r (A + B + 1) ∧ rv r = rv a - rv b) := by
  unfold m_large_Rat_Sub
  refine Gd.bnd (rneg_gd hb lb (by omega)) (fun c hc => Gd.bnd (radd_gd ha hc.1 la hc.2.1 hz) (fun r hr => Gd.ret ⟨hr.1, hr.2.1, ?_⟩))
  rw [hr.2.2, hc.2.2, Rat.sub_eq_add_neg]
theorem rmul_gd {a b : LR} (ha : ROk a) (hb : ROk b) {A B : Nat} (la : RL a A) (lb : RL b B) (hz : A + B ≤ 800000) :
    Gd (m_large_Rat_Mul a b) (fun r => ROk r ∧ RL r (A + B) ∧ rv r = rv a * rv b) := by
  have := la.1; have := la.2; have := lb.1; have := lb.2
  unfold m_large_Rat_Mul
  refine Gd.bnd (mul_gd ha.n hb.n (by omega)) (fun x hx => Gd.bnd (mul_gd ha.d hb.d (by omega)) (fun z hz' => ?_))
  refine Gd.bnd (ratio_gd hx.1 hz'.1 (mul_nz hz'.2.2 ha.nz hb.nz) (by omega) (by omega)) (fun r hr => Gd.ret ⟨hr.1, ⟨by omega, by omega⟩, ?_⟩)
  rw [hr.2.2.2, hx.2.2, hz'.2.2]
  unfold rv
  rw [Rat.divInt_mul_divInt]
theorem whole_gd {n : Int} (h : -9223372036854775808 ≤ n ∧ n ≤ 9223372036854775807) : Gd (m_large_Whole n) (fun r => ROk r ∧ RL r 2 ∧ rv r = (n : Rat)) := by
  unfold m_large_Whole
  refine Gd.bnd (of_gd h) (fun x hx => Gd.bnd (of_gd (n := 1) (by omega)) (fun y hy => Gd.ret ?_))
  have hm : y.minus = false := by
    have h1 := hy.2.2
    unfold ival at h1
    rcases Bool.eq_false_or_eq_true y.minus with h2 | h2
    · rw [if_pos h2] at h1; omega
    · exact h2
  have hv : nv y.words = 1 := by rw [← ival_abs, hy.2.2]; rfl
  refine ⟨⟨hx.1, hy.1, hm, by simp only; omega, by simp only; rw [hv]; exact Nat.coprime_one_right _⟩, ⟨hx.2.1, hy.2.1⟩, ?_⟩
  unfold rv
  simp only
  rw [hx.2.2, hy.2.2, Rat.divInt_eq_div, Rat.intCast_one]; grind
theorem frac_gd {n d : Int} (h : -9223372036854775808 ≤ n ∧ n ≤ 9223372036854775807) (k : -9223372036854775808 ≤ d ∧ d ≤ 9223372036854775807) (h0 : d ≠ 0) :
    Gd (m_large_Frac n d) (fun r => ROk r ∧ RL r 2 ∧ rv r = (n : Rat) / (d : Rat)) := by
  unfold m_large_Frac
  refine Gd.bnd (of_gd h) (fun x hx => Gd.bnd (of_gd k) (fun y hy => ?_))
  have hv : nv y.words ≠ 0 := by rw [← ival_abs, hy.2.2]; omega
  refine Gd.bnd (ratio_gd hx.1 hy.1 hv (by omega) (by omega)) (fun r hr => Gd.ret ⟨hr.1, ⟨by omega, by omega⟩, ?_⟩)
  rw [hr.2.2.2, hx.2.2, hy.2.2, Rat.divInt_eq_div]
end Go.Sim
