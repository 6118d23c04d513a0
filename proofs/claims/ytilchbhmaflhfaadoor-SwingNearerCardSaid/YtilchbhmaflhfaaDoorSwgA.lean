/-
  The frequency of islands: what the functions of package swing answer, as rational numbers.
-/
import Derived.Test.YtilchbhmaflhfaaDoorLrgQ
namespace Go.Sim
open Go
set_option linter.unusedVariables false
set_option linter.unusedSimpArgs false
set_option linter.unusedSectionVars false
set_option linter.unnecessarySimpa false

theorem rdiv_gd {a b : LR} (ha : ROk a) (hb : ROk b) {A B : Nat} (la : RL a A) (lb : RL b B) (hz : A + B ≤ 800000) (h0 : rv b ≠ 0) :
    Gd (m_large_Rat_Div a b) (fun r => ROk r ∧ RL r (A + B) ∧ rv r = rv a / rv b) := by
  have := la.1; have := la.2; have := lb.1; have := lb.2
  have hb0 : nv b.N.words ≠ 0 := fun h => h0 ((rv_zero hb).2 h)
  have hb1 : ival b.N ≠ 0 := fun h => hb0 (by rw [← ival_abs, h]; rfl)
  unfold m_large_Rat_Div
  refine Gd.bnd (mul_gd ha.n hb.d (by omega)) (fun x hx => Gd.bnd (mul_gd ha.d hb.n (by omega)) (fun z hz' => ?_))
  refine Gd.bnd (ratio_gd hx.1 hz'.1 (mul_nz hz'.2.2 ha.nz hb0) (by omega) (by omega)) (fun r hr => Gd.ret ⟨hr.1, ⟨by omega, by omega⟩, ?_⟩)
  rw [hr.2.2.2, hx.2.2, hz'.2.2]
  unfold rv
  rw [Rat.div_def, Rat.inv_divInt, Rat.divInt_mul_divInt]
theorem bsub {p q : Rat} (hp : fits p) (hq : fits q) : m_rat_Sub (ctext p) (ctext q) = some (tx (p - q)) := by
  refine Gd.eq.1 ?_
  unfold m_rat_Sub m_rat_op__large_Rat_Sub
  refine Gd.bnd (P := fun r => r = tx (p - q)) (Gd.bind_eq (checkall2 hp hq) (Gd.ite (fun hx => by simp at hx) (fun _ => ?_))) (fun r hr => by subst hr; exact Gd.ret rfl)
  refine Gd.bnd (parse_gd hp) (fun a ha => Gd.bnd (parse_gd hq) (fun b hb => Gd.bnd (rsub_gd ha.1 hb.1 ha.2.1 hb.2.1 (by omega)) (fun c hc => Gd.bnd (rat_text hc.1) (fun r hr => Gd.ret ?_))))
  rw [hr, hc.2.2, ha.2.2, hb.2.2]
abbrev SI := S_api_SwingIsland
structure SV (x : SI) (f : Rat) : Prop where
  i1 : 1 ≤ x.Inertia
  i2 : x.Inertia ≤ 1000
  d1 : 0 ≤ x.Damping
  d2 : x.Damping ≤ x.Inertia
  s1 : 0 ≤ x.Supply
  s2 : x.Supply ≤ 100000
  e1 : 0 ≤ x.Demand
  e2 : x.Demand ≤ 100000
  fit : fits f
  txt : x.Frequency = ctext f
theorem SV.same {x : SI} {f g : Rat} (h : SV x f) (k : SV x g) : f = g := ctext_inj h.fit k.fit (by rw [← h.txt, ← k.txt])
theorem scheck_gd (x : SI) (hs : x.Frequency.size ≤ maxLen) : Gd (m_swing_Check x) (fun c => c = 0 ↔ ∃ f, SV x f) := by
  unfold m_swing_Check m_swing_Check_1
  have no : ∀ {a : Int}, a ≠ 0 → (¬ ∃ f, SV x f) → Gd (some a) (fun c => c = 0 ↔ ∃ f, SV x f) := fun ha h => Gd.ret ⟨fun e => absurd e ha, fun e => absurd e h⟩
  refine Gd.ite (fun h => no (by decide) ?_) (fun h1 => Gd.ite (fun h => no (by decide) ?_) (fun h2 => Gd.ite (fun h => no (by decide) ?_) (fun h3 => Gd.ite (fun h => no (by decide) ?_) (fun h4 => ?_))))
  · rintro ⟨f, hf⟩
    simp only [Bool.or_eq_true, decide_eq_true_eq] at h
    have := hf.i1; have := hf.i2; omega
  · rintro ⟨f, hf⟩
    simp only [Bool.or_eq_true, decide_eq_true_eq] at h
    have := hf.d1; have := hf.d2; omega
  · rintro ⟨f, hf⟩
    simp only [Bool.or_eq_true, decide_eq_true_eq] at h
    have := hf.s1; have := hf.s2; omega
  · rintro ⟨f, hf⟩
    simp only [Bool.or_eq_true, decide_eq_true_eq] at h
    have := hf.e1; have := hf.e2; omega
  · simp only [Bool.or_eq_false_iff, decide_eq_false_iff_not] at h1 h2 h3 h4
    refine Gd.bnd (rcheck_gd _ hs) (fun c hc => Gd.ret ⟨fun e => ?_, fun ⟨f, hf⟩ => hc.2 ⟨f, hf.fit, hf.txt⟩⟩)
    obtain ⟨f, h5, h6⟩ := hc.1 e
    exact ⟨f, by omega, by omega, by omega, by omega, by omega, by omega, by omega, by omega, h5, h6⟩
theorem scheck_ok {x : SI} {f : Rat} (h : SV x f) : m_swing_Check x = some 0 := by
  refine Gd.eq.1 ((scheck_gd x (by rw [h.txt]; have := ctext_size h.fit; unfold maxLen; omega)).mono (fun c hc => hc.2 ⟨f, h⟩))
theorem scheck_no {x : SI} (hs : x.Frequency.size ≤ maxLen) (h : ¬ ∃ f, SV x f) : ∃ c, c ≠ 0 ∧ m_swing_Check x = some c := by
  obtain ⟨c, e, hc⟩ := scheck_gd x hs
  exact ⟨c, fun e => h (hc.1 e), e⟩

/-! ### a step -/
def xs (x : SI) (f : Rat) : Rat := ((x.Supply - x.Demand : Int) : Rat) - (x.Damping : Rat) * f
def nxt (x : SI) (f : Rat) : Rat := f + xs x f / (x.Inertia : Rat)
theorem excess_gd {x : SI} {f : Rat} (h : SV x f) {a : LR} (ha : ROk a) (la : RL a 300) : Gd (m_swing_excess x a) (fun r => ROk r ∧ RL r 1000 ∧ rv r = xs x (rv a)) := by
  have := h.i1; have := h.i2; have := h.d1; have := h.d2; have := h.s1; have := h.s2; have := h.e1; have := h.e2
  unfold m_swing_excess
  rw [wrap_id ⟨by omega, by omega⟩]
  refine Gd.bnd (whole_gd (n := x.Supply - x.Demand) ⟨by omega, by omega⟩) (fun w hw => Gd.bnd (whole_gd (n := x.Damping) ⟨by omega, by omega⟩) (fun d hd => Gd.bnd (rmul_gd hd.1 ha hd.2.1 la (by omega)) (fun m hm => Gd.bnd (rsub_gd hw.1 hm.1 hw.2.1 hm.2.1 (by omega)) (fun r hr => Gd.ret ⟨hr.1, hr.2.1.mono (by omega), ?_⟩))))
  rw [hr.2.2, hw.2.2, hm.2.2, hd.2.2]; rfl
theorem int_ne {n : Int} (h : n ≠ 0) : (n : Rat) ≠ 0 := by
  intro e
  apply h
  have h1 : ((n : Int) : Rat) = ((0 : Int) : Rat) := e
  exact Rat.intCast_inj.1 h1
theorem SV.ine {x : SI} {f : Rat} (h : SV x f) : (x.Inertia : Rat) ≠ 0 := int_ne (by have := h.i1; omega)
theorem step_gd {x : SI} {f : Rat} (h : SV x f) {a : LR} (ha : ROk a) (la : RL a 300) {R : Type} {k : LR → Option R} {Q : R → Prop}
    (hk : ∀ r, ROk r → rv r = nxt x (rv a) → Gd (k r) Q) :
    Gd ((m_swing_excess x a).bind fun r303 => (m_large_Whole x.Inertia).bind fun r311 => (m_large_Rat_Div r303 r311).bind fun r319 => (m_large_Rat_Add a r319).bind k) Q := by
  have := h.i1; have := h.i2
  refine Gd.bnd (excess_gd h ha la) (fun e he => Gd.bnd (whole_gd (n := x.Inertia) ⟨by omega, by omega⟩) (fun i hi => Gd.bnd (rdiv_gd he.1 hi.1 he.2.1 hi.2.1 (by omega) (by rw [hi.2.2]; exact h.ine)) (fun d hd => Gd.bnd (radd_gd ha hd.1 la hd.2.1 (by omega)) (fun r hr => hk r hr.1 ?_))))
  rw [hr.2.2, hd.2.2, he.2.2, hi.2.2]; rfl
def it (x : SI) (f : Rat) : Nat → Rat
  | 0 => f
  | k + 1 => nxt x (it x f k)
theorem it_add (x : SI) (f : Rat) (m : Nat) : ∀ n, it x f (m + n) = it x (it x f m) n
  | 0 => rfl
  | n + 1 => congrArg (nxt x) (it_add x f m n)
def tl (x : SI) (f : Rat) (n : Nat) : List ByteArray := (List.range n).map fun k => ctext (it x f (k + 1))
theorem tl_len (x : SI) (f : Rat) (n : Nat) : (tl x f n).length = n := by unfold tl; simp
theorem tl_succ (x : SI) (f : Rat) (n : Nat) : tl x f (n + 1) = tl x f n ++ [ctext (it x f (n + 1))] := by unfold tl; rw [List.range_succ, List.map_append]; rfl
theorem tl_add (x : SI) (f : Rat) (m : Nat) : ∀ n, tl x f (m + n) = tl x f m ++ tl x (it x f m) n
  | 0 => by simp [tl]
  | n + 1 => by
    rw [← Nat.add_assoc, tl_succ, tl_add x f m n, tl_succ, List.append_assoc, Nat.add_assoc m n 1, it_add]
def AllFit (x : SI) (f : Rat) (n : Nat) : Prop := ∀ k, 1 ≤ k → k ≤ n → fits (it x f k)
theorem swing_text_gd {a : LR} (h : ROk a) : Gd (m_swing_text a) (fun r => r = tx (rv a)) := text_core h
theorem run_ok {x : SI} {f : Rat} (h : SV x f) {n : Nat} (hn : n ≤ 200) : Gd (m_swing_Run x (n : Int)) (fun r => (AllFit x f n → r = (tl x f n, 0)) ∧ (¬ AllFit x f n → r = ([], 2))) := by
  unfold m_swing_Run
  refine Gd.bind_eq (scheck_ok h) (Gd.ite (fun hx => by simp at hx) (fun _ => Gd.ite (fun hx => ?_) (fun _ => ?_)))
  · exfalso
    simp only [Bool.or_eq_true, decide_eq_true_eq] at hx; omega
  rw [h.txt]
  refine Gd.bnd (parse_gd h.fit) (fun a ha => Gd.nd (by omega) ?_)
  rw [Int.toNat_natCast]
  refine Gd.forN (fun m i (z : List ByteArray × Bool × List U32 × Bool × List U32) => m + i = n ∧ z.1 = tl x f i ∧ ROk ⟨⟨z.2.1, z.2.2.1⟩, ⟨z.2.2.2.1, z.2.2.2.2⟩⟩ ∧ RL ⟨⟨z.2.1, z.2.2.1⟩, ⟨z.2.2.2.1, z.2.2.2.2⟩⟩ 300 ∧ rv ⟨⟨z.2.1, z.2.2.1⟩, ⟨z.2.2.2.1, z.2.2.2.2⟩⟩ = it x f i ∧ AllFit x f i)
    ?_ ?_ n 0 _ ⟨rfl, rfl, ha.1, ha.2.1, ha.2.2, fun k h1 h2 => by omega⟩
  · rintro m i ⟨l, c1, w1, c2, w2⟩ nx ⟨j1, j2, j3, j4, j5, j6⟩ hnx
    simp only at j2 j3 j4 j5 hnx ⊢
    unfold m_swing_Run_b1
    refine step_gd h j3 j4 (fun r hr hv => ?_)
    rw [j5] at hv
    have hv : rv r = it x f (i + 1) := hv
    refine Gd.bnd (swing_text_gd hr) (fun t ht => ?_)
    by_cases hf : fits (rv r)
    · rw [tx_ok hf] at ht
      subst ht
      refine Gd.ite (fun hx => by simp at hx) (fun _ => Gd.nd ?_ (hnx _ ⟨by omega, ?_, hr, hr.small hf, hv, fun k k1 k2 => ?_⟩))
      · rw [j2, tl_len]; simp only [List.length_singleton]; omega
      · simp only
        rw [tl_succ, j2, hv]
      · rcases Nat.lt_or_ge k (i + 1) with hk | hk
        · exact j6 k k1 (by omega)
        · rw [show k = i + 1 by omega, ← hv]; exact hf
    · rw [tx_no hf] at ht
      subst ht
      refine Gd.ite (fun _ => Gd.ret ⟨fun hall => ?_, fun _ => rfl⟩) (fun hx => by simp at hx)
      exact absurd (by rw [hv]; exact hall (i + 1) (by omega) (by omega)) hf
  · rintro i ⟨l, c1, w1, c2, w2⟩ ⟨j1, j2, j3, j4, j5, j6⟩
    simp only at j2 ⊢
    have hi : i = n := by omega
    subst hi
    exact Gd.ret ⟨fun _ => by rw [j2], fun hno => absurd j6 hno⟩
theorem run_no {x : SI} (hs : x.Frequency.size ≤ maxLen) (h : ¬ ∃ f, SV x f) (n : Int) : ∃ c, c ≠ 0 ∧ m_swing_Run x n = some ([], c) := by
  obtain ⟨c, hc, e⟩ := scheck_no hs h
  refine ⟨c, hc, Gd.eq.1 ?_⟩
  unfold m_swing_Run
  exact Gd.bind_eq e (Gd.ite (fun _ => Gd.ret rfl) (fun hx => by simp [hc] at hx))
def noI : SI := ⟨0, 0, 0, 0, ⟨#[]⟩⟩
def withF (x : SI) (f : Rat) : SI := ⟨x.Inertia, x.Damping, x.Supply, x.Demand, ctext f⟩
theorem SV.withF {x : SI} {f g : Rat} (h : SV x f) (hg : fits g) : SV (withF x g) g := ⟨h.i1, h.i2, h.d1, h.d2, h.s1, h.s2, h.e1, h.e2, hg, rfl⟩
theorem step_ok {x : SI} {f : Rat} (h : SV x f) (hf : fits (nxt x f)) : m_swing_Step x = some (withF x (nxt x f), 0) := by
  refine Gd.eq.1 ?_
  have hall : AllFit x f 1 := fun k h1 h2 => by rw [show k = 1 by omega]; exact hf
  unfold m_swing_Step
  refine Gd.bnd (run_ok h (n := 1) (by omega)) (fun r hr => ?_)
  have hr := hr.1 hall
  subst hr
  exact Gd.ite (fun hx => by simp at hx) (fun _ => Gd.ix (y := ctext (nxt x f)) (by omega) rfl (Gd.ret rfl))
theorem step_big {x : SI} {f : Rat} (h : SV x f) (hf : ¬ fits (nxt x f)) : m_swing_Step x = some (noI, 2) := by
  refine Gd.eq.1 ?_
  have hall : ¬ AllFit x f 1 := fun hh => hf (hh 1 (by omega) (by omega))
  unfold m_swing_Step
  refine Gd.bnd (run_ok h (n := 1) (by omega)) (fun r hr => ?_)
  have hr := hr.2 hall
  subst hr
  exact Gd.ite (fun _ => Gd.ret rfl) (fun hx => by simp at hx)
theorem step_no {x : SI} (hs : x.Frequency.size ≤ maxLen) (h : ¬ ∃ f, SV x f) : ∃ c, c ≠ 0 ∧ m_swing_Step x = some (noI, c) := by
  obtain ⟨c, hc, e⟩ := run_no hs h 1
  refine ⟨c, hc, Gd.eq.1 ?_⟩
  unfold m_swing_Step
  exact Gd.bind_eq e (Gd.ite (fun _ => Gd.ret rfl) (fun hx => by simp [hc] at hx))
/-! ### the other functions -/
theorem mom_core {x : SI} {f : Rat} (h : SV x f) : Gd (m_swing_momentum x) (fun r => ROk r ∧ RL r 1000 ∧ rv r = (x.Inertia : Rat) * f) := by
  have := h.i1; have := h.i2
  unfold m_swing_momentum
  rw [h.txt]
  refine Gd.bnd (whole_gd (n := x.Inertia) ⟨by omega, by omega⟩) (fun i hi => Gd.bnd (parse_gd h.fit) (fun a ha => Gd.bnd (rmul_gd hi.1 ha.1 hi.2.1 ha.2.1 (by omega)) (fun r hr => Gd.ret ⟨hr.1, hr.2.1.mono (by omega), ?_⟩)))
  rw [hr.2.2, hi.2.2, ha.2.2]
theorem mom_ok {x : SI} {f : Rat} (h : SV x f) : m_swing_Momentum x = some (tx ((x.Inertia : Rat) * f)) := by
  refine Gd.eq.1 ?_
  unfold m_swing_Momentum
  refine Gd.bind_eq (scheck_ok h) (Gd.ite (fun hx => by simp at hx) (fun _ => Gd.bnd (mom_core h) (fun r hr => Gd.bnd (swing_text_gd hr.1) (fun t ht => Gd.ret ?_))))
  rw [ht, hr.2.2]
theorem exc_ok {x : SI} {f : Rat} (h : SV x f) : m_swing_Excess x = some (tx (xs x f)) := by
  refine Gd.eq.1 ?_
  unfold m_swing_Excess
  rw [h.txt]
  refine Gd.bind_eq (scheck_ok h) (Gd.ite (fun hx => by simp at hx) (fun _ => Gd.bnd (parse_gd h.fit) (fun a ha => Gd.bnd (excess_gd h ha.1 ha.2.1) (fun r hr => Gd.bnd (swing_text_gd hr.1) (fun t ht => Gd.ret ?_)))))
  rw [ht, hr.2.2, ha.2.2]
def stF (x : SI) : Rat := ((x.Supply - x.Demand : Int) : Rat) / (x.Damping : Rat)
theorem two_fits {a : LR} (h : ROk a) (l : RL a 2) : fits (rv a) := by
  have e : WB ^ 2 ≤ 10 ^ 20 := by decide
  have key : ∀ {w : List U32}, Wf w → w.length ≤ 2 → nv w < 10 ^ 20 := fun hw hl =>
    Nat.lt_of_lt_of_le (nv_lt hw) (Nat.le_trans (Nat.pow_le_pow_right (by decide) hl) e)
  refine fits_of (k := 20) ?_ ?_ (by decide) (by decide)
  · rw [h.num, ival_abs]; exact key h.n.wf l.1
  · rw [h.den]; exact key h.d.wf l.2
theorem frac_fits {n d : Int} (h : -9223372036854775808 ≤ n ∧ n ≤ 9223372036854775807) (k : -9223372036854775808 ≤ d ∧ d ≤ 9223372036854775807) (h0 : d ≠ 0) : fits ((n : Rat) / (d : Rat)) := by
  obtain ⟨a, _, h1, h2, h3⟩ := frac_gd h k h0
  rw [← h3]; exact two_fits h1 h2
theorem whole_fits {n : Int} (h : -9223372036854775808 ≤ n ∧ n ≤ 9223372036854775807) : fits (n : Rat) := by
  obtain ⟨a, _, h1, h2, h3⟩ := whole_gd h
  rw [← h3]; exact two_fits h1 h2
theorem steady_ok {x : SI} {f : Rat} (h : SV x f) (hd : x.Damping ≠ 0) : fits (stF x) ∧ m_swing_Steady x = some (ctext (stF x), 0) := by
  have := h.i1; have := h.i2; have := h.d1; have := h.d2; have := h.s1; have := h.s2; have := h.e1; have := h.e2
  have hf : fits (stF x) := frac_fits (n := x.Supply - x.Demand) (d := x.Damping) ⟨by omega, by omega⟩ ⟨by omega, by omega⟩ hd
  refine ⟨hf, Gd.eq.1 ?_⟩
  unfold m_swing_Steady
  rw [wrap_id (n := x.Supply - x.Demand) ⟨by omega, by omega⟩]
  refine Gd.bind_eq (scheck_ok h) (Gd.ite (fun hx => by simp at hx) (fun _ => Gd.ite (fun hx => absurd (of_decide_eq_true hx) hd) (fun _ => Gd.bnd (frac_gd (n := x.Supply - x.Demand) (d := x.Damping) ⟨by omega, by omega⟩ ⟨by omega, by omega⟩ hd) (fun r hr => Gd.bnd (swing_text_gd hr.1) (fun t ht => Gd.ret ?_)))))
  rw [ht, hr.2.2]
  exact tx_ok hf
theorem steady_zero {x : SI} {f : Rat} (h : SV x f) (hd : x.Damping = 0) : m_swing_Steady x = some (⟨#[]⟩, 10) := by
  refine Gd.eq.1 ?_
  unfold m_swing_Steady
  exact Gd.bind_eq (scheck_ok h) (Gd.ite (fun hx => by simp at hx) (fun _ => Gd.ite (fun _ => Gd.ret rfl) (fun hx => absurd hd (of_decide_eq_false hx))))
theorem steady_no {x : SI} (hs : x.Frequency.size ≤ maxLen) (h : ¬ ∃ f, SV x f) : ∃ c, c ≠ 0 ∧ m_swing_Check x = some c ∧ m_swing_Steady x = some (⟨#[]⟩, c) := by
  obtain ⟨c, hc, e⟩ := scheck_no hs h
  refine ⟨c, hc, e, Gd.eq.1 ?_⟩
  unfold m_swing_Steady
  exact Gd.bind_eq e (Gd.ite (fun _ => Gd.ret rfl) (fun hx => by simp [hc] at hx))
end Go.Sim
