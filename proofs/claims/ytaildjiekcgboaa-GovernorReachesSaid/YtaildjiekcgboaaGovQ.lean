/-
  The governor laws, in plain Lean: the models answer true.
-/
import Derived.Test.YtaildjiekcgboaaGovP
namespace Go.Sim
open Go
set_option linter.unusedVariables false

/-! ### Settling -/
theorem settle_hit {l : List S_api_GovernorSetup} (G : Goods l) {demand f : Int} (h1 : -10000 ≤ f) (h2 : f ≤ 10000) (hd : demand ≤ tot l f) (n : Int → Option (Int × Int)) : m_governor_Settle_b1 l demand f n = some (f, 0) := by
  simp [m_governor_Settle_b1, h1, total_eq G h1 h2, hd]
theorem settle_go {l : List S_api_GovernorSetup} (G : Goods l) {demand f : Int} (h1 : -10000 ≤ f) (h2 : f ≤ 10000) (hd : ¬ demand ≤ tot l f) (n : Int → Option (Int × Int)) : m_governor_Settle_b1 l demand f n = n (f - 1) := by
  simp [m_governor_Settle_b1, h1, total_eq G h1 h2, hd, wrapN (n := f - 1) (by omega)]
theorem settle_end {l : List S_api_GovernorSetup} {demand f : Int} (h1 : ¬ -10000 ≤ f) (n : Int → Option (Int × Int)) : m_governor_Settle_b1 l demand f n = some (0, 8) := by
  simp [m_governor_Settle_b1, h1]
theorem settle_loop {l : List S_api_GovernorSetup} (G : Goods l) (demand : Int) : ∀ (n : Nat) (f : Int), -10001 ≤ f → f ≤ 10000 → f + 10002 ≤ n → (f < 10000 → tot l (f + 1) < demand) →
    (∃ s, loopF (fun s n => m_governor_Settle_b1 l demand s n) n f = some (s, 0) ∧ -10000 ≤ s ∧ s ≤ 10000 ∧ demand ≤ tot l s ∧ (s < 10000 → tot l (s + 1) < demand)) ∨
    (loopF (fun s n => m_governor_Settle_b1 l demand s n) n f = some (0, 8) ∧ tot l (-10000) < demand) := by
  intro n
  induction n with
  | zero => intro f h1 h2 h3; omega
  | succ n ih =>
    intro f h1 h2 h3 h4
    rw [loopF_succ]
    by_cases hf : -10000 ≤ f
    · by_cases hd : demand ≤ tot l f
      · left; exact ⟨f, by rw [settle_hit G hf h2 hd], hf, h2, hd, h4⟩
      · rw [settle_go G hf h2 hd]
        exact ih (f - 1) (by omega) (by omega) (by omega) (fun _ => by rw [show f - 1 + 1 = f by omega]; omega)
    · right
      have : f = -10001 := by omega
      subst this
      exact ⟨settle_end (by omega) _, by have := h4 (by omega); simpa using this⟩

def settleWith (F : Nat) (p0_l : List S_api_GovernorSetup) (demand : Int) : Option (Int × Int) :=
  (m_governor_check p0_l).bind fun r101 => if !decide (r101 = 0) then (some (0, r101)) else (loopF (fun s n => m_governor_Settle_b1 p0_l demand s n) F 10000)
theorem settle_with (l : List S_api_GovernorSetup) (demand : Int) : m_governor_Settle l demand = settleWith FUEL l demand := rfl
theorem Settle_cases' {F : Nat} (hF : 1000000000000 ≤ F) (l : List S_api_GovernorSetup) (demand : Int) :
    (∃ e, settleWith F l demand = some (0, e) ∧ (e = 2 ∨ e = 4) ∧ ∀ f, m_governor_Total l f = some (0, e)) ∨
    (Goods l ∧ (∃ s, settleWith F l demand = some (s, 0) ∧ -10000 ≤ s ∧ s ≤ 10000 ∧ demand ≤ tot l s ∧ (s < 10000 → tot l (s + 1) < demand))) ∨
    (Goods l ∧ settleWith F l demand = some (0, 8) ∧ tot l (-10000) < demand) := by
  unfold settleWith
  rcases check_list l with ⟨e, he, h⟩ | ⟨he, G⟩
  · left
    refine ⟨e, ?_, h, fun f => ?_⟩
    · rw [he]; rcases h with rfl | rfl <;> rfl
    · unfold m_governor_Total; rw [he]; rcases h with rfl | rfl <;> rfl
  · right
    rw [he]
    simp only [Option.bind_some, decide_true, Bool.not_true, Bool.false_eq_true, if_false]
    rcases settle_loop G demand F 10000 (by omega) (by omega) (by omega) (by omega) with h | h
    · exact .inl ⟨G, h⟩
    · exact .inr ⟨G, h⟩

theorem Settle_cases (l : List S_api_GovernorSetup) (demand : Int) :
    (∃ e, m_governor_Settle l demand = some (0, e) ∧ (e = 2 ∨ e = 4) ∧ ∀ f, m_governor_Total l f = some (0, e)) ∨
    (Goods l ∧ (∃ s, m_governor_Settle l demand = some (s, 0) ∧ -10000 ≤ s ∧ s ≤ 10000 ∧ demand ≤ tot l s ∧ (s < 10000 → tot l (s + 1) < demand))) ∨
    (Goods l ∧ m_governor_Settle l demand = some (0, 8) ∧ tot l (-10000) < demand) :=
  Settle_cases' FUEL_ge l demand

theorem GovernorSettles_true (l : List S_api_GovernorSetup) (demand : Int) : m_gridhallkeep4_GovernorSettles l demand = some true := by
  unfold m_gridhallkeep4_GovernorSettles
  rw [governorFact_true]
  rcases Settle_cases l demand with ⟨e, he, h, ht⟩ | ⟨G, s, hs, s1, s2, s3, s4⟩ | ⟨G, hs, h⟩
  · rw [he, ht]; rcases h with rfl | rfl <;> rfl
  · rw [hs]
    simp only [Option.bind_some, decide_true, Bool.not_true, Bool.false_eq_true, if_false]
    rw [Total_good G s1 s2]
    simp only [Option.bind_some, decide_true, Bool.not_true, Bool.false_or, decide_eq_true_eq]
    rw [if_neg (by omega)]
    by_cases h : s = 10000
    · simp [h]
    · rw [if_neg h, wrapN (n := s + 1) (by omega), Total_good G (by omega) (by omega)]
      simp [s4 (by omega)]
  · rw [hs, Total_good G (by omega) (by omega)]
    simp [h]

/-! ### Steps -/
theorem Next_good {g : S_api_GovernorSetup} (G : Good g) {f now : Int} (h1 : -10000 ≤ f) (h2 : f ≤ 10000) (n1 : g.Least ≤ now) (n2 : now ≤ g.Most) :
    m_governor_Next g now f = some (min (max (tgt g f) (now - g.Ramp)) (now + g.Ramp), 0) := by
  have := G.l0; have := G.m1; have := G.r0; have := G.r1
  unfold m_governor_Next m_governor_out
  rw [Target_good G h1 h2]
  simp only [Option.bind_some]
  rw [wrapN (n := now - g.Ramp) (by omega), wrapN (n := now + g.Ramp) (by omega)]
  have hh : (decide (now < g.Least) || decide (g.Most < now)) = false := by simp; omega
  simp [hh]

theorem reach_step {g : S_api_GovernorSetup} (G : Good g) {f : Int} (h1 : -10000 ≤ f) (h2 : f ≤ 10000) {s e : Int} (s1 : g.Least ≤ s) (s2 : s ≤ g.Most) :
    (g.Least ≤ min (max (tgt g f) (s - g.Ramp)) (s + g.Ramp) ∧ min (max (tgt g f) (s - g.Ramp)) (s + g.Ramp) ≤ g.Most) ∧
    ∀ k n, m_gridhallkeep4_GovernorReaches_b1 g f (tgt g f, e) k s n = n (min (max (tgt g f) (s - g.Ramp)) (s + g.Ramp)) := by
  have hb := tgt_bound G f
  have := G.l0; have := G.m1; have := G.r0; have := G.r1
  refine ⟨by omega, fun k n => ?_⟩
  unfold m_gridhallkeep4_GovernorReaches_b1
  rw [Next_good G h1 h2 s1 s2]
  simp only [Option.bind_some]
  generalize tgt g f = t at *
  generalize hn : min (max t (s - g.Ramp)) (s + g.Ramp) = s'
  rw [wrapN (n := s' - s) (by omega), wrapN (n := s - s') (by omega), wrapN (n := s - t) (by omega), wrapN (n := t - s) (by omega), wrapN (n := s' - t) (by omega), wrapN (n := t - s') (by omega)]
  rw [if_neg]
  simp
  omega
theorem reach_loop {g : S_api_GovernorSetup} (G : Good g) {f : Int} (h1 : -10000 ≤ f) (h2 : f ≤ 10000) (e : Int) : ∀ (n k : Nat) (s : Int), g.Least ≤ s → s ≤ g.Most →
    (∃ s', (∀ K, forN (fun k s n => m_gridhallkeep4_GovernorReaches_b1 g f (tgt g f, e) k s n) K n k s = K s') ∧ (s' = tgt g f ∨ (tgt g f - s).natAbs ≥ (tgt g f - s').natAbs + n * g.Ramp.toNat)) := by
  intro n
  induction n with
  | zero => intro k s _ _; exact ⟨s, fun _ => rfl, .inr (by simp)⟩
  | succ n ih =>
    intro k s s1 s2
    have hb := tgt_bound G f
    have := G.l0; have := G.m1; have := G.r0; have := G.r1
    obtain ⟨hn, hh⟩ := reach_step G h1 h2 (e := e) s1 s2
    generalize hs' : min (max (tgt g f) (s - g.Ramp)) (s + g.Ramp) = s' at hn hh
    obtain ⟨q, hq, hr⟩ := ih (k + 1) s' (by omega) (by omega)
    refine ⟨q, fun K => ?_, ?_⟩
    · rw [forN_succ, hh k]; exact hq K
    · rcases hr with hr | hr
      · exact .inl hr
      · by_cases hst : s' = tgt g f
        · left; omega
        · right
          rw [Nat.add_mul]
          omega

def reachWith (N : Nat) (p0_g : S_api_GovernorSetup) (now : Int) (p2_f : Int) : Option (Bool) := (m_governor_Target p0_g p2_f).bind fun r102 => if !decide (r102.2 = 0) then ((m_gridhallkeep4_governorFact).bind fun r108 => some (r108 && (decide (r102.1 = 0)))) else ((m_gridhallref4_Cut now p0_g.Least p0_g.Most).bind fun r112 => forN (fun k s n => m_gridhallkeep4_GovernorReaches_b1 p0_g p2_f r102 k s n) (fun s => (m_gridhallkeep4_governorFact).bind fun r170 => some (r170 && (((decide (p0_g.Ramp = 0)) || (decide (s = r102.1))) || (decide ((IntKind.i64.wrap (50 * p0_g.Ramp)) < (IntKind.i64.wrap (p0_g.Most - p0_g.Least))))))) N 0 r112)
theorem reach_with (g : S_api_GovernorSetup) (now f : Int) : m_gridhallkeep4_GovernorReaches g now f = reachWith (50 : Int).toNat g now f := rfl
theorem GovernorReaches_true' (N : Nat) (hN : N = 50) (g : S_api_GovernorSetup) (now f : Int) : reachWith N g now f = some true := by
  unfold reachWith
  rw [governorFact_true]
  rcases Target_cases g f with h | ⟨G, h1, h2, h⟩
  · rw [h]; rfl
  · rw [h]
    have := G.l0; have := G.lm; have := G.m1; have := G.r0; have := G.r1
    obtain ⟨c, hc, c1, c2⟩ := cut_some (n := now) (lo := g.Least) (hi := g.Most) (by omega) (by omega) (by omega)
    obtain ⟨q, hq, hr⟩ := reach_loop G h1 h2 0 N 0 c c1 c2
    have hb := tgt_bound G f
    simp only [Option.bind_some, decide_true, Bool.not_true, Bool.false_eq_true, if_false, hc]
    rw [hq]
    subst hN
    rw [wrapN (n := 50 * g.Ramp) (by omega), wrapN (n := g.Most - g.Least) (by omega)]
    rcases hr with rfl | hr
    · simp
    · simp only [Bool.true_and, Option.some.injEq, Bool.or_eq_true, decide_eq_true_eq]
      omega
theorem GovernorReaches_true (g : S_api_GovernorSetup) (now f : Int) : m_gridhallkeep4_GovernorReaches g now f = some true :=
  GovernorReaches_true' _ rfl g now f
end Go.Sim
