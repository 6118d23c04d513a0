/-
  The governor laws, in plain Lean: the models answer true.
-/
import Derived.Test.YtaildjiekcgboaaGovF
import Derived.Test.YtaildjiekcgboaaSimL
namespace Go.Sim
open Go
set_option linter.unusedVariables false

theorem wrapN {n : Int} (h : -9223372036854775808 ≤ n ∧ n ≤ 9223372036854775807) : IntKind.i64.wrap n = n := i64_of h.1 h.2

theorem cut_some {n lo hi : Int} (h : lo ≤ hi) (h1 : -1000000000000 ≤ lo) (h2 : hi ≤ 1000000000000) : ∃ c, m_gridhallref4_Cut n lo hi = some c ∧ lo ≤ c ∧ c ≤ hi := by
  have e1 : IntKind.i64.wrap (hi - lo) = hi - lo := wrapN (by omega)
  have e2 : IntKind.i64.wrap (hi - lo + 1) = hi - lo + 1 := wrapN (by omega)
  have m1 : Int.tmod n (hi - lo + 1) < hi - lo + 1 := Int.tmod_lt_of_pos _ (by omega)
  have m2 : -(hi - lo + 1) < Int.tmod n (hi - lo + 1) := Int.lt_tmod_of_pos _ (by omega)
  unfold m_gridhallref4_Cut m_gridhallref4_Cut_b1
  rw [e1, e2]
  simp only [need, if_pos (show hi - lo + 1 ≠ 0 from by omega), decide_eq_true_eq]
  split
  · rw [wrapN (n := Int.tmod n (hi - lo + 1) + (hi - lo + 1)) (by omega), wrapN (by omega)]
    exact ⟨_, rfl, by omega, by omega⟩
  · rw [wrapN (by omega)]
    exact ⟨_, rfl, by omega, by omega⟩

structure Good (g : S_api_GovernorSetup) : Prop where
  l0 : 0 ≤ g.Least
  lm : g.Least ≤ g.Most
  m1 : g.Most ≤ 100000
  s0 : g.Least ≤ g.Set
  s1 : g.Set ≤ g.Most
  d0 : 1 ≤ g.Droop
  d1 : g.Droop ≤ 10000
  b0 : 0 ≤ g.Band
  b1 : g.Band ≤ 10000
  r0 : 0 ≤ g.Ramp
  r1 : g.Ramp ≤ 100000

theorem check_cases (g : S_api_GovernorSetup) : (m_governor_Check g = 4) ∨ (m_governor_Check g = 0 ∧ Good g) := by
  unfold m_governor_Check m_governor_out
  split
  · exact .inl rfl
  · rename_i h
    simp at h
    exact .inr ⟨rfl, ⟨by omega, by omega, by omega, by omega, by omega, by omega, by omega, by omega, by omega, by omega, by omega⟩⟩

def dev (g : S_api_GovernorSetup) (f : Int) : Int := if g.Band < f then f - g.Band else if f < -g.Band then f + g.Band else 0
def tgt (g : S_api_GovernorSetup) (f : Int) : Int := min (max (g.Set - Int.tdiv (dev g f) g.Droop) g.Least) g.Most

theorem tdiv_bound {a b : Int} (hb : 1 ≤ b) (h1 : -10000 ≤ a) (h2 : a ≤ 10000) : -10000 ≤ Int.tdiv a b ∧ Int.tdiv a b ≤ 10000 := by
  by_cases h : 0 ≤ a
  · have := Int.tdiv_le_self b h
    have := Int.tdiv_nonneg h (show 0 ≤ b by omega)
    omega
  · have h' : 0 ≤ -a := by omega
    have e := Int.neg_tdiv (a := a) (b := b)
    have := Int.tdiv_le_self b h'
    have := Int.tdiv_nonneg h' (show 0 ≤ b by omega)
    omega
theorem tdiv_mono {a a' b : Int} (hb : 1 ≤ b) (h : a ≤ a') : Int.tdiv a b ≤ Int.tdiv a' b := Int.tdiv_le_tdiv (by omega) h

theorem dev_bound {g : S_api_GovernorSetup} (G : Good g) {f : Int} (h1 : -10000 ≤ f) (h2 : f ≤ 10000) : -10000 ≤ dev g f ∧ dev g f ≤ 10000 := by
  have := G.b0; unfold dev; split <;> (try split) <;> omega
theorem dev_mono {g : S_api_GovernorSetup} (G : Good g) {f f' : Int} (h : f ≤ f') : dev g f ≤ dev g f' := by
  have := G.b0; unfold dev; split <;> split <;> (try split) <;> (try split) <;> omega

theorem target_eq {g : S_api_GovernorSetup} (G : Good g) {f : Int} (h1 : -10000 ≤ f) (h2 : f ≤ 10000) : m_governor_target g f = some (tgt g f) := by
  have hb := G.b0; have hb1 := G.b1; have hs0 := G.s0; have hs1 := G.s1; have hl := G.l0; have hm := G.m1; have hd := G.d0
  have hdv := dev_bound G h1 h2
  have ht := tdiv_bound hd hdv.1 hdv.2
  have key : m_governor_target g f = m_governor_target_b1 g (dev g f) := by
    unfold m_governor_target dev
    rw [wrapN (n := f - g.Band) (by omega), wrapN (n := 0 - g.Band) (by omega), wrapN (n := f + g.Band) (by omega)]
    simp only [decide_eq_true_eq, Int.zero_sub]
    split
    · rfl
    · split <;> rfl
  rw [key]
  unfold m_governor_target_b1 tgt
  rw [wrapN (n := Int.tdiv _ _) (by omega), wrapN (by omega)]
  simp only [need, if_pos (show g.Droop ≠ 0 from by omega)]

theorem tgt_bound {g : S_api_GovernorSetup} (G : Good g) (f : Int) : g.Least ≤ tgt g f ∧ tgt g f ≤ g.Most := by
  have := G.lm; unfold tgt; omega
theorem tgt_mono {g : S_api_GovernorSetup} (G : Good g) {f f' : Int} (h : f ≤ f') : tgt g f' ≤ tgt g f := by
  have := tdiv_mono G.d0 (dev_mono G h); unfold tgt; omega

theorem wrong_false {f : Int} (h1 : -10000 ≤ f) (h2 : f ≤ 10000) : m_governor_wrong f = false := by
  unfold m_governor_wrong m_governor_out; simp; omega
theorem wrong_true {f : Int} (h : m_governor_wrong f = false) : -10000 ≤ f ∧ f ≤ 10000 := by
  unfold m_governor_wrong m_governor_out at h; simp at h; omega

/-- What 'Target' answers. -/
theorem Target_cases (g : S_api_GovernorSetup) (f : Int) :
    (m_governor_Target g f = some (0, 4)) ∨ (Good g ∧ -10000 ≤ f ∧ f ≤ 10000 ∧ m_governor_Target g f = some (tgt g f, 0)) := by
  unfold m_governor_Target
  rcases check_cases g with h | ⟨h, G⟩
  · rw [h]; exact .inl rfl
  · rw [h]
    cases hw : m_governor_wrong f
    · have hf := wrong_true hw
      refine .inr ⟨G, hf.1, hf.2, ?_⟩
      simp [target_eq G hf.1 hf.2]
    · exact .inl rfl
theorem Target_good {g : S_api_GovernorSetup} (G : Good g) {f : Int} (h1 : -10000 ≤ f) (h2 : f ≤ 10000) : m_governor_Target g f = some (tgt g f, 0) := by
  unfold m_governor_Target
  have hc : m_governor_Check g = 0 := by
    unfold m_governor_Check m_governor_out
    have := G.l0; have := G.lm; have := G.m1; have := G.s0; have := G.s1; have := G.d0; have := G.d1; have := G.b0; have := G.b1; have := G.r0; have := G.r1
    rw [if_neg]; simp; omega
  rw [hc, wrong_false h1 h2]; simp [target_eq G h1 h2]

theorem GovernorFalls_true (g : S_api_GovernorSetup) (f up : Int) : m_gridhallkeep4_GovernorFalls g f up = some true := by
  unfold m_gridhallkeep4_GovernorFalls
  obtain ⟨c, hc, c1, c2⟩ := cut_some (n := f) (lo := -10000) (hi := 10000) (by omega) (by omega) (by omega)
  rw [hc]
  simp only [Option.bind_some]
  rw [wrapN (n := 10000 - c) (by omega)]
  obtain ⟨d, hd, d1, d2⟩ := cut_some (n := up) (lo := 0) (hi := 10000 - c) (by omega) (by omega) (by omega)
  rw [hd]
  simp only [Option.bind_some]
  rw [wrapN (n := c + d) (by omega), governorFact_true]
  rcases check_cases g with h | ⟨h, G⟩
  · have e : ∀ x, m_governor_Target g x = some (0, 4) := fun x => by unfold m_governor_Target; rw [h]; rfl
    rw [e, e]; rfl
  · rw [Target_good G (by omega) (by omega), Target_good G (by omega) (by omega)]
    have b1 := tgt_bound G c
    have b2 := tgt_bound G (c + d)
    have b3 := tgt_mono G (show c ≤ c + d by omega)
    simp [b1, b2, b3]

/-! ### Sums -/
def Goods (l : List S_api_GovernorSetup) : Prop := l.length ≤ 10 ∧ ∀ g ∈ l, Good g
def tot (l : List S_api_GovernorSetup) (f : Int) : Int := (l.map fun g => tgt g f).sum

theorem check_ok {g : S_api_GovernorSetup} (h : m_governor_Check g = 0) (k : Nat) (n : Unit → Option Int) : m_governor_check_b1 k g n = n () := by simp [m_governor_check_b1, h]
theorem check_bad {g : S_api_GovernorSetup} (h : m_governor_Check g = 4) (k : Nat) (n : Unit → Option Int) : m_governor_check_b1 k g n = some 4 := by simp [m_governor_check_b1, h]
theorem forI_check (K : Unit → Option Int) : ∀ (l : List S_api_GovernorSetup) (k : Nat), (forI (fun k y s n => m_governor_check_b1 k y n) K k l () = some 4) ∨
    ((∀ g ∈ l, Good g) ∧ forI (fun k y s n => m_governor_check_b1 k y n) K k l () = K ()) := by
  intro l
  induction l with
  | nil => intro k; exact .inr ⟨by simp, rfl⟩
  | cons g l ih =>
    intro k
    rw [forI_cons]
    rcases check_cases g with h | ⟨h, G⟩
    · left; rw [check_bad h]
    · rw [check_ok h]
      rcases ih (k + 1) with e | ⟨e1, e2⟩
      · exact .inl e
      · right
        exact ⟨by simpa using ⟨G, e1⟩, e2⟩

theorem check_list (l : List S_api_GovernorSetup) : (∃ e, m_governor_check l = some e ∧ (e = 2 ∨ e = 4)) ∨ (m_governor_check l = some 0 ∧ Goods l) := by
  unfold m_governor_check
  by_cases h : (10 : Int) < l.length
  · left; exact ⟨2, by simp [h], .inl rfl⟩
  · simp only [h, decide_false]
    rcases forI_check (fun _ => some 0) l 0 with e | ⟨e1, e2⟩
    · left; exact ⟨4, by simpa using e, .inr rfl⟩
    · right; exact ⟨by simpa using e2, by omega, e1⟩

theorem tgt_nn {g : S_api_GovernorSetup} (G : Good g) (f : Int) : 0 ≤ tgt g f ∧ tgt g f ≤ 100000 := by
  have := tgt_bound G f; have := G.l0; have := G.m1; omega

theorem forI_total {f : Int} (h1 : -10000 ≤ f) (h2 : f ≤ 10000) : ∀ (l : List S_api_GovernorSetup) (k : Nat) (s : Int), (∀ g ∈ l, Good g) → 0 ≤ s → s + l.length * 100000 ≤ 2000000 →
    forI (fun k y s n => m_governor_total_b1 f k y s n) (fun s => some s) k l s = some (s + tot l f) := by
  intro l
  induction l with
  | nil => intro k s _ _ _; simp [forI, tot]
  | cons g l ih =>
    intro k s hg h0 hs
    have G := hg g (List.mem_cons_self ..)
    have hb := tgt_nn G f
    simp only [List.length_cons] at hs
    unfold forI
    simp only [m_governor_total_b1, target_eq G h1 h2, Option.bind_some]
    rw [wrapN (by omega)]
    have := ih (k + 1) (s + tgt g f) (fun x hx => hg x (List.mem_cons_of_mem _ hx)) (by omega) (by omega)
    simp only [m_governor_total_b1] at this
    rw [this]
    simp [tot, Int.add_assoc]

theorem total_eq {l : List S_api_GovernorSetup} (G : Goods l) {f : Int} (h1 : -10000 ≤ f) (h2 : f ≤ 10000) : m_governor_total l f = some (tot l f) := by
  unfold m_governor_total
  have := forI_total h1 h2 l 0 0 G.2 (by omega) (by have := G.1; omega)
  rw [this, Int.zero_add]

theorem tot_mono {l : List S_api_GovernorSetup} (G : ∀ g ∈ l, Good g) {f f' : Int} (h : f ≤ f') : tot l f' ≤ tot l f := by
  induction l with
  | nil => simp [tot]
  | cons g l ih =>
    have a := tgt_mono (G g (List.mem_cons_self ..)) h
    have b := ih fun x hx => G x (List.mem_cons_of_mem _ hx)
    simp only [tot, List.map_cons, List.sum_cons] at b ⊢
    omega

/-- What 'Total' answers. -/
theorem Total_cases (l : List S_api_GovernorSetup) (f : Int) :
    (∃ e, m_governor_Total l f = some (0, e) ∧ (e = 2 ∨ e = 4)) ∨ (Goods l ∧ -10000 ≤ f ∧ f ≤ 10000 ∧ m_governor_Total l f = some (tot l f, 0)) := by
  unfold m_governor_Total
  rcases check_list l with ⟨e, he, h⟩ | ⟨he, G⟩
  · left
    refine ⟨e, ?_, h⟩
    rw [he]
    rcases h with rfl | rfl <;> rfl
  · rw [he]
    cases hw : m_governor_wrong f
    · have hf := wrong_true hw
      refine .inr ⟨G, hf.1, hf.2, ?_⟩
      simp [total_eq G hf.1 hf.2]
    · exact .inl ⟨4, rfl, .inr rfl⟩
theorem check_good {l : List S_api_GovernorSetup} (G : Goods l) : m_governor_check l = some 0 := by
  unfold m_governor_check
  have hl : ¬ (10 : Int) < l.length := by have := G.1; omega
  simp only [hl, decide_false]
  have : ∀ (l : List S_api_GovernorSetup) (k : Nat), (∀ g ∈ l, Good g) → forI (fun k y s n => m_governor_check_b1 k y n) (fun _ => some 0) k l () = some 0 := by
    intro l
    induction l with
    | nil => intro k _; rfl
    | cons g l ih =>
      intro k hg
      have G := hg g (List.mem_cons_self ..)
      have hc : m_governor_Check g = 0 := by
        unfold m_governor_Check m_governor_out
        have := G.l0; have := G.lm; have := G.m1; have := G.s0; have := G.s1; have := G.d0; have := G.d1; have := G.b0; have := G.b1; have := G.r0; have := G.r1
        rw [if_neg]; simp; omega
      rw [forI_cons, check_ok hc]
      exact ih (k + 1) fun x hx => hg x (List.mem_cons_of_mem _ hx)
  simpa using this l 0 G.2
theorem Total_good {l : List S_api_GovernorSetup} (G : Goods l) {f : Int} (h1 : -10000 ≤ f) (h2 : f ≤ 10000) : m_governor_Total l f = some (tot l f, 0) := by
  unfold m_governor_Total
  rw [check_good G]
  simp [wrong_false h1 h2, total_eq G h1 h2]

theorem forI_Totals {f : Int} (h1 : -10000 ≤ f) (h2 : f ≤ 10000) (K : Int → Option Bool) : ∀ (l : List S_api_GovernorSetup) (k : Nat) (s : Int), (∀ g ∈ l, Good g) → 0 ≤ s → s + l.length * 100000 ≤ 2000000 →
    forI (fun k y s n => m_gridhallkeep4_GovernorTotals_b1 f k y s n) K k l s = K (s + tot l f) := by
  intro l
  induction l with
  | nil => intro k s _ _ _; simp [forI, tot]
  | cons g l ih =>
    intro k s hg h0 hs
    have G := hg g (List.mem_cons_self ..)
    have hb := tgt_nn G f
    simp only [List.length_cons] at hs
    unfold forI
    have := ih (k + 1) (s + tgt g f) (fun x hx => hg x (List.mem_cons_of_mem _ hx)) (by omega) (by omega)
    simp [m_gridhallkeep4_GovernorTotals_b1, Target_good G h1 h2, wrapN (n := s + tgt g f) (by omega)]
    simp [m_gridhallkeep4_GovernorTotals_b1] at this
    rw [this]
    simp [tot, Int.add_assoc]

theorem GovernorTotals_true (l : List S_api_GovernorSetup) (f : Int) : m_gridhallkeep4_GovernorTotals l f = some true := by
  unfold m_gridhallkeep4_GovernorTotals
  rw [governorFact_true]
  rcases Total_cases l f with ⟨e, he, h⟩ | ⟨G, h1, h2, he⟩
  · rw [he]; rcases h with rfl | rfl <;> rfl
  · rw [he]
    simp only [Option.bind_some, decide_true, Bool.not_true, Bool.false_eq_true, if_false]
    rw [forI_Totals h1 h2 _ l 0 0 G.2 (by omega) (by have := G.1; omega)]
    simp

end Go.Sim
