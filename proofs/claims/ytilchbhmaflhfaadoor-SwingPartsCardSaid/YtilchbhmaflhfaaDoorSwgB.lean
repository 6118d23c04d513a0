/-
  The laws of package swing over the models.
-/
import Derived.Test.YtilchbhmaflhfaaDoorSwgA
namespace Go.Sim
open Go
set_option linter.unusedVariables false
set_option linter.unusedSimpArgs false
set_option linter.unusedSectionVars false
set_option linter.unnecessarySimpa false

theorem cl_val {q : Rat} {n : Nat} {d : Nat} (hn : q.num = (n : Int)) (hd : q.den = d) : cl q = Lib.decDigits n ++ (if d = 1 then [] else 47 :: Lib.decDigits d) := by
  unfold cl
  rw [hn, hd, Lib.itoa_nonneg]
theorem fits_val {q : Rat} {n : Nat} {d : Nat} (hn : q.num = (n : Int)) (hd : q.den = d) (h1 : n < 10 ^ 1) (h2 : d < 10 ^ 1) : fits q :=
  fits_of (k := 1) (by rw [hn]; exact h1) (by rw [hd]; exact h2) (by decide) (by decide)
theorem dig1 {n : Nat} (h : n < 10) : Lib.decDigits n = [UInt8.ofNat (48 + n)] := Lib.decDigits_one h
theorem swing_fact : m_gridhallkeep4_swingFact = some true := by
  have n0 : (0 : Rat).num = ((0 : Nat) : Int) := rfl
  have d0 : (0 : Rat).den = 1 := rfl
  have n2 : (1/2 : Rat).num = ((1 : Nat) : Int) := by decide +kernel
  have d2 : (1/2 : Rat).den = 2 := by decide +kernel
  have n3 : (1/3 : Rat).num = ((1 : Nat) : Int) := by decide +kernel
  have d3 : (1/3 : Rat).den = 3 := by decide +kernel
  have n6 : (5/6 : Rat).num = ((5 : Nat) : Int) := by decide +kernel
  have d6 : (5/6 : Rat).den = 6 := by decide +kernel
  have c0 : ctext 0 = (⟨#[48]⟩ : ByteArray) := by unfold ctext; rw [cl_val n0 d0, dig1 (by omega)]; rfl
  have c2 : ctext (1/2) = (⟨#[49, 47, 50]⟩ : ByteArray) := by unfold ctext; rw [cl_val n2 d2, dig1 (by omega), dig1 (by omega)]; rfl
  have c3 : ctext (1/3) = (⟨#[49, 47, 51]⟩ : ByteArray) := by unfold ctext; rw [cl_val n3 d3, dig1 (by omega), dig1 (by omega)]; rfl
  have c6 : ctext (5/6) = (⟨#[53, 47, 54]⟩ : ByteArray) := by unfold ctext; rw [cl_val n6 d6, dig1 (by omega), dig1 (by omega)]; rfl
  have f0 : fits 0 := fits_val n0 d0 (by decide) (by decide)
  have f2 : fits (1/2) := fits_val n2 d2 (by decide) (by decide)
  have f3 : fits (1/3) := fits_val n3 d3 (by decide) (by decide)
  have f6 : fits (5/6) := fits_val n6 d6 (by decide) (by decide)
  have hv : SV (S_api_SwingIsland.mk 10 0 105 100 (⟨#[48]⟩)) 0 := ⟨by decide, by decide, by decide, by decide, by decide, by decide, by decide, by decide, f0, c0.symm⟩
  have hx : nxt (S_api_SwingIsland.mk 10 0 105 100 (⟨#[48]⟩)) 0 = 1/2 := by
    show (0 : Rat) + (((105 - 100 : Int) : Rat) - ((0 : Int) : Rat) * 0) / ((10 : Int) : Rat) = 1/2
    decide +kernel
  have hs := step_ok hv (by rw [hx]; exact f2)
  have ha := badd f2 f3
  rw [show (1/2 : Rat) + 1/3 = 5/6 by decide +kernel, tx_ok f6, c2, c3, c6] at ha
  unfold m_gridhallkeep4_swingFact
  rw [hs, Option.bind_some, ha, Option.bind_some]
  unfold withF
  rw [hx, c2]
  rfl
theorem fact_gd {k : Bool → Option Bool} (h : k true = some true) : m_gridhallkeep4_swingFact.bind k = some true := by rw [swing_fact]; exact h

theorem steady_fix {x : SI} {f : Rat} (h : SV x f) (hd : x.Damping ≠ 0) : nxt x (stF x) = stF x := by
  have hD : (x.Damping : Rat) ≠ 0 := int_ne hd
  unfold nxt xs stF
  generalize ((x.Supply - x.Demand : Int) : Rat) = s
  generalize (x.Damping : Rat) = d at hD ⊢
  generalize (x.Inertia : Rat) = i
  have : s - d * (s / d) = 0 := by grind
  rw [this]; grind
theorem Steady_of (x : SI) (hs : x.Frequency.size ≤ maxLen) : m_gridhallkeep4_SwingSteady x = some true := by
  unfold m_gridhallkeep4_SwingSteady
  by_cases hv : ∃ f, SV x f
  · obtain ⟨f, hv⟩ := hv
    by_cases hd : x.Damping = 0
    · rw [steady_zero hv hd, Option.bind_some]
      exact fact_gd rfl
    · obtain ⟨hf, e⟩ := steady_ok hv hd
      have h0 := steady_fix hv hd
      have hn : nxt (withF x (stF x)) (stF x) = stF x := h0
      have hst := step_ok (hv.withF hf) (f := stF x) (by rw [hn]; exact hf)
      rw [hn] at hst
      rw [e, Option.bind_some, if_neg (by simp)]
      show (m_swing_Step (withF x (stF x))).bind _ = _
      rw [hst, Option.bind_some]
      refine fact_gd ?_
      simp [withF]
  · obtain ⟨c, hc, e1, e2⟩ := steady_no hs hv
    rw [e2, Option.bind_some, if_pos (by simpa using hc)]
    refine fact_gd ?_
    rw [if_pos rfl, if_pos (by simp)]
    by_cases h10 : c = 10
    · rw [if_pos (by simpa using h10)]
    · rw [if_neg (by simpa using h10), e1]; simp
theorem mom_step {x : SI} {f : Rat} (h : SV x f) : (x.Inertia : Rat) * f + xs x f = (x.Inertia : Rat) * nxt x f := by
  have hI := h.ine
  unfold nxt
  generalize xs x f = e
  generalize (x.Inertia : Rat) = i at hI ⊢
  grind
theorem tx_two (q : Rat) : (tx q).2 = 0 ∧ fits q ∧ tx q = (ctext q, 0) ∨ (tx q).2 = 2 ∧ ¬ fits q ∧ tx q = (⟨#[]⟩, 2) := by
  by_cases h : fits q
  · left; rw [tx_ok h]; exact ⟨rfl, h, rfl⟩
  · right; rw [tx_no h]; exact ⟨rfl, h, rfl⟩
theorem tx_size (q : Rat) : (tx q).1.size ≤ maxLen := by
  rcases tx_two q with ⟨_, h, e⟩ | ⟨_, h, e⟩
  · rw [e]; have := ctext_size h; unfold maxLen; simp only; omega
  · rw [e]; decide
theorem Momentum_of (x : SI) (hs : x.Frequency.size ≤ maxLen) : m_gridhallkeep4_SwingMomentum x = some true := by
  unfold m_gridhallkeep4_SwingMomentum
  by_cases hv : ∃ f, SV x f
  · obtain ⟨f, hv⟩ := hv
    by_cases hf : fits (nxt x f)
    · rw [step_ok hv hf, Option.bind_some, if_neg (by simp), mom_ok hv, Option.bind_some, mom_ok (hv.withF hf), Option.bind_some, exc_ok hv, Option.bind_some]
      have hst := mom_step hv
      have hI : ((withF x (nxt x f)).Inertia : Rat) = (x.Inertia : Rat) := rfl
      rw [hI]
      rcases tx_two ((x.Inertia : Rat) * f) with ⟨_, h1, e1⟩ | ⟨_, h1, e1⟩
      · rcases tx_two (xs x f) with ⟨_, h2, e2⟩ | ⟨_, h2, e2⟩
        · rw [e1, e2]
          simp only
          rw [badd h1 h2, Option.bind_some, hst]
          rcases tx_two ((x.Inertia : Rat) * nxt x f) with ⟨_, h3, e3⟩ | ⟨_, h3, e3⟩
          · rw [e3, if_neg (by simp)]; exact fact_gd (by simp)
          · rw [e3, if_pos (by simp)]; exact fact_gd (by simp)
        · obtain ⟨r, er, _⟩ := badd_any (tx_size ((x.Inertia : Rat) * f)) (tx_size (xs x f))
          rw [er, Option.bind_some, e2, if_pos (by simp)]; exact fact_gd (by simp)
      · obtain ⟨r, er, _⟩ := badd_any (tx_size ((x.Inertia : Rat) * f)) (tx_size (xs x f))
        rw [er, Option.bind_some, e1, if_pos (by simp)]; exact fact_gd (by simp)
    · rw [step_big hv hf, Option.bind_some, if_pos (by simp)]
      exact fact_gd rfl
  · obtain ⟨c, hc, e⟩ := step_no hs hv
    rw [e, Option.bind_some, if_pos (by simpa using hc)]
    exact fact_gd rfl
theorem bmul_any {s t : ByteArray} (hs : s.size ≤ maxLen) (ht : t.size ≤ maxLen) : Gd (m_rat_Mul s t) (fun _ => True) := by
  unfold m_rat_Mul m_rat_op__large_Rat_Mul
  refine Gd.bnd (P := fun _ => True) (Gd.bnd (checkall_gd (fun z hz => ?_)) (fun c hc => Gd.ite (fun _ => Gd.ret trivial) (fun h => ?_))) (fun _ _ => Gd.ret trivial)
  · rcases List.mem_cons.1 hz with rfl | hz
    · exact hs
    · rw [List.mem_singleton] at hz; subst hz; exact ht
  · have h0 : c = 0 := by simpa using h
    have hall := hc.1 h0
    obtain ⟨p, hp, e1⟩ := hall s (List.mem_cons_self ..)
    obtain ⟨q, hq, e2⟩ := hall t (by simp)
    rw [e1, e2]
    refine Gd.bnd (parse_gd hp) (fun a ha => Gd.bnd (parse_gd hq) (fun b hb => Gd.bnd (rmul_gd ha.1 hb.1 ha.2.1 hb.2.1 (by omega)) (fun c hc => Gd.bnd (rat_text hc.1) (fun r hr => Gd.ret trivial))))
theorem nearer_eq {x : SI} {f : Rat} (h : SV x f) (hd : x.Damping ≠ 0) : nxt x f - stF x = (f - stF x) * (((x.Inertia - x.Damping : Int) : Rat) / (x.Inertia : Rat)) := by
  have hI := h.ine
  have hD : (x.Damping : Rat) ≠ 0 := int_ne hd
  unfold nxt xs stF
  rw [Rat.intCast_sub x.Inertia x.Damping]
  generalize ((x.Supply - x.Demand : Int) : Rat) = s
  generalize (x.Damping : Rat) = d at hD ⊢
  generalize (x.Inertia : Rat) = i at hI ⊢
  grind
theorem Nearer_of (x : SI) (hs : x.Frequency.size ≤ maxLen) : m_gridhallkeep4_SwingNearer x = some true := by
  unfold m_gridhallkeep4_SwingNearer
  by_cases hv : ∃ f, SV x f
  · obtain ⟨f, hv⟩ := hv
    have h1 := hv.i1; have h2 := hv.i2; have h3 := hv.d1; have h4 := hv.d2
    by_cases hd : x.Damping = 0
    · rw [steady_zero hv hd, Option.bind_some]
      by_cases hf : fits (nxt x f)
      · rw [step_ok hv hf, Option.bind_some, if_pos (by simp)]; exact fact_gd rfl
      · rw [step_big hv hf, Option.bind_some, if_pos (by simp)]; exact fact_gd rfl
    · obtain ⟨hst, e⟩ := steady_ok hv hd
      rw [e, Option.bind_some]
      by_cases hf : fits (nxt x f)
      · rw [step_ok hv hf, Option.bind_some, if_neg (by simp)]
        simp only
        rw [hv.txt, bsub hv.fit hst, Option.bind_some]
        show (m_rat_Sub (ctext (nxt x f)) (ctext (stF x))).bind _ = _
        have hpf := frac_fits (n := x.Inertia - x.Damping) (d := x.Inertia) ⟨by omega, by omega⟩ ⟨by omega, by omega⟩ (by omega)
        rw [bsub hf hst, Option.bind_some, wrap_id (n := x.Inertia - x.Damping) ⟨by omega, by omega⟩, bof ⟨by omega, by omega⟩ ⟨by omega, by omega⟩ (by omega), Option.bind_some]
        rw [nearer_eq hv hd]
        generalize hp : ((x.Inertia - x.Damping : Int) : Rat) / (x.Inertia : Rat) = p at hpf ⊢
        rcases tx_two (f - stF x) with ⟨_, k1, e1⟩ | ⟨_, k1, e1⟩
        · rw [e1, tx_ok hpf]
          simp only
          rw [bmul k1 hpf, Option.bind_some]
          rcases tx_two ((f - stF x) * p) with ⟨_, k2, e2⟩ | ⟨_, k2, e2⟩
          · rw [e2, if_neg (by simp)]; exact fact_gd (by simp)
          · rw [e2, if_pos (by simp)]; exact fact_gd rfl
        · obtain ⟨r, er, _⟩ := bmul_any (tx_size (f - stF x)) (tx_size p)
          rw [er, Option.bind_some, e1, if_pos (by simp)]; exact fact_gd rfl
      · rw [step_big hv hf, Option.bind_some, if_pos (by simp)]; exact fact_gd rfl
  · obtain ⟨c, hc, e1, e2⟩ := steady_no hs hv
    obtain ⟨c', hc', e3⟩ := step_no hs hv
    rw [e2, Option.bind_some, e3, Option.bind_some, if_pos (by simp [hc])]; exact fact_gd rfl

/-! ### joined islands -/
def jF (a b : SI) (f g : Rat) : Rat := ((a.Inertia : Rat) * f + (b.Inertia : Rat) * g) / ((a.Inertia + b.Inertia : Int) : Rat)
def Big (a b : SI) : Prop := 1000 < a.Inertia + b.Inertia ∨ 100000 < a.Supply + b.Supply ∨ 100000 < a.Demand + b.Demand
instance (a b : SI) : Decidable (Big a b) := by unfold Big; infer_instance
def joinI (a b : SI) (q : Rat) : SI := ⟨a.Inertia + b.Inertia, a.Damping + b.Damping, a.Supply + b.Supply, a.Demand + b.Demand, ctext q⟩
theorem jcheck_no {a b : SI} (ha : a.Frequency.size ≤ maxLen) (hb : b.Frequency.size ≤ maxLen) (h : ¬ ((∃ f, SV a f) ∧ ∃ g, SV b g)) : ∃ c, c ≠ 0 ∧ m_swing_Join a b = some (noI, c) := by
  suffices hh : Gd (m_swing_Join a b) (fun r => r.1 = noI ∧ r.2 ≠ 0) by
    obtain ⟨⟨r1, r2⟩, e, h1, h2⟩ := hh
    simp only at h1 h2
    exact ⟨r2, h2, by rw [e, h1]⟩
  unfold m_swing_Join
  by_cases h1 : ∃ f, SV a f
  · obtain ⟨f, h1⟩ := h1
    obtain ⟨c, hc, e⟩ := scheck_no hb (fun hg => h ⟨⟨f, h1⟩, hg⟩)
    unfold forI
    refine Gd.bind_eq (scheck_ok h1) (Gd.ite (fun hx => by simp at hx) (fun _ => ?_))
    unfold forI
    exact Gd.bind_eq e (Gd.ite (fun _ => Gd.ret ⟨rfl, hc⟩) (fun hx => by simp [hc] at hx))
  · obtain ⟨c, hc, e⟩ := scheck_no ha h1
    unfold forI
    exact Gd.bind_eq e (Gd.ite (fun _ => Gd.ret ⟨rfl, hc⟩) (fun hx => by simp [hc] at hx))
theorem join_gd2 {a b : SI} {f g : Rat} (ha : SV a f) (hb : SV b g) : m_swing_Join a b = some (if Big a b then (noI, 2) else if fits (jF a b f g) then (joinI a b (jF a b f g), 0) else (noI, 2)) := by
  have h1 := ha.i1; have h2 := ha.i2; have h3 := ha.d1; have h4 := ha.d2; have h5 := ha.s1; have h6 := ha.s2; have h7 := ha.e1; have h8 := ha.e2
  have k1 := hb.i1; have k2 := hb.i2; have k3 := hb.d1; have k4 := hb.d2; have k5 := hb.s1; have k6 := hb.s2; have k7 := hb.e1; have k8 := hb.e2
  refine Gd.eq.1 ?_
  unfold m_swing_Join
  rw [wrap_id (n := a.Inertia + b.Inertia) ⟨by omega, by omega⟩, wrap_id (n := a.Supply + b.Supply) ⟨by omega, by omega⟩, wrap_id (n := a.Demand + b.Demand) ⟨by omega, by omega⟩, wrap_id (n := a.Damping + b.Damping) ⟨by omega, by omega⟩]
  unfold forI
  refine Gd.bind_eq (scheck_ok ha) (Gd.ite (fun hx => by simp at hx) (fun _ => ?_))
  unfold forI
  refine Gd.bind_eq (scheck_ok hb) (Gd.ite (fun hx => by simp at hx) (fun _ => ?_))
  unfold forI
  refine Gd.ite (fun hx => Gd.ret ?_) (fun hx => ?_)
  · have hB : Big a b := by
      simp only [Bool.or_eq_true, decide_eq_true_eq] at hx
      unfold Big; omega
    rw [if_pos hB]; rfl
  · have hB : ¬ Big a b := by
      simp only [Bool.or_eq_false_iff, decide_eq_false_iff_not] at hx
      unfold Big; omega
    rw [if_neg hB]
    refine Gd.bnd (mom_core ha) (fun p hp => Gd.bnd (mom_core hb) (fun q hq => Gd.bnd (radd_gd hp.1 hq.1 hp.2.1 hq.2.1 (by omega)) (fun s hs => Gd.bnd (whole_gd (n := a.Inertia + b.Inertia) ⟨by omega, by omega⟩) (fun i hi => Gd.bnd (rdiv_gd hs.1 hi.1 hs.2.1 hi.2.1 (by omega) (by rw [hi.2.2]; exact int_ne (by omega))) (fun r hr => Gd.bnd (swing_text_gd hr.1) (fun t ht => ?_))))))
    have hv : rv r = jF a b f g := by rw [hr.2.2, hs.2.2, hp.2.2, hq.2.2, hi.2.2]; rfl
    rw [hv] at ht
    by_cases hf : fits (jF a b f g)
    · rw [tx_ok hf] at ht
      subst ht
      rw [if_pos hf]
      exact Gd.ite (fun hx => by simp at hx) (fun _ => Gd.ret rfl)
    · rw [tx_no hf] at ht
      subst ht
      rw [if_neg hf]
      exact Gd.ite (fun _ => Gd.ret rfl) (fun hx => by simp at hx)
theorem jF_comm (a b : SI) (f g : Rat) : jF b a g f = jF a b f g := by
  unfold jF
  rw [Rat.add_comm, Int.add_comm b.Inertia]
theorem joinI_comm (a b : SI) (q : Rat) : joinI b a q = joinI a b q := by
  unfold joinI
  rw [Int.add_comm b.Inertia, Int.add_comm b.Damping, Int.add_comm b.Supply, Int.add_comm b.Demand]
theorem Big_comm (a b : SI) : Big b a ↔ Big a b := by unfold Big; omega
theorem Joins_of (a b : SI) (ha : a.Frequency.size ≤ maxLen) (hb : b.Frequency.size ≤ maxLen) : m_gridhallkeep4_SwingJoins a b = some true := by
  unfold m_gridhallkeep4_SwingJoins
  by_cases hv : (∃ f, SV a f) ∧ ∃ g, SV b g
  · obtain ⟨⟨f, hva⟩, g, hvb⟩ := hv
    rw [join_gd2 hva hvb, Option.bind_some, join_gd2 hvb hva, Option.bind_some, jF_comm a b f g, joinI_comm a b]
    by_cases hB : Big a b
    · rw [if_pos hB, if_pos ((Big_comm a b).2 hB), if_pos (by simp)]; exact fact_gd rfl
    · rw [if_neg hB, if_neg (fun h => hB ((Big_comm a b).1 h))]
      by_cases hf : fits (jF a b f g)
      · rw [if_pos hf, if_neg (by simp), mom_ok hva, Option.bind_some, mom_ok hvb, Option.bind_some]
        have hvc : SV (joinI a b (jF a b f g)) (jF a b f g) := by
          have h1 := hva.i1; have h2 := hva.i2; have h3 := hva.d1; have h4 := hva.d2; have h5 := hva.s1; have h6 := hva.s2; have h7 := hva.e1; have h8 := hva.e2
          have k1 := hvb.i1; have k2 := hvb.i2; have k3 := hvb.d1; have k4 := hvb.d2; have k5 := hvb.s1; have k6 := hvb.s2; have k7 := hvb.e1; have k8 := hvb.e2
          unfold Big at hB
          exact ⟨by show 1 ≤ a.Inertia + b.Inertia; omega, by show a.Inertia + b.Inertia ≤ 1000; omega, by show 0 ≤ a.Damping + b.Damping; omega, by show a.Damping + b.Damping ≤ a.Inertia + b.Inertia; omega, by show 0 ≤ a.Supply + b.Supply; omega, by show a.Supply + b.Supply ≤ 100000; omega, by show 0 ≤ a.Demand + b.Demand; omega, by show a.Demand + b.Demand ≤ 100000; omega, hf, rfl⟩
        have hI : ((joinI a b (jF a b f g)).Inertia : Rat) * jF a b f g = (a.Inertia : Rat) * f + (b.Inertia : Rat) * g := by
          have h0 : ((a.Inertia + b.Inertia : Int) : Rat) ≠ 0 := int_ne (by have := hva.i1; have := hvb.i1; omega)
          show ((a.Inertia + b.Inertia : Int) : Rat) * jF a b f g = _
          unfold jF
          generalize ((a.Inertia + b.Inertia : Int) : Rat) = i at h0 ⊢
          generalize (a.Inertia : Rat) * f + (b.Inertia : Rat) * g = m
          grind
        rcases tx_two ((a.Inertia : Rat) * f) with ⟨_, k1, e1⟩ | ⟨_, k1, e1⟩
        · rcases tx_two ((b.Inertia : Rat) * g) with ⟨_, k2, e2⟩ | ⟨_, k2, e2⟩
          · rw [e1, e2]
            simp only
            rw [badd k1 k2, Option.bind_some, mom_ok hvc, Option.bind_some, hI]
            rcases tx_two ((a.Inertia : Rat) * f + (b.Inertia : Rat) * g) with ⟨_, k3, e3⟩ | ⟨_, k3, e3⟩
            · rw [e3, if_neg (by simp)]; exact fact_gd (by simp)
            · rw [e3, if_pos (by simp)]; exact fact_gd rfl
          · obtain ⟨r, er, _⟩ := badd_any (tx_size ((a.Inertia : Rat) * f)) (tx_size ((b.Inertia : Rat) * g))
            rw [er, Option.bind_some, mom_ok hvc, Option.bind_some, e2, if_pos (by simp)]; exact fact_gd rfl
        · obtain ⟨r, er, _⟩ := badd_any (tx_size ((a.Inertia : Rat) * f)) (tx_size ((b.Inertia : Rat) * g))
          rw [er, Option.bind_some, mom_ok hvc, Option.bind_some, e1, if_pos (by simp)]; exact fact_gd rfl
      · rw [if_neg hf, if_pos (by simp)]; exact fact_gd rfl
  · obtain ⟨c, hc, e1⟩ := jcheck_no ha hb hv
    obtain ⟨c', hc', e2⟩ := jcheck_no hb ha (fun h => hv ⟨h.2, h.1⟩)
    rw [e1, Option.bind_some, e2, Option.bind_some, if_pos (by simpa using hc)]; exact fact_gd rfl

/-! ### a run in two parts -/
theorem cut_gd {n lo hi : Int} (h1 : -1000 ≤ lo) (h2 : lo ≤ hi) (h3 : hi ≤ 1000) (hn : -9223372036854775808 ≤ n ∧ n ≤ 9223372036854775807) : Gd (m_gridhallref4_Cut n lo hi) (fun r => lo ≤ r ∧ r ≤ hi) := by
  unfold m_gridhallref4_Cut m_gridhallref4_Cut_b1
  rw [wrap_id (n := hi - lo) ⟨by omega, by omega⟩, wrap_id (n := hi - lo + 1) ⟨by omega, by omega⟩]
  have hb1 : Int.tmod n (hi - lo + 1) < hi - lo + 1 := Int.tmod_lt_of_pos _ (by omega)
  have hb2 : -(hi - lo + 1) < Int.tmod n (hi - lo + 1) := by
    have h1 := Int.tmod_lt_of_pos (-n) (show 0 < hi - lo + 1 by omega)
    rw [Int.neg_tmod] at h1; omega
  refine Gd.nd (by omega) (Gd.ite (fun h => Gd.ret ?_) (fun h => Gd.ret ?_))
  · have h := of_decide_eq_true h
    rw [wrap_id (n := Int.tmod n (hi - lo + 1) + (hi - lo + 1)) ⟨by omega, by omega⟩, wrap_id ⟨by omega, by omega⟩]; omega
  · have h := of_decide_eq_false h
    rw [wrap_id ⟨by omega, by omega⟩]; omega
theorem concat2 {a b : List ByteArray} (ha : a.length ≤ 1000) (hb : b.length ≤ 1000) : m_slices_Concat_api_Rat_api_Rat [a, b] = some (a ++ b) := by
  unfold m_slices_Concat_api_Rat_api_Rat
  unfold forI m_slices_Concat_api_Rat_api_Rat_b1
  rw [wrap_id (n := 0 + (a.length : Int)) ⟨by omega, by omega⟩, if_neg (fun h => by have := of_decide_eq_true h; omega)]
  unfold forI
  rw [wrap_id (n := 0 + (a.length : Int) + (b.length : Int)) ⟨by omega, by omega⟩, if_neg (fun h => by have := of_decide_eq_true h; omega)]
  unfold forI
  unfold need
  rw [if_pos ⟨by omega, by omega⟩]
  unfold forI m_slices_Concat_api_Rat_api_Rat_b2
  unfold need
  rw [if_pos (by simp only [List.length_nil]; omega)]
  unfold forI
  rw [if_pos (by simp only [List.length_append, List.length_nil]; omega)]
  rfl
theorem equal_same (l : List ByteArray) : m_slices_Equal_api_Rat_api_Rat l l = some true := by
  refine Gd.eq.1 ?_
  unfold m_slices_Equal_api_Rat_api_Rat
  refine Gd.ite (fun hx => by simp at hx) (fun _ => ?_)
  rw [Int.toNat_natCast]
  refine Gd.forN (Q := fun x => x = true) (fun m i _ => m + i = l.length) (fun m i _ nx hI hnx => ?_) (fun _ _ _ => ⟨true, rfl, rfl⟩) _ 0 () rfl
  unfold m_slices_Equal_api_Rat_api_Rat_b1
  exact Gd.idxN (show i < l.length by omega) (Gd.idxN (show i < l.length by omega) (Gd.ite (fun hx => by simp at hx) (fun _ => hnx () (by omega))))
theorem Parts_of (x : SI) (m n : Int) (hs : x.Frequency.size ≤ maxLen) (hm : -9223372036854775808 ≤ m ∧ m ≤ 9223372036854775807) (hn : -9223372036854775808 ≤ n ∧ n ≤ 9223372036854775807) : m_gridhallkeep4_SwingParts x m n = some true := by
  obtain ⟨m', em, hm1, hm2⟩ := cut_gd (n := m) (lo := 1) (hi := 6) (by omega) (by omega) (by omega) hm
  obtain ⟨n', en, hn1, hn2⟩ := cut_gd (n := n) (lo := 0) (hi := 6) (by omega) (by omega) (by omega) hn
  obtain ⟨M, rfl⟩ : ∃ M : Nat, m' = M := ⟨m'.toNat, by omega⟩
  obtain ⟨N, rfl⟩ : ∃ N : Nat, n' = N := ⟨n'.toNat, by omega⟩
  unfold m_gridhallkeep4_SwingParts
  rw [em, Option.bind_some, en, Option.bind_some, wrap_id (n := (M : Int) + (N : Int)) ⟨by omega, by omega⟩, wrap_id (n := (M : Int) - 1) ⟨by omega, by omega⟩, show (M : Int) + (N : Int) = ((M + N : Nat) : Int) by omega]
  by_cases hv : ∃ f, SV x f
  · obtain ⟨f, hv⟩ := hv
    obtain ⟨r, er, hr1, hr2⟩ := run_ok hv (n := M + N) (by omega)
    rw [er, Option.bind_some]
    by_cases hall : AllFit x f (M + N)
    · have hr := hr1 hall
      subst hr
      obtain ⟨s, es, hs1, _⟩ := run_ok hv (n := M) (by omega)
      have hs := hs1 (fun k h1 h2 => hall k h1 (by omega))
      subst hs
      rw [if_neg (by simp), es, Option.bind_some]
      have hfM : fits (it x f M) := hall M (by omega) (by omega)
      have hv2 := hv.withF hfM
      have hit : ∀ k, it (withF x (it x f M)) (it x f M) k = it x (it x f M) k := by
        intro k
        induction k with
        | zero => rfl
        | succ k ih => show nxt (withF x (it x f M)) _ = nxt x _; rw [ih]; rfl
      obtain ⟨t, et, ht1, _⟩ := run_ok hv2 (n := N) (by omega)
      have ht := ht1 (fun k h1 h2 => by rw [hit, ← it_add]; exact hall (M + k) (by omega) (by omega))
      have htl : tl (withF x (it x f M)) (it x f M) N = tl x (it x f M) N := by
        unfold tl
        refine List.map_congr_left fun k _ => ?_
        rw [hit]
      rw [htl] at ht
      subst ht
      rw [if_neg (by simp [tl_len])]
      have hidx : (tl x f M)[((M : Int) - 1).toNat]? = some (ctext (it x f M)) := by
        rw [show ((M : Int) - 1).toNat = M - 1 by omega]
        unfold tl
        rw [List.getElem?_map, List.getElem?_range (by omega), Option.map_some, show M - 1 + 1 = M by omega]
      refine Gd.eq.1 (Gd.ix (by omega) hidx ?_)
      show Gd ((m_swing_Run (withF x (it x f M)) N).bind _) _
      refine Gd.bind_eq et (Gd.bind_eq swing_fact (Gd.ite (fun _ => Gd.ite (fun _ => ?_) (fun hx => by simp at hx)) (fun hx => by simp at hx)))
      refine Gd.bind_eq (concat2 (by simp only; rw [tl_len]; omega) (by simp only; rw [tl_len]; omega)) ?_
      simp only
      rw [← tl_add]
      exact Gd.bind_eq (equal_same _) (Gd.ret rfl)
    · have hr := hr2 hall
      subst hr
      rw [if_pos (by simp)]; exact fact_gd rfl
  · obtain ⟨c, hc, e⟩ := run_no hs hv ((M + N : Nat) : Int)
    rw [e, Option.bind_some, if_pos (by simpa using hc)]; exact fact_gd rfl
end Go.Sim
