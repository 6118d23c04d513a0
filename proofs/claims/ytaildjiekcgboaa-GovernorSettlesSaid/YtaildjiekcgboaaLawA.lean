/-
  Printed by a program: from the models to the given statements.
-/
import Derived.Test.YtaildjiekcgboaaConA
import Derived.Test.YtaildjiekcgboaaSimL
namespace Go.Sim
open Go Go.RowKit Go.ChangeShapes Go.WideShapes Go.ChangeAt
set_option linter.unusedVariables false
theorem law_own : ownKnob Proofs.Try.prog.godebug = none := by kernel_rfl
theorem law_laid : laidOutB Proofs.Try.prog = true := by kernel_rfl
instance : Ok S_api_GovernorSetup := ⟨fun x => ok x.Set ∧ ok x.Least ∧ ok x.Most ∧ ok x.Droop ∧ ok x.Band ∧ ok x.Ramp⟩
theorem tread23 : Tread Proofs.Try.prog 23 S_api_GovernorSetup := by
  intro Hd enc w fuel cs d h
  obtain ⟨xs, n, rfl, rfl, hl, hlen, hf⟩ := DataW.trod_struct Proofs.Try.underlying23 h
  obtain ⟨x0, e0, o0⟩ := field_tread (α := Int) hlen hf 0 (o := 0) rfl rfl (by kernel_rfl) (tread_int Proofs.Try.underlying3)
  obtain ⟨x1, e1, o1⟩ := field_tread (α := Int) hlen hf 1 (o := 1) rfl rfl (by kernel_rfl) (tread_int Proofs.Try.underlying3)
  obtain ⟨x2, e2, o2⟩ := field_tread (α := Int) hlen hf 2 (o := 2) rfl rfl (by kernel_rfl) (tread_int Proofs.Try.underlying3)
  obtain ⟨x3, e3, o3⟩ := field_tread (α := Int) hlen hf 3 (o := 3) rfl rfl (by kernel_rfl) (tread_int Proofs.Try.underlying3)
  obtain ⟨x4, e4, o4⟩ := field_tread (α := Int) hlen hf 4 (o := 4) rfl rfl (by kernel_rfl) (tread_int Proofs.Try.underlying3)
  obtain ⟨x5, e5, o5⟩ := field_tread (α := Int) hlen hf 5 (o := 5) rfl rfl (by kernel_rfl) (tread_int Proofs.Try.underlying3)
  exact ⟨⟨x0, x1, x2, x3, x4, x5⟩, piece (o := 0) e0 (by rfl) (piece (o := 1) e1 (by rfl) (piece (o := 2) e2 (by rfl) (piece (o := 3) e3 (by rfl) (piece (o := 4) e4 (by rfl) (piece (o := 5) e5 (by rfl) (piece_end hl (by kernel_rfl))))))), ⟨o0, o1, o2, o3, o4, o5⟩⟩
set_option maxRecDepth 100000 in
theorem GovernorFalls_lifted (hp : ∀ (x0 : S_api_GovernorSetup) (x1 : Int) (x2 : Int), ok x0 → i64ok x1 → i64ok x2 → m_gridhallkeep4_GovernorFalls x0 x1 x2 = some true) (os : Os) (started : os.Started) (Hd : Type) (enc : TypeId × Value → Hd) :
    ReturnsInHanded {} Proofs.Try.checked os 3 .any (Proofs.Ytaildjiekcgboaa.Rows.governorFallsSpec.pre6 enc Proofs.Try.prog Proofs.Try.f3 Proofs.Ytaildjiekcgboaa.Rows.governorFallsRow.domain false) (Proofs.Ytaildjiekcgboaa.Rows.governorFallsSpec.post enc Proofs.Try.prog Proofs.Try.f3 false true false false) := by
  refine returnsInHanded_of_change (C := Proofs.Try.checked) law_own started (by kernel_rfl) Proofs.Try.func3
    (ChangeSpec.witness6 (enc := enc) (C := Proofs.Try.checked) false ⟨#[], #[.agg #[.int .i64 0, .int .i64 0, .int .i64 0, .int .i64 0, .int .i64 0, .int .i64 0], .int .i64 0, .int .i64 0], []⟩ 8 (by kernel_rfl) (by kernel_rfl) (by kernel_rfl) (by kernel_rfl)) ?_
  intro W base args ds gs before hval0 hW hcnd _
  have hval : ∀ (j : Nat) t v, Proofs.Try.f3.params[j]? = some t → args[j]? = some v → Value.okWide Proofs.Try.prog W .any base t v := hval0
  have hW2 : DataW.Whole enc Proofs.Try.prog Proofs.Try.f3.params.toList Proofs.Ytaildjiekcgboaa.Rows.governorFallsSpec.vars false W args.toList ds gs before := hW
  obtain ⟨p, q, hA0, hV, rfl, hfz, hnd⟩ := hW
  have hA : DataW.TrodAll enc Proofs.Try.prog W 0 (fun _ => true) true Proofs.Try.f3.params.toList args.toList ds p := hA0
  rw [Proofs.Try.params3] at hA hval
  obtain ⟨v0, vs0, d0, ds0, p0, q0, hargs, rfl, rfl, h0, r0⟩ := trodAll_cons hA
  obtain ⟨v1, vs1, d1, ds1, p1, q1, rfl, rfl, rfl, h1, r1⟩ := trodAll_cons r0
  obtain ⟨v2, vs2, d2, ds2, p2, q2, rfl, rfl, rfl, h2, r2⟩ := trodAll_cons r1
  obtain ⟨rfl, rfl, rfl⟩ := trodAll_nil r2
  obtain rfl : args = #[v0, v1, v2] := by cases args; simp_all
  obtain ⟨x0, cs0, rfl, rfl, ok0⟩ := arg_struct Proofs.Try.underlying23 tread23 (hval 0 23 v0 rfl rfl) h0
  obtain ⟨x1, rfl, ok1⟩ := arg_int Proofs.Try.underlying3 (hval 1 3 v1 rfl rfl) h1
  obtain ⟨x2, rfl, ok2⟩ := arg_int Proofs.Try.underlying3 (hval 2 3 v2 rfl rfl) h2
  have hc := m_gridhallkeep4_GovernorFalls_c (hp _ _ _ ok0 ok1 ok2)  (St.begin W)
  refine hc.mono fun e W' h => ?_
  cases e with
  | returned v =>
    obtain ⟨H', M', hst, hphi⟩ := h
    obtain ⟨_, _, rfl⟩ := hphi
    exact ⟨_, rfl, law_post law_laid rfl rfl Proofs.Try.underlying4 (by kernel_rfl) hW2 (fun _ => rfl) hst.below⟩
  | _ => exact h.elim
theorem GovernorFalls_law (hp : ∀ (x0 : S_api_GovernorSetup) (x1 : Int) (x2 : Int), ok x0 → i64ok x1 → i64ok x2 → m_gridhallkeep4_GovernorFalls x0 x1 x2 = some true) : Proofs.Ytaildjiekcgboaa.Rows.GovernorFallsSaid :=
  OpenClaim.holds_of_wide 3 Proofs.Try.f3 rfl rfl rfl rfl rfl rfl rfl ⟨rfl, rfl, rfl, rfl, rfl⟩ rfl rfl rfl rfl rfl (by kernel_rfl) Proofs.Try.func3 (by kernel_rfl)
    (of_decide_eq_true (by kernel_rfl)) (by unfold Func.isWrapper; first | (rw [if_pos (by decide +kernel)]; kernel_rfl) | (rw [if_neg (by decide +kernel)]; exact ⟨rfl, rfl⟩))
    (fun os started H enc _ => GovernorFalls_lifted hp os started H enc)
theorem tread30 : Tread Proofs.Try.prog 30 (List S_api_GovernorSetup) := tread_slice Proofs.Try.underlying30 (by kernel_rfl) rfl tread23
set_option maxRecDepth 100000 in
theorem GovernorTotals_lifted (hp : ∀ (x0 : (List S_api_GovernorSetup)) (x1 : Int), ok x0 → i64ok x1 → m_gridhallkeep4_GovernorTotals x0 x1 = some true) (os : Os) (started : os.Started) (Hd : Type) (enc : TypeId × Value → Hd) :
    ReturnsInHanded {} Proofs.Try.checked os 4 .any (Proofs.Ytaildjiekcgboaa.Rows.governorTotalsSpec.pre6 enc Proofs.Try.prog Proofs.Try.f4 Proofs.Ytaildjiekcgboaa.Rows.governorTotalsRow.domain false) (Proofs.Ytaildjiekcgboaa.Rows.governorTotalsSpec.post enc Proofs.Try.prog Proofs.Try.f4 false true false false) := by
  refine returnsInHanded_of_change (C := Proofs.Try.checked) law_own started (by kernel_rfl) Proofs.Try.func4
    (ChangeSpec.witness6 (enc := enc) (C := Proofs.Try.checked) false ⟨#[], #[.slice none 0 0, .int .i64 0], []⟩ 8 (by kernel_rfl) (by kernel_rfl) (by kernel_rfl) (by kernel_rfl)) ?_
  intro W base args ds gs before hval0 hW hcnd _
  have hval : ∀ (j : Nat) t v, Proofs.Try.f4.params[j]? = some t → args[j]? = some v → Value.okWide Proofs.Try.prog W .any base t v := hval0
  have hW2 : DataW.Whole enc Proofs.Try.prog Proofs.Try.f4.params.toList Proofs.Ytaildjiekcgboaa.Rows.governorTotalsSpec.vars false W args.toList ds gs before := hW
  obtain ⟨p, q, hA0, hV, rfl, hfz, hnd⟩ := hW
  have hA : DataW.TrodAll enc Proofs.Try.prog W 0 (fun _ => true) true Proofs.Try.f4.params.toList args.toList ds p := hA0
  rw [Proofs.Try.params4] at hA hval
  obtain ⟨v0, vs0, d0, ds0, p0, q0, hargs, rfl, rfl, h0, r0⟩ := trodAll_cons hA
  obtain ⟨v1, vs1, d1, ds1, p1, q1, rfl, rfl, rfl, h1, r1⟩ := trodAll_cons r0
  obtain ⟨rfl, rfl, rfl⟩ := trodAll_nil r1
  obtain rfl : args = #[v0, v1] := by cases args; simp_all
  obtain ⟨x0, e0, ok0⟩ := arg_slice Proofs.Try.underlying30 tread30 (hval 0 30 v0 rfl rfl) h0
  obtain ⟨x1, rfl, ok1⟩ := arg_int Proofs.Try.underlying3 (hval 1 3 v1 rfl rfl) h1
  have hc := m_gridhallkeep4_GovernorTotals_c (hp _ _ ok0 ok1) e0 (St.begin W)
  refine hc.mono fun e W' h => ?_
  cases e with
  | returned v =>
    obtain ⟨H', M', hst, hphi⟩ := h
    obtain ⟨_, _, rfl⟩ := hphi
    exact ⟨_, rfl, law_post law_laid rfl rfl Proofs.Try.underlying4 (by kernel_rfl) hW2 (fun _ => rfl) hst.below⟩
  | _ => exact h.elim
theorem GovernorTotals_law (hp : ∀ (x0 : (List S_api_GovernorSetup)) (x1 : Int), ok x0 → i64ok x1 → m_gridhallkeep4_GovernorTotals x0 x1 = some true) : Proofs.Ytaildjiekcgboaa.Rows.GovernorTotalsSaid :=
  OpenClaim.holds_of_wide 4 Proofs.Try.f4 rfl rfl rfl rfl rfl rfl rfl ⟨rfl, rfl, rfl, rfl, rfl⟩ rfl rfl rfl rfl rfl (by kernel_rfl) Proofs.Try.func4 (by kernel_rfl)
    (of_decide_eq_true (by kernel_rfl)) (by unfold Func.isWrapper; first | (rw [if_pos (by decide +kernel)]; kernel_rfl) | (rw [if_neg (by decide +kernel)]; exact ⟨rfl, rfl⟩))
    (fun os started H enc _ => GovernorTotals_lifted hp os started H enc)
set_option maxRecDepth 100000 in
theorem GovernorSettles_lifted (hp : ∀ (x0 : (List S_api_GovernorSetup)) (x1 : Int), ok x0 → i64ok x1 → m_gridhallkeep4_GovernorSettles x0 x1 = some true) (os : Os) (started : os.Started) (Hd : Type) (enc : TypeId × Value → Hd) :
    ReturnsInHanded {} Proofs.Try.checked os 5 .any (Proofs.Ytaildjiekcgboaa.Rows.governorSettlesSpec.pre6 enc Proofs.Try.prog Proofs.Try.f5 Proofs.Ytaildjiekcgboaa.Rows.governorSettlesRow.domain false) (Proofs.Ytaildjiekcgboaa.Rows.governorSettlesSpec.post enc Proofs.Try.prog Proofs.Try.f5 false true false false) := by
  refine returnsInHanded_of_change (C := Proofs.Try.checked) law_own started (by kernel_rfl) Proofs.Try.func5
    (ChangeSpec.witness6 (enc := enc) (C := Proofs.Try.checked) false ⟨#[], #[.slice none 0 0, .int .i64 0], []⟩ 8 (by kernel_rfl) (by kernel_rfl) (by kernel_rfl) (by kernel_rfl)) ?_
  intro W base args ds gs before hval0 hW hcnd _
  have hval : ∀ (j : Nat) t v, Proofs.Try.f5.params[j]? = some t → args[j]? = some v → Value.okWide Proofs.Try.prog W .any base t v := hval0
  have hW2 : DataW.Whole enc Proofs.Try.prog Proofs.Try.f5.params.toList Proofs.Ytaildjiekcgboaa.Rows.governorSettlesSpec.vars false W args.toList ds gs before := hW
  obtain ⟨p, q, hA0, hV, rfl, hfz, hnd⟩ := hW
  have hA : DataW.TrodAll enc Proofs.Try.prog W 0 (fun _ => true) true Proofs.Try.f5.params.toList args.toList ds p := hA0
  rw [Proofs.Try.params5] at hA hval
  obtain ⟨v0, vs0, d0, ds0, p0, q0, hargs, rfl, rfl, h0, r0⟩ := trodAll_cons hA
  obtain ⟨v1, vs1, d1, ds1, p1, q1, rfl, rfl, rfl, h1, r1⟩ := trodAll_cons r0
  obtain ⟨rfl, rfl, rfl⟩ := trodAll_nil r1
  obtain rfl : args = #[v0, v1] := by cases args; simp_all
  obtain ⟨x0, e0, ok0⟩ := arg_slice Proofs.Try.underlying30 tread30 (hval 0 30 v0 rfl rfl) h0
  obtain ⟨x1, rfl, ok1⟩ := arg_int Proofs.Try.underlying3 (hval 1 3 v1 rfl rfl) h1
  have hc := m_gridhallkeep4_GovernorSettles_c (hp _ _ ok0 ok1) e0 (St.begin W)
  refine hc.mono fun e W' h => ?_
  cases e with
  | returned v =>
    obtain ⟨H', M', hst, hphi⟩ := h
    obtain ⟨_, _, rfl⟩ := hphi
    exact ⟨_, rfl, law_post law_laid rfl rfl Proofs.Try.underlying4 (by kernel_rfl) hW2 (fun _ => rfl) hst.below⟩
  | _ => exact h.elim
theorem GovernorSettles_law (hp : ∀ (x0 : (List S_api_GovernorSetup)) (x1 : Int), ok x0 → i64ok x1 → m_gridhallkeep4_GovernorSettles x0 x1 = some true) : Proofs.Ytaildjiekcgboaa.Rows.GovernorSettlesSaid :=
  OpenClaim.holds_of_wide 5 Proofs.Try.f5 rfl rfl rfl rfl rfl rfl rfl ⟨rfl, rfl, rfl, rfl, rfl⟩ rfl rfl rfl rfl rfl (by kernel_rfl) Proofs.Try.func5 (by kernel_rfl)
    (of_decide_eq_true (by kernel_rfl)) (by unfold Func.isWrapper; first | (rw [if_pos (by decide +kernel)]; kernel_rfl) | (rw [if_neg (by decide +kernel)]; exact ⟨rfl, rfl⟩))
    (fun os started H enc _ => GovernorSettles_lifted hp os started H enc)
set_option maxRecDepth 100000 in
theorem GovernorReaches_lifted (hp : ∀ (x0 : S_api_GovernorSetup) (x1 : Int) (x2 : Int), ok x0 → i64ok x1 → i64ok x2 → m_gridhallkeep4_GovernorReaches x0 x1 x2 = some true) (os : Os) (started : os.Started) (Hd : Type) (enc : TypeId × Value → Hd) :
    ReturnsInHanded {} Proofs.Try.checked os 6 .any (Proofs.Ytaildjiekcgboaa.Rows.governorReachesSpec.pre6 enc Proofs.Try.prog Proofs.Try.f6 Proofs.Ytaildjiekcgboaa.Rows.governorReachesRow.domain false) (Proofs.Ytaildjiekcgboaa.Rows.governorReachesSpec.post enc Proofs.Try.prog Proofs.Try.f6 false true false false) := by
  refine returnsInHanded_of_change (C := Proofs.Try.checked) law_own started (by kernel_rfl) Proofs.Try.func6
    (ChangeSpec.witness6 (enc := enc) (C := Proofs.Try.checked) false ⟨#[], #[.agg #[.int .i64 0, .int .i64 0, .int .i64 0, .int .i64 0, .int .i64 0, .int .i64 0], .int .i64 0, .int .i64 0], []⟩ 8 (by kernel_rfl) (by kernel_rfl) (by kernel_rfl) (by kernel_rfl)) ?_
  intro W base args ds gs before hval0 hW hcnd _
  have hval : ∀ (j : Nat) t v, Proofs.Try.f6.params[j]? = some t → args[j]? = some v → Value.okWide Proofs.Try.prog W .any base t v := hval0
  have hW2 : DataW.Whole enc Proofs.Try.prog Proofs.Try.f6.params.toList Proofs.Ytaildjiekcgboaa.Rows.governorReachesSpec.vars false W args.toList ds gs before := hW
  obtain ⟨p, q, hA0, hV, rfl, hfz, hnd⟩ := hW
  have hA : DataW.TrodAll enc Proofs.Try.prog W 0 (fun _ => true) true Proofs.Try.f6.params.toList args.toList ds p := hA0
  rw [Proofs.Try.params6] at hA hval
  obtain ⟨v0, vs0, d0, ds0, p0, q0, hargs, rfl, rfl, h0, r0⟩ := trodAll_cons hA
  obtain ⟨v1, vs1, d1, ds1, p1, q1, rfl, rfl, rfl, h1, r1⟩ := trodAll_cons r0
  obtain ⟨v2, vs2, d2, ds2, p2, q2, rfl, rfl, rfl, h2, r2⟩ := trodAll_cons r1
  obtain ⟨rfl, rfl, rfl⟩ := trodAll_nil r2
  obtain rfl : args = #[v0, v1, v2] := by cases args; simp_all
  obtain ⟨x0, cs0, rfl, rfl, ok0⟩ := arg_struct Proofs.Try.underlying23 tread23 (hval 0 23 v0 rfl rfl) h0
  obtain ⟨x1, rfl, ok1⟩ := arg_int Proofs.Try.underlying3 (hval 1 3 v1 rfl rfl) h1
  obtain ⟨x2, rfl, ok2⟩ := arg_int Proofs.Try.underlying3 (hval 2 3 v2 rfl rfl) h2
  have hc := m_gridhallkeep4_GovernorReaches_c (hp _ _ _ ok0 ok1 ok2)  (St.begin W)
  refine hc.mono fun e W' h => ?_
  cases e with
  | returned v =>
    obtain ⟨H', M', hst, hphi⟩ := h
    obtain ⟨_, _, rfl⟩ := hphi
    exact ⟨_, rfl, law_post law_laid rfl rfl Proofs.Try.underlying4 (by kernel_rfl) hW2 (fun _ => rfl) hst.below⟩
  | _ => exact h.elim
theorem GovernorReaches_law (hp : ∀ (x0 : S_api_GovernorSetup) (x1 : Int) (x2 : Int), ok x0 → i64ok x1 → i64ok x2 → m_gridhallkeep4_GovernorReaches x0 x1 x2 = some true) : Proofs.Ytaildjiekcgboaa.Rows.GovernorReachesSaid :=
  OpenClaim.holds_of_wide 6 Proofs.Try.f6 rfl rfl rfl rfl rfl rfl rfl ⟨rfl, rfl, rfl, rfl, rfl⟩ rfl rfl rfl rfl rfl (by kernel_rfl) Proofs.Try.func6 (by kernel_rfl)
    (of_decide_eq_true (by kernel_rfl)) (by unfold Func.isWrapper; first | (rw [if_pos (by decide +kernel)]; kernel_rfl) | (rw [if_neg (by decide +kernel)]; exact ⟨rfl, rfl⟩))
    (fun os started H enc _ => GovernorReaches_lifted hp os started H enc)
end Go.Sim
