/-
  Printed by a program: from the models to the given statements.
-/
import Derived.Test.YthcolhlbmcbdjaaConT
import Derived.Test.YthcolhlbmcbdjaaSimL
import Derived.OpenShut
import Derived.HandedShaped
namespace Go.Sim
open Go Go.RowKit Go.ChangeShapes Go.WideShapes Go.ChangeAt
set_option linter.unusedVariables false
theorem law_own : ownKnob Proofs.Try.prog.godebug = none := by kernel_rfl
theorem law_laid : laidOutB Proofs.Try.prog = true := by kernel_rfl
instance : Ok S_api_TelemetryMsg := ⟨fun x => ok x.Point ∧ ok x.Number ∧ ok x.Time ∧ ok x.Value⟩
theorem tread35 : Tread Proofs.Try.prog 35 S_api_TelemetryMsg := by
  intro Hd enc w fuel cs d h
  obtain ⟨xs, n, rfl, rfl, hl, hlen, hf⟩ := DataW.trod_struct Proofs.Try.underlying35 h
  obtain ⟨x0, e0, o0⟩ := field_tread (α := ByteArray) hlen hf 0 (o := 0) rfl rfl (by kernel_rfl) (tread_string Proofs.Try.underlying9)
  obtain ⟨x1, e1, o1⟩ := field_tread (α := Int) hlen hf 1 (o := 1) rfl rfl (by kernel_rfl) (tread_int Proofs.Try.underlying3)
  obtain ⟨x2, e2, o2⟩ := field_tread (α := Int) hlen hf 2 (o := 2) rfl rfl (by kernel_rfl) (tread_int Proofs.Try.underlying3)
  obtain ⟨x3, e3, o3⟩ := field_tread (α := Int) hlen hf 3 (o := 3) rfl rfl (by kernel_rfl) (tread_int Proofs.Try.underlying3)
  exact ⟨⟨x0, x1, x2, x3⟩, piece (o := 0) e0 (by rfl) (piece (o := 1) e1 (by rfl) (piece (o := 2) e2 (by rfl) (piece (o := 3) e3 (by rfl) (piece_end hl (by kernel_rfl))))), ⟨o0, o1, o2, o3⟩⟩
theorem tread28 : Tread Proofs.Try.prog 28 (List S_api_TelemetryMsg) := tread_slice Proofs.Try.underlying28 (by kernel_rfl) rfl tread35
set_option maxRecDepth 100000 in
theorem TelemetryAges_lifted (hp : ∀ (x0 : Int) (x1 : (List S_api_TelemetryMsg)) (x2 : Int) (x3 : Int), i64ok x0 → ok x1 → i64ok x2 → i64ok x3 → m_gridhallkeep4_TelemetryAges x0 x1 x2 x3 = some true) (os : Os) (started : os.Started) (Hd : Type) (enc : TypeId × Value → Hd) :
    ReturnsInHanded {} Proofs.Try.checked os 4 .any (Proofs.Ythcolhlbmcbdjaa.Rows.telemetryAgesSpec.pre6 enc Proofs.Try.prog Proofs.Try.f4 Proofs.Ythcolhlbmcbdjaa.Rows.telemetryAgesRow.domain false) (Proofs.Ythcolhlbmcbdjaa.Rows.telemetryAgesSpec.post enc Proofs.Try.prog Proofs.Try.f4 false true false false) := by
  refine returnsInHanded_of_change (C := Proofs.Try.checked) law_own started (by kernel_rfl) Proofs.Try.func4
    (ChangeSpec.witness6 (enc := enc) (C := Proofs.Try.checked) false ⟨#[], #[.int .i64 0, .slice none 0 0, .int .i64 0, .int .i64 0], []⟩ 8 (by kernel_rfl) (by kernel_rfl) (by kernel_rfl) (by kernel_rfl)) ?_
  intro W base args ds gs before hval0 hW hcnd _
  have hval : ∀ (j : Nat) t v, Proofs.Try.f4.params[j]? = some t → args[j]? = some v → Value.okWide Proofs.Try.prog W .any base t v := hval0
  have hW2 : DataW.Whole enc Proofs.Try.prog Proofs.Try.f4.params.toList Proofs.Ythcolhlbmcbdjaa.Rows.telemetryAgesSpec.vars false W args.toList ds gs before := hW
  obtain ⟨p, q, hA0, hV, rfl, hfz, hnd⟩ := hW
  have hA : DataW.TrodAll enc Proofs.Try.prog W 0 (fun _ => true) true Proofs.Try.f4.params.toList args.toList ds p := hA0
  rw [Proofs.Try.params4] at hA hval
  obtain ⟨v0, vs0, d0, ds0, p0, q0, hargs, rfl, rfl, h0, r0⟩ := trodAll_cons hA
  obtain ⟨v1, vs1, d1, ds1, p1, q1, rfl, rfl, rfl, h1, r1⟩ := trodAll_cons r0
  obtain ⟨v2, vs2, d2, ds2, p2, q2, rfl, rfl, rfl, h2, r2⟩ := trodAll_cons r1
  obtain ⟨v3, vs3, d3, ds3, p3, q3, rfl, rfl, rfl, h3, r3⟩ := trodAll_cons r2
  obtain ⟨rfl, rfl, rfl⟩ := trodAll_nil r3
  obtain rfl : args = #[v0, v1, v2, v3] := by cases args; simp_all
  obtain ⟨x0, rfl, ok0⟩ := arg_int Proofs.Try.underlying3 (hval 0 3 v0 rfl rfl) h0
  obtain ⟨x1, e1, ok1⟩ := arg_slice Proofs.Try.underlying28 tread28 (hval 1 28 v1 rfl rfl) h1
  obtain ⟨x2, rfl, ok2⟩ := arg_int Proofs.Try.underlying3 (hval 2 3 v2 rfl rfl) h2
  obtain ⟨x3, rfl, ok3⟩ := arg_int Proofs.Try.underlying3 (hval 3 3 v3 rfl rfl) h3
  have hc := m_gridhallkeep4_TelemetryAges_c (hp _ _ _ _ ok0 ok1 ok2 ok3) e1 (St.begin W)
  refine hc.mono fun e W' h => ?_
  cases e with
  | returned v =>
    obtain ⟨H', M', hst, hphi⟩ := h
    obtain ⟨_, _, rfl⟩ := hphi
    exact ⟨_, rfl, law_post law_laid rfl rfl Proofs.Try.underlying4 (by kernel_rfl) hW2 (fun _ => rfl) hst.below⟩
  | _ => exact h.elim
theorem TelemetryAges_law (hp : ∀ (x0 : Int) (x1 : (List S_api_TelemetryMsg)) (x2 : Int) (x3 : Int), i64ok x0 → ok x1 → i64ok x2 → i64ok x3 → m_gridhallkeep4_TelemetryAges x0 x1 x2 x3 = some true) : Proofs.Ythcolhlbmcbdjaa.Rows.TelemetryAgesSaid :=
  OpenClaim.holds_of_wide 4 Proofs.Try.f4 rfl rfl rfl rfl rfl rfl rfl ⟨rfl, rfl, rfl, rfl, rfl⟩ rfl rfl rfl rfl rfl (by kernel_rfl) Proofs.Try.func4 (by kernel_rfl)
    (of_decide_eq_true (by kernel_rfl)) (by unfold Func.isWrapper; first | (rw [if_pos (by decide +kernel)]; kernel_rfl) | (rw [if_neg (by decide +kernel)]; exact ⟨rfl, rfl⟩))
    (fun os started H enc _ => TelemetryAges_lifted hp os started H enc)
set_option maxRecDepth 100000 in
theorem TelemetryOrder_lifted (hp : ∀ (x0 : (List S_api_TelemetryMsg)) (x1 : Int), ok x0 → i64ok x1 → m_gridhallkeep4_TelemetryOrder x0 x1 = some true) (os : Os) (started : os.Started) (Hd : Type) (enc : TypeId × Value → Hd) :
    ReturnsInHanded {} Proofs.Try.checked os 5 .any (Proofs.Ythcolhlbmcbdjaa.Rows.telemetryOrderSpec.pre6 enc Proofs.Try.prog Proofs.Try.f5 Proofs.Ythcolhlbmcbdjaa.Rows.telemetryOrderRow.domain false) (Proofs.Ythcolhlbmcbdjaa.Rows.telemetryOrderSpec.post enc Proofs.Try.prog Proofs.Try.f5 false true false false) := by
  refine returnsInHanded_of_change (C := Proofs.Try.checked) law_own started (by kernel_rfl) Proofs.Try.func5
    (ChangeSpec.witness6 (enc := enc) (C := Proofs.Try.checked) false ⟨#[], #[.slice none 0 0, .int .i64 0], []⟩ 8 (by kernel_rfl) (by kernel_rfl) (by kernel_rfl) (by kernel_rfl)) ?_
  intro W base args ds gs before hval0 hW hcnd _
  have hval : ∀ (j : Nat) t v, Proofs.Try.f5.params[j]? = some t → args[j]? = some v → Value.okWide Proofs.Try.prog W .any base t v := hval0
  have hW2 : DataW.Whole enc Proofs.Try.prog Proofs.Try.f5.params.toList Proofs.Ythcolhlbmcbdjaa.Rows.telemetryOrderSpec.vars false W args.toList ds gs before := hW
  obtain ⟨p, q, hA0, hV, rfl, hfz, hnd⟩ := hW
  have hA : DataW.TrodAll enc Proofs.Try.prog W 0 (fun _ => true) true Proofs.Try.f5.params.toList args.toList ds p := hA0
  rw [Proofs.Try.params5] at hA hval
  obtain ⟨v0, vs0, d0, ds0, p0, q0, hargs, rfl, rfl, h0, r0⟩ := trodAll_cons hA
  obtain ⟨v1, vs1, d1, ds1, p1, q1, rfl, rfl, rfl, h1, r1⟩ := trodAll_cons r0
  obtain ⟨rfl, rfl, rfl⟩ := trodAll_nil r1
  obtain rfl : args = #[v0, v1] := by cases args; simp_all
  obtain ⟨x0, e0, ok0⟩ := arg_slice Proofs.Try.underlying28 tread28 (hval 0 28 v0 rfl rfl) h0
  obtain ⟨x1, rfl, ok1⟩ := arg_int Proofs.Try.underlying3 (hval 1 3 v1 rfl rfl) h1
  have hc := m_gridhallkeep4_TelemetryOrder_c (hp _ _ ok0 ok1) e0 (St.begin W)
  refine hc.mono fun e W' h => ?_
  cases e with
  | returned v =>
    obtain ⟨H', M', hst, hphi⟩ := h
    obtain ⟨_, _, rfl⟩ := hphi
    exact ⟨_, rfl, law_post law_laid rfl rfl Proofs.Try.underlying4 (by kernel_rfl) hW2 (fun _ => rfl) hst.below⟩
  | _ => exact h.elim
theorem TelemetryOrder_law (hp : ∀ (x0 : (List S_api_TelemetryMsg)) (x1 : Int), ok x0 → i64ok x1 → m_gridhallkeep4_TelemetryOrder x0 x1 = some true) : Proofs.Ythcolhlbmcbdjaa.Rows.TelemetryOrderSaid :=
  OpenClaim.holds_of_wide 5 Proofs.Try.f5 rfl rfl rfl rfl rfl rfl rfl ⟨rfl, rfl, rfl, rfl, rfl⟩ rfl rfl rfl rfl rfl (by kernel_rfl) Proofs.Try.func5 (by kernel_rfl)
    (of_decide_eq_true (by kernel_rfl)) (by unfold Func.isWrapper; first | (rw [if_pos (by decide +kernel)]; kernel_rfl) | (rw [if_neg (by decide +kernel)]; exact ⟨rfl, rfl⟩))
    (fun os started H enc _ => TelemetryOrder_lifted hp os started H enc)
end Go.Sim
