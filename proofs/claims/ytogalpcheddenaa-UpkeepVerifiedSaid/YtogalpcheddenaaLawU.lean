/-
  Printed by a program: from the models to the given statements.
-/
import Derived.Test.YtogalpcheddenaaConU
import Derived.Test.YtogalpcheddenaaSimL
import Derived.OpenShut
namespace Go.Sim
open Go Go.RowKit Go.ChangeShapes Go.WideShapes Go.ChangeAt
set_option linter.unusedVariables false
theorem law_own : ownKnob Proofs.Try.prog.godebug = none := by kernel_rfl
theorem law_laid : laidOutB Proofs.Try.prog = true := by kernel_rfl
instance : Ok S_api_UpkeepJob := ⟨fun x => ok x.Name ∧ ok x.Long ∧ ok x.First ∧ ok x.Last ∧ ok x.Weight⟩
instance : Ok S_A2_Int := ⟨fun x => ok x.a0 ∧ ok x.a1⟩
instance : Ok S_api_UpkeepTask := ⟨fun x => ok x.Jobs ∧ ok x.Apart ∧ ok x.Crews⟩
theorem tread51 : Tread Proofs.Try.prog 51 S_api_UpkeepJob := by
  intro Hd enc w fuel cs d h
  obtain ⟨xs, n, rfl, rfl, hl, hlen, hf⟩ := DataW.trod_struct Proofs.Try.underlying51 h
  obtain ⟨x0, e0, o0⟩ := field_tread (α := ByteArray) hlen hf 0 (o := 0) rfl rfl (by kernel_rfl) (tread_string Proofs.Try.underlying9)
  obtain ⟨x1, e1, o1⟩ := field_tread (α := Int) hlen hf 1 (o := 1) rfl rfl (by kernel_rfl) (tread_int Proofs.Try.underlying3)
  obtain ⟨x2, e2, o2⟩ := field_tread (α := Int) hlen hf 2 (o := 2) rfl rfl (by kernel_rfl) (tread_int Proofs.Try.underlying3)
  obtain ⟨x3, e3, o3⟩ := field_tread (α := Int) hlen hf 3 (o := 3) rfl rfl (by kernel_rfl) (tread_int Proofs.Try.underlying3)
  obtain ⟨x4, e4, o4⟩ := field_tread (α := Int) hlen hf 4 (o := 4) rfl rfl (by kernel_rfl) (tread_int Proofs.Try.underlying3)
  exact ⟨⟨x0, x1, x2, x3, x4⟩, piece (o := 0) e0 (by rfl) (piece (o := 1) e1 (by rfl) (piece (o := 2) e2 (by rfl) (piece (o := 3) e3 (by rfl) (piece (o := 4) e4 (by rfl) (piece_end hl (by kernel_rfl)))))), ⟨o0, o1, o2, o3, o4⟩⟩
theorem tread22 : Tread Proofs.Try.prog 22 (List S_api_UpkeepJob) := tread_slice Proofs.Try.underlying22 (by kernel_rfl) rfl tread51
theorem tread59 : Tread Proofs.Try.prog 59 S_A2_Int := by
  intro Hd enc w fuel cs d h
  obtain ⟨xs, n, rfl, rfl, hl, hlen, hf⟩ := DataW.trod_array Proofs.Try.underlying59 h
  obtain ⟨x0, e0, o0⟩ := elem_tread (α := Int) hlen hf 0 (o := 0) rfl (by kernel_rfl) rfl (tread_int Proofs.Try.underlying3)
  obtain ⟨x1, e1, o1⟩ := elem_tread (α := Int) hlen hf 1 (o := 1) rfl (by kernel_rfl) rfl (tread_int Proofs.Try.underlying3)
  exact ⟨⟨x0, x1⟩, piece (o := 0) e0 (by rfl) (piece (o := 1) e1 (by rfl) (piece_end hl (by kernel_rfl))), ⟨o0, o1⟩⟩
theorem tread23 : Tread Proofs.Try.prog 23 (List S_A2_Int) := tread_slice Proofs.Try.underlying23 (by kernel_rfl) rfl tread59
theorem tread25 : Tread Proofs.Try.prog 25 S_api_UpkeepTask := by
  intro Hd enc w fuel cs d h
  obtain ⟨xs, n, rfl, rfl, hl, hlen, hf⟩ := DataW.trod_struct Proofs.Try.underlying25 h
  obtain ⟨x0, ⟨v0_0, e0, h0_0⟩, o0⟩ := field_tread (α := (List S_api_UpkeepJob)) hlen hf 0 (o := 0) rfl rfl (by kernel_rfl) tread22
  obtain ⟨x1, ⟨v1_0, e1, h1_0⟩, o1⟩ := field_tread (α := (List S_A2_Int)) hlen hf 1 (o := 1) rfl rfl (by kernel_rfl) tread23
  obtain ⟨x2, e2, o2⟩ := field_tread (α := Int) hlen hf 2 (o := 2) rfl rfl (by kernel_rfl) (tread_int Proofs.Try.underlying3)
  exact ⟨⟨x0, x1, x2⟩, ⟨v0_0, v1_0, piece (o := 0) e0 (by rfl) (piece (o := 1) e1 (by rfl) (piece (o := 2) e2 (by rfl) (piece_end hl (by kernel_rfl)))), h0_0, h1_0⟩, ⟨o0, o1, o2⟩⟩
set_option maxRecDepth 100000 in
theorem UpkeepCrews_lifted (hp : ∀ (x0 : S_api_UpkeepTask), ok x0 → m_gridhallkeep4_UpkeepCrews x0 = some true) (os : Os) (started : os.Started) (Hd : Type) (enc : TypeId × Value → Hd) :
    ReturnsInHanded {} Proofs.Try.checked os 3 .any (Proofs.Ytogalpcheddenaa.Rows.upkeepCrewsSpec.pre6 enc Proofs.Try.prog Proofs.Try.f3 Proofs.Ytogalpcheddenaa.Rows.upkeepCrewsRow.domain false) (Proofs.Ytogalpcheddenaa.Rows.upkeepCrewsSpec.post enc Proofs.Try.prog Proofs.Try.f3 false true false false) := by
  refine returnsInHanded_of_change (C := Proofs.Try.checked) law_own started (by kernel_rfl) Proofs.Try.func3
    (ChangeSpec.witness6 (enc := enc) (C := Proofs.Try.checked) false ⟨#[], #[.agg #[.slice none 0 0, .slice none 0 0, .int .i64 0]], []⟩ 8 (by kernel_rfl) (by kernel_rfl) (by kernel_rfl) (by kernel_rfl)) ?_
  intro W base args ds gs before hval0 hW hcnd _
  have hval : ∀ (j : Nat) t v, Proofs.Try.f3.params[j]? = some t → args[j]? = some v → Value.okWide Proofs.Try.prog W .any base t v := hval0
  have hW2 : DataW.Whole enc Proofs.Try.prog Proofs.Try.f3.params.toList Proofs.Ytogalpcheddenaa.Rows.upkeepCrewsSpec.vars false W args.toList ds gs before := hW
  obtain ⟨p, q, hA0, hV, rfl, hfz, hnd⟩ := hW
  have hA : DataW.TrodAll enc Proofs.Try.prog W 0 (fun _ => true) true Proofs.Try.f3.params.toList args.toList ds p := hA0
  rw [Proofs.Try.params3] at hA hval
  obtain ⟨v0, vs0, d0, ds0, p0, q0, hargs, rfl, rfl, h0, r0⟩ := trodAll_cons hA
  obtain ⟨rfl, rfl, rfl⟩ := trodAll_nil r0
  obtain rfl : args = #[v0] := by cases args; simp_all
  obtain ⟨x0, cs0, rfl, ⟨v0_0, v0_1, rfl, e0_0, e0_1⟩, ok0⟩ := arg_struct Proofs.Try.underlying25 tread25 (hval 0 25 v0 rfl rfl) h0
  have hc := m_gridhallkeep4_UpkeepCrews_c (hp _ ok0) e0_0 e0_1 (St.begin W)
  refine hc.mono fun e W' h => ?_
  cases e with
  | returned v =>
    obtain ⟨H', M', hst, hphi⟩ := h
    obtain ⟨_, _, rfl⟩ := hphi
    exact ⟨_, rfl, law_post law_laid rfl rfl Proofs.Try.underlying4 (by kernel_rfl) hW2 (fun _ => rfl) hst.below⟩
  | _ => exact h.elim
theorem UpkeepCrews_law (hp : ∀ (x0 : S_api_UpkeepTask), ok x0 → m_gridhallkeep4_UpkeepCrews x0 = some true) : Proofs.Ytogalpcheddenaa.Rows.UpkeepCrewsSaid :=
  OpenClaim.holds_of_wide 3 Proofs.Try.f3 rfl rfl rfl rfl rfl rfl rfl ⟨rfl, rfl, rfl, rfl, rfl⟩ rfl rfl rfl rfl rfl (by kernel_rfl) Proofs.Try.func3 (by kernel_rfl)
    (of_decide_eq_true (by kernel_rfl)) (by unfold Func.isWrapper; first | (rw [if_pos (by decide +kernel)]; kernel_rfl) | (rw [if_neg (by decide +kernel)]; exact ⟨rfl, rfl⟩))
    (fun os started H enc _ => UpkeepCrews_lifted hp os started H enc)
set_option maxRecDepth 100000 in
theorem UpkeepAlone_lifted (hp : ∀ (x0 : S_api_UpkeepTask), ok x0 → m_gridhallkeep4_UpkeepAlone x0 = some true) (os : Os) (started : os.Started) (Hd : Type) (enc : TypeId × Value → Hd) :
    ReturnsInHanded {} Proofs.Try.checked os 4 .any (Proofs.Ytogalpcheddenaa.Rows.upkeepAloneSpec.pre6 enc Proofs.Try.prog Proofs.Try.f4 Proofs.Ytogalpcheddenaa.Rows.upkeepAloneRow.domain false) (Proofs.Ytogalpcheddenaa.Rows.upkeepAloneSpec.post enc Proofs.Try.prog Proofs.Try.f4 false true false false) := by
  refine returnsInHanded_of_change (C := Proofs.Try.checked) law_own started (by kernel_rfl) Proofs.Try.func4
    (ChangeSpec.witness6 (enc := enc) (C := Proofs.Try.checked) false ⟨#[], #[.agg #[.slice none 0 0, .slice none 0 0, .int .i64 0]], []⟩ 8 (by kernel_rfl) (by kernel_rfl) (by kernel_rfl) (by kernel_rfl)) ?_
  intro W base args ds gs before hval0 hW hcnd _
  have hval : ∀ (j : Nat) t v, Proofs.Try.f4.params[j]? = some t → args[j]? = some v → Value.okWide Proofs.Try.prog W .any base t v := hval0
  have hW2 : DataW.Whole enc Proofs.Try.prog Proofs.Try.f4.params.toList Proofs.Ytogalpcheddenaa.Rows.upkeepAloneSpec.vars false W args.toList ds gs before := hW
  obtain ⟨p, q, hA0, hV, rfl, hfz, hnd⟩ := hW
  have hA : DataW.TrodAll enc Proofs.Try.prog W 0 (fun _ => true) true Proofs.Try.f4.params.toList args.toList ds p := hA0
  rw [Proofs.Try.params4] at hA hval
  obtain ⟨v0, vs0, d0, ds0, p0, q0, hargs, rfl, rfl, h0, r0⟩ := trodAll_cons hA
  obtain ⟨rfl, rfl, rfl⟩ := trodAll_nil r0
  obtain rfl : args = #[v0] := by cases args; simp_all
  obtain ⟨x0, cs0, rfl, ⟨v0_0, v0_1, rfl, e0_0, e0_1⟩, ok0⟩ := arg_struct Proofs.Try.underlying25 tread25 (hval 0 25 v0 rfl rfl) h0
  have hc := m_gridhallkeep4_UpkeepAlone_c (hp _ ok0) e0_0 e0_1 (St.begin W)
  refine hc.mono fun e W' h => ?_
  cases e with
  | returned v =>
    obtain ⟨H', M', hst, hphi⟩ := h
    obtain ⟨_, _, rfl⟩ := hphi
    exact ⟨_, rfl, law_post law_laid rfl rfl Proofs.Try.underlying4 (by kernel_rfl) hW2 (fun _ => rfl) hst.below⟩
  | _ => exact h.elim
theorem UpkeepAlone_law (hp : ∀ (x0 : S_api_UpkeepTask), ok x0 → m_gridhallkeep4_UpkeepAlone x0 = some true) : Proofs.Ytogalpcheddenaa.Rows.UpkeepAloneSaid :=
  OpenClaim.holds_of_wide 4 Proofs.Try.f4 rfl rfl rfl rfl rfl rfl rfl ⟨rfl, rfl, rfl, rfl, rfl⟩ rfl rfl rfl rfl rfl (by kernel_rfl) Proofs.Try.func4 (by kernel_rfl)
    (of_decide_eq_true (by kernel_rfl)) (by unfold Func.isWrapper; first | (rw [if_pos (by decide +kernel)]; kernel_rfl) | (rw [if_neg (by decide +kernel)]; exact ⟨rfl, rfl⟩))
    (fun os started H enc _ => UpkeepAlone_lifted hp os started H enc)
theorem tread27 : Tread Proofs.Try.prog 27 (List Int) := tread_slice Proofs.Try.underlying27 (by kernel_rfl) rfl (tread_int Proofs.Try.underlying3)
set_option maxRecDepth 100000 in
theorem UpkeepVerified_lifted (hp : ∀ (x0 : S_api_UpkeepTask) (x1 : (List Int)), ok x0 → ok x1 → m_gridhallkeep4_UpkeepVerified x0 x1 = some true) (os : Os) (started : os.Started) (Hd : Type) (enc : TypeId × Value → Hd) :
    ReturnsInHanded {} Proofs.Try.checked os 6 .any (Proofs.Ytogalpcheddenaa.Rows.upkeepVerifiedSpec.pre6 enc Proofs.Try.prog Proofs.Try.f6 Proofs.Ytogalpcheddenaa.Rows.upkeepVerifiedRow.domain false) (Proofs.Ytogalpcheddenaa.Rows.upkeepVerifiedSpec.post enc Proofs.Try.prog Proofs.Try.f6 false true false false) := by
  refine returnsInHanded_of_change (C := Proofs.Try.checked) law_own started (by kernel_rfl) Proofs.Try.func6
    (ChangeSpec.witness6 (enc := enc) (C := Proofs.Try.checked) false ⟨#[], #[.agg #[.slice none 0 0, .slice none 0 0, .int .i64 0], .slice none 0 0], []⟩ 8 (by kernel_rfl) (by kernel_rfl) (by kernel_rfl) (by kernel_rfl)) ?_
  intro W base args ds gs before hval0 hW hcnd _
  have hval : ∀ (j : Nat) t v, Proofs.Try.f6.params[j]? = some t → args[j]? = some v → Value.okWide Proofs.Try.prog W .any base t v := hval0
  have hW2 : DataW.Whole enc Proofs.Try.prog Proofs.Try.f6.params.toList Proofs.Ytogalpcheddenaa.Rows.upkeepVerifiedSpec.vars false W args.toList ds gs before := hW
  obtain ⟨p, q, hA0, hV, rfl, hfz, hnd⟩ := hW
  have hA : DataW.TrodAll enc Proofs.Try.prog W 0 (fun _ => true) true Proofs.Try.f6.params.toList args.toList ds p := hA0
  rw [Proofs.Try.params6] at hA hval
  obtain ⟨v0, vs0, d0, ds0, p0, q0, hargs, rfl, rfl, h0, r0⟩ := trodAll_cons hA
  obtain ⟨v1, vs1, d1, ds1, p1, q1, rfl, rfl, rfl, h1, r1⟩ := trodAll_cons r0
  obtain ⟨rfl, rfl, rfl⟩ := trodAll_nil r1
  obtain rfl : args = #[v0, v1] := by cases args; simp_all
  obtain ⟨x0, cs0, rfl, ⟨v0_0, v0_1, rfl, e0_0, e0_1⟩, ok0⟩ := arg_struct Proofs.Try.underlying25 tread25 (hval 0 25 v0 rfl rfl) h0
  obtain ⟨x1, e1, ok1⟩ := arg_slice Proofs.Try.underlying27 tread27 (hval 1 27 v1 rfl rfl) h1
  have hc := m_gridhallkeep4_UpkeepVerified_c (hp _ _ ok0 ok1) e0_0 e0_1 e1 (St.begin W)
  refine hc.mono fun e W' h => ?_
  cases e with
  | returned v =>
    obtain ⟨H', M', hst, hphi⟩ := h
    obtain ⟨_, _, rfl⟩ := hphi
    exact ⟨_, rfl, law_post law_laid rfl rfl Proofs.Try.underlying4 (by kernel_rfl) hW2 (fun _ => rfl) hst.below⟩
  | _ => exact h.elim
theorem UpkeepVerified_law (hp : ∀ (x0 : S_api_UpkeepTask) (x1 : (List Int)), ok x0 → ok x1 → m_gridhallkeep4_UpkeepVerified x0 x1 = some true) : Proofs.Ytogalpcheddenaa.Rows.UpkeepVerifiedSaid :=
  OpenClaim.holds_of_wide 6 Proofs.Try.f6 rfl rfl rfl rfl rfl rfl rfl ⟨rfl, rfl, rfl, rfl, rfl⟩ rfl rfl rfl rfl rfl (by kernel_rfl) Proofs.Try.func6 (by kernel_rfl)
    (of_decide_eq_true (by kernel_rfl)) (by unfold Func.isWrapper; first | (rw [if_pos (by decide +kernel)]; kernel_rfl) | (rw [if_neg (by decide +kernel)]; exact ⟨rfl, rfl⟩))
    (fun os started H enc _ => UpkeepVerified_lifted hp os started H enc)
end Go.Sim
