/-
  Printed by a program: from the models to the given statements.
-/
import Derived.Test.YtaildjiekcgboaaConS
import Derived.Test.YtaildjiekcgboaaSimL
namespace Go.Sim
open Go Go.RowKit Go.ChangeShapes Go.WideShapes Go.ChangeAt
set_option linter.unusedVariables false
theorem law_own : ownKnob Proofs.Try.prog.godebug = none := by kernel_rfl
theorem law_laid : laidOutB Proofs.Try.prog = true := by kernel_rfl
instance : Ok S_api_ShedStage := ⟨fun x => ok x.Below ∧ ok x.Wait ∧ ok x.Loads⟩
theorem tread39 : Tread Proofs.Try.prog 39 (List ByteArray) := tread_slice Proofs.Try.underlying39 (by kernel_rfl) rfl (tread_string Proofs.Try.underlying9)
theorem tread43 : Tread Proofs.Try.prog 43 S_api_ShedStage := by
  intro Hd enc w fuel cs d h
  obtain ⟨xs, n, rfl, rfl, hl, hlen, hf⟩ := DataW.trod_struct Proofs.Try.underlying43 h
  obtain ⟨x0, e0, o0⟩ := field_tread (α := Int) hlen hf 0 (o := 0) rfl rfl (by kernel_rfl) (tread_int Proofs.Try.underlying3)
  obtain ⟨x1, e1, o1⟩ := field_tread (α := Int) hlen hf 1 (o := 1) rfl rfl (by kernel_rfl) (tread_int Proofs.Try.underlying3)
  obtain ⟨x2, ⟨v2_0, e2, h2_0⟩, o2⟩ := field_tread (α := (List ByteArray)) hlen hf 2 (o := 2) rfl rfl (by kernel_rfl) tread39
  exact ⟨⟨x0, x1, x2⟩, ⟨v2_0, piece (o := 0) e0 (by rfl) (piece (o := 1) e1 (by rfl) (piece (o := 2) e2 (by rfl) (piece_end hl (by kernel_rfl)))), h2_0⟩, ⟨o0, o1, o2⟩⟩
theorem tread34 : Tread Proofs.Try.prog 34 (List S_api_ShedStage) := tread_slice Proofs.Try.underlying34 (by kernel_rfl) rfl tread43
theorem tread35 : Tread Proofs.Try.prog 35 (List Int) := tread_slice Proofs.Try.underlying35 (by kernel_rfl) rfl (tread_int Proofs.Try.underlying3)
set_option maxRecDepth 100000 in
theorem ShedCalm_lifted (hp : ∀ (x0 : (List S_api_ShedStage)) (x1 : (List Int)), ok x0 → ok x1 → m_gridhallkeep4_ShedCalm x0 x1 = some true) (os : Os) (started : os.Started) (Hd : Type) (enc : TypeId × Value → Hd) :
    ReturnsInHanded {} Proofs.Try.checked os 7 .any (Proofs.Ytaildjiekcgboaa.Rows.shedCalmSpec.pre6 enc Proofs.Try.prog Proofs.Try.f7 Proofs.Ytaildjiekcgboaa.Rows.shedCalmRow.domain false) (Proofs.Ytaildjiekcgboaa.Rows.shedCalmSpec.post enc Proofs.Try.prog Proofs.Try.f7 false true false false) := by
  refine returnsInHanded_of_change (C := Proofs.Try.checked) law_own started (by kernel_rfl) Proofs.Try.func7
    (ChangeSpec.witness6 (enc := enc) (C := Proofs.Try.checked) false ⟨#[], #[.slice none 0 0, .slice none 0 0], []⟩ 8 (by kernel_rfl) (by kernel_rfl) (by kernel_rfl) (by kernel_rfl)) ?_
  intro W base args ds gs before hval0 hW hcnd _
  have hval : ∀ (j : Nat) t v, Proofs.Try.f7.params[j]? = some t → args[j]? = some v → Value.okWide Proofs.Try.prog W .any base t v := hval0
  have hW2 : DataW.Whole enc Proofs.Try.prog Proofs.Try.f7.params.toList Proofs.Ytaildjiekcgboaa.Rows.shedCalmSpec.vars false W args.toList ds gs before := hW
  obtain ⟨p, q, hA0, hV, rfl, hfz, hnd⟩ := hW
  have hA : DataW.TrodAll enc Proofs.Try.prog W 0 (fun _ => true) true Proofs.Try.f7.params.toList args.toList ds p := hA0
  rw [Proofs.Try.params7] at hA hval
  obtain ⟨v0, vs0, d0, ds0, p0, q0, hargs, rfl, rfl, h0, r0⟩ := trodAll_cons hA
  obtain ⟨v1, vs1, d1, ds1, p1, q1, rfl, rfl, rfl, h1, r1⟩ := trodAll_cons r0
  obtain ⟨rfl, rfl, rfl⟩ := trodAll_nil r1
  obtain rfl : args = #[v0, v1] := by cases args; simp_all
  obtain ⟨x0, e0, ok0⟩ := arg_slice Proofs.Try.underlying34 tread34 (hval 0 34 v0 rfl rfl) h0
  obtain ⟨x1, e1, ok1⟩ := arg_slice Proofs.Try.underlying35 tread35 (hval 1 35 v1 rfl rfl) h1
  have hc := m_gridhallkeep4_ShedCalm_c (hp _ _ ok0 ok1) e0 e1 (St.begin W)
  refine hc.mono fun e W' h => ?_
  cases e with
  | returned v =>
    obtain ⟨H', M', hst, hphi⟩ := h
    obtain ⟨_, _, rfl⟩ := hphi
    exact ⟨_, rfl, law_post law_laid rfl rfl Proofs.Try.underlying4 (by kernel_rfl) hW2 (fun _ => rfl) hst.below⟩
  | _ => exact h.elim
theorem ShedCalm_law (hp : ∀ (x0 : (List S_api_ShedStage)) (x1 : (List Int)), ok x0 → ok x1 → m_gridhallkeep4_ShedCalm x0 x1 = some true) : Proofs.Ytaildjiekcgboaa.Rows.ShedCalmSaid :=
  OpenClaim.holds_of_wide 7 Proofs.Try.f7 rfl rfl rfl rfl rfl rfl rfl ⟨rfl, rfl, rfl, rfl, rfl⟩ rfl rfl rfl rfl rfl (by kernel_rfl) Proofs.Try.func7 (by kernel_rfl)
    (of_decide_eq_true (by kernel_rfl)) (by unfold Func.isWrapper; first | (rw [if_pos (by decide +kernel)]; kernel_rfl) | (rw [if_neg (by decide +kernel)]; exact ⟨rfl, rfl⟩))
    (fun os started H enc _ => ShedCalm_lifted hp os started H enc)
set_option maxRecDepth 100000 in
theorem ShedBack_lifted (hp : ∀ (x0 : (List S_api_ShedStage)) (x1 : (List Int)), ok x0 → ok x1 → m_gridhallkeep4_ShedBack x0 x1 = some true) (os : Os) (started : os.Started) (Hd : Type) (enc : TypeId × Value → Hd) :
    ReturnsInHanded {} Proofs.Try.checked os 8 .any (Proofs.Ytaildjiekcgboaa.Rows.shedBackSpec.pre6 enc Proofs.Try.prog Proofs.Try.f8 Proofs.Ytaildjiekcgboaa.Rows.shedBackRow.domain false) (Proofs.Ytaildjiekcgboaa.Rows.shedBackSpec.post enc Proofs.Try.prog Proofs.Try.f8 false true false false) := by
  refine returnsInHanded_of_change (C := Proofs.Try.checked) law_own started (by kernel_rfl) Proofs.Try.func8
    (ChangeSpec.witness6 (enc := enc) (C := Proofs.Try.checked) false ⟨#[], #[.slice none 0 0, .slice none 0 0], []⟩ 8 (by kernel_rfl) (by kernel_rfl) (by kernel_rfl) (by kernel_rfl)) ?_
  intro W base args ds gs before hval0 hW hcnd _
  have hval : ∀ (j : Nat) t v, Proofs.Try.f8.params[j]? = some t → args[j]? = some v → Value.okWide Proofs.Try.prog W .any base t v := hval0
  have hW2 : DataW.Whole enc Proofs.Try.prog Proofs.Try.f8.params.toList Proofs.Ytaildjiekcgboaa.Rows.shedBackSpec.vars false W args.toList ds gs before := hW
  obtain ⟨p, q, hA0, hV, rfl, hfz, hnd⟩ := hW
  have hA : DataW.TrodAll enc Proofs.Try.prog W 0 (fun _ => true) true Proofs.Try.f8.params.toList args.toList ds p := hA0
  rw [Proofs.Try.params8] at hA hval
  obtain ⟨v0, vs0, d0, ds0, p0, q0, hargs, rfl, rfl, h0, r0⟩ := trodAll_cons hA
  obtain ⟨v1, vs1, d1, ds1, p1, q1, rfl, rfl, rfl, h1, r1⟩ := trodAll_cons r0
  obtain ⟨rfl, rfl, rfl⟩ := trodAll_nil r1
  obtain rfl : args = #[v0, v1] := by cases args; simp_all
  obtain ⟨x0, e0, ok0⟩ := arg_slice Proofs.Try.underlying34 tread34 (hval 0 34 v0 rfl rfl) h0
  obtain ⟨x1, e1, ok1⟩ := arg_slice Proofs.Try.underlying35 tread35 (hval 1 35 v1 rfl rfl) h1
  have hc := m_gridhallkeep4_ShedBack_c (hp _ _ ok0 ok1) e0 e1 (St.begin W)
  refine hc.mono fun e W' h => ?_
  cases e with
  | returned v =>
    obtain ⟨H', M', hst, hphi⟩ := h
    obtain ⟨_, _, rfl⟩ := hphi
    exact ⟨_, rfl, law_post law_laid rfl rfl Proofs.Try.underlying4 (by kernel_rfl) hW2 (fun _ => rfl) hst.below⟩
  | _ => exact h.elim
theorem ShedBack_law (hp : ∀ (x0 : (List S_api_ShedStage)) (x1 : (List Int)), ok x0 → ok x1 → m_gridhallkeep4_ShedBack x0 x1 = some true) : Proofs.Ytaildjiekcgboaa.Rows.ShedBackSaid :=
  OpenClaim.holds_of_wide 8 Proofs.Try.f8 rfl rfl rfl rfl rfl rfl rfl ⟨rfl, rfl, rfl, rfl, rfl⟩ rfl rfl rfl rfl rfl (by kernel_rfl) Proofs.Try.func8 (by kernel_rfl)
    (of_decide_eq_true (by kernel_rfl)) (by unfold Func.isWrapper; first | (rw [if_pos (by decide +kernel)]; kernel_rfl) | (rw [if_neg (by decide +kernel)]; exact ⟨rfl, rfl⟩))
    (fun os started H enc _ => ShedBack_lifted hp os started H enc)
end Go.Sim
