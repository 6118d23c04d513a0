/-
  Printed by a program: from the models to the given statements.
-/
import Derived.Test.YtogalpcheddenaaConP
import Derived.Test.YtogalpcheddenaaSimL
import Derived.OpenShut
import Derived.HandedShaped
namespace Go.Sim
open Go Go.RowKit Go.ChangeShapes Go.WideShapes Go.ChangeAt
set_option linter.unusedVariables false
theorem law_own : ownKnob Proofs.Try.prog.godebug = none := by kernel_rfl
theorem law_laid : laidOutB Proofs.Try.prog = true := by kernel_rfl

theorem tread33 : Tread Proofs.Try.prog 33 (List ByteArray) := tread_slice Proofs.Try.underlying33 (by kernel_rfl) rfl (tread_string Proofs.Try.underlying9)
set_option maxRecDepth 100000 in
theorem PermitGone_lifted (hp : ∀ (x0 : (List ByteArray)) (x1 : (List ByteArray)), ok x0 → ok x1 → m_gridhallkeep4_PermitGone x0 x1 = some true) (os : Os) (started : os.Started) (Hd : Type) (enc : TypeId × Value → Hd) :
    ReturnsInHanded {} Proofs.Try.checked os 5 .any (Proofs.Ytogalpcheddenaa.Rows.permitGoneSpec.pre6 enc Proofs.Try.prog Proofs.Try.f5 Proofs.Ytogalpcheddenaa.Rows.permitGoneRow.domain false) (Proofs.Ytogalpcheddenaa.Rows.permitGoneSpec.post enc Proofs.Try.prog Proofs.Try.f5 false true false false) := by
  refine returnsInHanded_of_change (C := Proofs.Try.checked) law_own started (by kernel_rfl) Proofs.Try.func5
    (ChangeSpec.witness6 (enc := enc) (C := Proofs.Try.checked) false ⟨#[], #[.slice none 0 0, .slice none 0 0], []⟩ 8 (by kernel_rfl) (by kernel_rfl) (by kernel_rfl) (by kernel_rfl)) ?_
  intro W base args ds gs before hval0 hW hcnd _
  have hval : ∀ (j : Nat) t v, Proofs.Try.f5.params[j]? = some t → args[j]? = some v → Value.okWide Proofs.Try.prog W .any base t v := hval0
  have hW2 : DataW.Whole enc Proofs.Try.prog Proofs.Try.f5.params.toList Proofs.Ytogalpcheddenaa.Rows.permitGoneSpec.vars false W args.toList ds gs before := hW
  obtain ⟨p, q, hA0, hV, rfl, hfz, hnd⟩ := hW
  have hA : DataW.TrodAll enc Proofs.Try.prog W 0 (fun _ => true) true Proofs.Try.f5.params.toList args.toList ds p := hA0
  rw [Proofs.Try.params5] at hA hval
  obtain ⟨v0, vs0, d0, ds0, p0, q0, hargs, rfl, rfl, h0, r0⟩ := trodAll_cons hA
  obtain ⟨v1, vs1, d1, ds1, p1, q1, rfl, rfl, rfl, h1, r1⟩ := trodAll_cons r0
  obtain ⟨rfl, rfl, rfl⟩ := trodAll_nil r1
  obtain rfl : args = #[v0, v1] := by cases args; simp_all
  obtain ⟨x0, e0, ok0⟩ := arg_slice Proofs.Try.underlying33 tread33 (hval 0 33 v0 rfl rfl) h0
  obtain ⟨x1, e1, ok1⟩ := arg_slice Proofs.Try.underlying33 tread33 (hval 1 33 v1 rfl rfl) h1
  have hc := m_gridhallkeep4_PermitGone_c (hp _ _ ok0 ok1) e0 e1 (St.begin W)
  refine hc.mono fun e W' h => ?_
  cases e with
  | returned v =>
    obtain ⟨H', M', hst, hphi⟩ := h
    obtain ⟨_, _, rfl⟩ := hphi
    exact ⟨_, rfl, law_post law_laid rfl rfl Proofs.Try.underlying4 (by kernel_rfl) hW2 (fun _ => rfl) hst.below⟩
  | _ => exact h.elim
theorem PermitGone_law (hp : ∀ (x0 : (List ByteArray)) (x1 : (List ByteArray)), ok x0 → ok x1 → m_gridhallkeep4_PermitGone x0 x1 = some true) : Proofs.Ytogalpcheddenaa.Rows.PermitGoneSaid :=
  OpenClaim.holds_of_wide 5 Proofs.Try.f5 rfl rfl rfl rfl rfl rfl rfl ⟨rfl, rfl, rfl, rfl, rfl⟩ rfl rfl rfl rfl rfl (by kernel_rfl) Proofs.Try.func5 (by kernel_rfl)
    (of_decide_eq_true (by kernel_rfl)) (by unfold Func.isWrapper; first | (rw [if_pos (by decide +kernel)]; kernel_rfl) | (rw [if_neg (by decide +kernel)]; exact ⟨rfl, rfl⟩))
    (fun os started H enc _ => PermitGone_lifted hp os started H enc)
end Go.Sim
