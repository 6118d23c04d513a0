/-
  Printed by a program: from the models to the given statements.
-/
import Derived.Test.YthcolhlbmcbdjaaConC
import Derived.Test.YthcolhlbmcbdjaaSimL
import Derived.OpenShut
import Derived.HandedShaped
namespace Go.Sim
open Go Go.RowKit Go.ChangeShapes Go.WideShapes Go.ChangeAt
set_option linter.unusedVariables false
theorem law_own : ownKnob Proofs.Try.prog.godebug = none := by kernel_rfl
theorem law_laid : laidOutB Proofs.Try.prog = true := by kernel_rfl

set_option maxRecDepth 100000 in
theorem ConsoleCompletes_lifted (hp : ∀ (x0 : ByteArray), x0.size ≤ maxLen → m_gridhallkeep4_ConsoleCompletes x0 = some true) (os : Os) (started : os.Started) (Hd : Type) (enc : TypeId × Value → Hd) :
    ReturnsInHanded {} Proofs.Try.checked os 3 .any (Proofs.Ythcolhlbmcbdjaa.Rows.consoleCompletesSpec.pre6 enc Proofs.Try.prog Proofs.Try.f3 Proofs.Ythcolhlbmcbdjaa.Rows.consoleCompletesRow.domain false) (Proofs.Ythcolhlbmcbdjaa.Rows.consoleCompletesSpec.post enc Proofs.Try.prog Proofs.Try.f3 false true false false) := by
  refine returnsInHanded_of_change (C := Proofs.Try.checked) law_own started (by kernel_rfl) Proofs.Try.func3
    (ChangeSpec.witness6 (enc := enc) (C := Proofs.Try.checked) false ⟨#[], #[.string ⟨#[]⟩], []⟩ 8 (by kernel_rfl) (by kernel_rfl) (by kernel_rfl) (by kernel_rfl)) ?_
  intro W base args ds gs before hval0 hW hcnd _
  have hval : ∀ (j : Nat) t v, Proofs.Try.f3.params[j]? = some t → args[j]? = some v → Value.okWide Proofs.Try.prog W .any base t v := hval0
  have hW2 : DataW.Whole enc Proofs.Try.prog Proofs.Try.f3.params.toList Proofs.Ythcolhlbmcbdjaa.Rows.consoleCompletesSpec.vars false W args.toList ds gs before := hW
  obtain ⟨p, q, hA0, hV, rfl, hfz, hnd⟩ := hW
  have hA : DataW.TrodAll enc Proofs.Try.prog W 0 (fun _ => true) true Proofs.Try.f3.params.toList args.toList ds p := hA0
  rw [Proofs.Try.params3] at hA hval
  obtain ⟨v0, vs0, d0, ds0, p0, q0, hargs, rfl, rfl, h0, r0⟩ := trodAll_cons hA
  obtain ⟨rfl, rfl, rfl⟩ := trodAll_nil r0
  obtain rfl : args = #[v0] := by cases args; simp_all
  obtain ⟨x0, rfl, ok0⟩ := arg_string Proofs.Try.underlying9 (hval 0 9 v0 rfl rfl) h0
  have hc := m_gridhallkeep4_ConsoleCompletes_c (hp _ ok0)  (St.begin W)
  refine hc.mono fun e W' h => ?_
  cases e with
  | returned v =>
    obtain ⟨H', M', hst, hphi⟩ := h
    obtain ⟨_, _, rfl⟩ := hphi
    exact ⟨_, rfl, law_post law_laid rfl rfl Proofs.Try.underlying4 (by kernel_rfl) hW2 (fun _ => rfl) hst.below⟩
  | _ => exact h.elim
theorem ConsoleCompletes_law (hp : ∀ (x0 : ByteArray), x0.size ≤ maxLen → m_gridhallkeep4_ConsoleCompletes x0 = some true) : Proofs.Ythcolhlbmcbdjaa.Rows.ConsoleCompletesSaid :=
  OpenClaim.holds_of_wide 3 Proofs.Try.f3 rfl rfl rfl rfl rfl rfl rfl ⟨rfl, rfl, rfl, rfl, rfl⟩ rfl rfl rfl rfl rfl (by kernel_rfl) Proofs.Try.func3 (by kernel_rfl)
    (of_decide_eq_true (by kernel_rfl)) (by unfold Func.isWrapper; first | (rw [if_pos (by decide +kernel)]; kernel_rfl) | (rw [if_neg (by decide +kernel)]; exact ⟨rfl, rfl⟩))
    (fun os started H enc _ => ConsoleCompletes_lifted hp os started H enc)
end Go.Sim
