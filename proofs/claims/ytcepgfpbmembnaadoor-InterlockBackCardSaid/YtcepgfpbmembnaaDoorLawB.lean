/-
  Printed by a program: from the models to the given statements.
-/
import Derived.Test.YtcepgfpbmembnaaDoorConB
import Derived.Test.YtcepgfpbmembnaaDoorSimL
import Derived.OpenShut
import Derived.HandedShaped
import Derived.Handed
import Derived.Lay
import Derived.LaidByTextLater
import Derived.Stop.LaidErr
namespace Go.Sim
open Go Go.RowKit Go.ChangeShapes Go.WideShapes Go.ChangeAt
set_option linter.unusedVariables false
theorem law_own : ownKnob Proofs.Tryd.prog.godebug = none := by kernel_rfl
theorem law_laid : laidOutB Proofs.Tryd.prog = true := by kernel_rfl
instance : Ok S_api_InterlockNode := ⟨fun x => ok x.Kind ∧ ok x.Name ∧ ok x.A ∧ ok x.B_⟩
instance : Ok S_api_InterlockRule := ⟨fun x => ok x.Close ∧ ok x.Switch ∧ ok x.Cond⟩
theorem tread49 : Tread Proofs.Tryd.prog 49 S_api_InterlockNode := by
  intro Hd enc w fuel cs d h
  obtain ⟨xs, n, rfl, rfl, hl, hlen, hf⟩ := DataW.trod_struct Proofs.Tryd.underlying49 h
  obtain ⟨x0, e0, o0⟩ := field_tread (α := Int) hlen hf 0 (o := 0) rfl rfl (by kernel_rfl) (tread_int Proofs.Tryd.underlying3)
  obtain ⟨x1, e1, o1⟩ := field_tread (α := ByteArray) hlen hf 1 (o := 1) rfl rfl (by kernel_rfl) (tread_string Proofs.Tryd.underlying9)
  obtain ⟨x2, e2, o2⟩ := field_tread (α := Int) hlen hf 2 (o := 2) rfl rfl (by kernel_rfl) (tread_int Proofs.Tryd.underlying3)
  obtain ⟨x3, e3, o3⟩ := field_tread (α := Int) hlen hf 3 (o := 3) rfl rfl (by kernel_rfl) (tread_int Proofs.Tryd.underlying3)
  exact ⟨⟨x0, x1, x2, x3⟩, piece (o := 0) e0 (by rfl) (piece (o := 1) e1 (by rfl) (piece (o := 2) e2 (by rfl) (piece (o := 3) e3 (by rfl) (piece_end hl (by kernel_rfl))))), ⟨o0, o1, o2, o3⟩⟩
theorem tread32 : Tread Proofs.Tryd.prog 32 (List S_api_InterlockNode) := tread_slice Proofs.Tryd.underlying32 (by kernel_rfl) rfl tread49
theorem tread34 : Tread Proofs.Tryd.prog 34 S_api_InterlockRule := by
  intro Hd enc w fuel cs d h
  obtain ⟨xs, n, rfl, rfl, hl, hlen, hf⟩ := DataW.trod_struct Proofs.Tryd.underlying34 h
  obtain ⟨x0, e0, o0⟩ := field_tread (α := Bool) hlen hf 0 (o := 0) rfl rfl (by kernel_rfl) (tread_bool Proofs.Tryd.underlying4)
  obtain ⟨x1, e1, o1⟩ := field_tread (α := ByteArray) hlen hf 1 (o := 1) rfl rfl (by kernel_rfl) (tread_string Proofs.Tryd.underlying9)
  obtain ⟨x2, ⟨v2_0, e2, h2_0⟩, o2⟩ := field_tread (α := (List S_api_InterlockNode)) hlen hf 2 (o := 2) rfl rfl (by kernel_rfl) tread32
  exact ⟨⟨x0, x1, x2⟩, ⟨v2_0, piece (o := 0) e0 (by rfl) (piece (o := 1) e1 (by rfl) (piece (o := 2) e2 (by rfl) (piece_end hl (by kernel_rfl)))), h2_0⟩, ⟨o0, o1, o2⟩⟩
theorem tread22 : Tread Proofs.Tryd.prog 22 (List S_api_InterlockRule) := tread_slice Proofs.Tryd.underlying22 (by kernel_rfl) rfl tread34
set_option maxRecDepth 100000 in
theorem InterlockBack_lifted (hp : ∀ (x0 : (List S_api_InterlockRule)) (x1 : ByteArray), ok x0 → x1.size ≤ maxLen → m_gridhallkeep4_InterlockBack x0 x1 = some true) (os : Os) (started : os.Started) (Hd : Type) (enc : TypeId × Value → Hd) :
    ReturnsInHanded {} Proofs.Tryd.checked os 3 .any (fun w args => (Proofs.YtcepgfpbmembnaaDoor.Rows.interlockBackSpec.pre enc Proofs.Tryd.prog Proofs.Tryd.f3 Proofs.YtcepgfpbmembnaaDoor.Rows.interlockBackRow.domain false w args ∧ laidMetH Proofs.Tryd.prog Proofs.YtcepgfpbmembnaaDoor.Rows.interlockBackRow.laid w) ∧ sizedMet enc Proofs.Tryd.prog Proofs.Tryd.f3 (OpenSpec.ofChange Proofs.YtcepgfpbmembnaaDoor.Rows.interlockBackSpec) false w args) (Proofs.YtcepgfpbmembnaaDoor.Rows.interlockBackSpec.post enc Proofs.Tryd.prog Proofs.Tryd.f3 false true false false) := by
  refine returnsInHanded_of_change_and (C := Proofs.Tryd.checked) (X := fun w _ => laidMetH Proofs.Tryd.prog Proofs.YtcepgfpbmembnaaDoor.Rows.interlockBackRow.laid w) (fun _ _ _ hh h => h.of_heap hh) law_own started (by kernel_rfl) Proofs.Tryd.func3
    (ChangeSpec.witness_shaped (enc := enc) (C := Proofs.Tryd.checked) (os := os) (X := fun w _ => laidMetH Proofs.Tryd.prog Proofs.YtcepgfpbmembnaaDoor.Rows.interlockBackRow.laid w) false (World.laidAll Proofs.Tryd.prog os Proofs.YtcepgfpbmembnaaDoor.Rows.interlockBackRow.laid) #[.slice none 0 0, .string ⟨#[]⟩] 8 (World.laidAll_os _ _ _)
      (World.shaped_of_ZipB (by kernel_rfl) (by kernel_rfl)) (by kernel_rfl) (by kernel_rfl) (by kernel_rfl)
      (by rw [MakeChecks.laidMetH_plain _ _ _ (by kernel_rfl)]; exact laidMet_laidAll _ (by kernel_rfl) (by kernel_rfl))) ?_
  intro W base args ds gs before hval0 hW hcnd _ hL _
  have hval : ∀ (j : Nat) t v, Proofs.Tryd.f3.params[j]? = some t → args[j]? = some v → Value.okWide Proofs.Tryd.prog W .any base t v := hval0
  have hW2 : DataW.Whole enc Proofs.Tryd.prog Proofs.Tryd.f3.params.toList Proofs.YtcepgfpbmembnaaDoor.Rows.interlockBackSpec.vars false W args.toList ds gs before := hW
  obtain ⟨p, q, hA0, hV, rfl, hfz, hnd⟩ := hW
  have hA : DataW.TrodAll enc Proofs.Tryd.prog W 0 (fun _ => true) true Proofs.Tryd.f3.params.toList args.toList ds p := hA0
  rw [Proofs.Tryd.params3] at hA hval
  obtain ⟨v0, vs0, d0, ds0, p0, q0, hargs, rfl, rfl, h0, r0⟩ := trodAll_cons hA
  obtain ⟨v1, vs1, d1, ds1, p1, q1, rfl, rfl, rfl, h1, r1⟩ := trodAll_cons r0
  obtain ⟨rfl, rfl, rfl⟩ := trodAll_nil r1
  obtain rfl : args = #[v0, v1] := by cases args; simp_all
  obtain ⟨x0, e0, ok0⟩ := arg_slice Proofs.Tryd.underlying22 tread22 (hval 0 22 v0 rfl rfl) h0
  obtain ⟨x1, rfl, ok1⟩ := arg_string Proofs.Tryd.underlying9 (hval 1 9 v1 rfl rfl) h1
  have hc := m_gridhallkeep4_InterlockBack_c (hp x0 x1 ok0 ok1) e0 (St.begin W)
  refine hc.mono fun e W' h => ?_
  cases e with
  | returned v =>
    obtain ⟨H', M', hst, hphi⟩ := h
    obtain ⟨_, _, rfl⟩ := hphi
    exact ⟨_, rfl, law_post law_laid rfl rfl Proofs.Tryd.underlying4 (by kernel_rfl) hW2 (fun _ => rfl) hst.below⟩
  | _ => exact h.elim
theorem InterlockBack_law (hp : ∀ (x0 : (List S_api_InterlockRule)) (x1 : ByteArray), ok x0 → x1.size ≤ maxLen → m_gridhallkeep4_InterlockBack x0 x1 = some true) : Proofs.YtcepgfpbmembnaaDoor.Rows.InterlockBackSaid :=
  OpenClaim.holds_of_wide 3 Proofs.Tryd.f3 rfl rfl rfl rfl rfl rfl rfl ⟨rfl, rfl, rfl, rfl, rfl⟩ rfl rfl rfl rfl rfl (by kernel_rfl) Proofs.Tryd.func3 (by kernel_rfl)
    (of_decide_eq_true (by kernel_rfl)) (by unfold Func.isWrapper; first | (rw [if_pos (by decide +kernel)]; kernel_rfl) | (rw [if_neg (by decide +kernel)]; exact ⟨rfl, rfl⟩))
    (fun os started H enc _ => InterlockBack_lifted hp os started H enc)
end Go.Sim
