/-
  Printed by a program: from the models to the given statements.
-/
import Derived.Test.YtnfkndhlceiicaaConB
import Derived.Test.YtnfkndhlceiicaaSimL
import Derived.OpenShut
import Derived.HandedShaped
namespace Go.Sim
open Go Go.RowKit Go.ChangeShapes Go.WideShapes Go.ChangeAt
set_option linter.unusedVariables false
theorem law_own : ownKnob Proofs.Try.prog.godebug = none := by kernel_rfl
theorem law_laid : laidOutB Proofs.Try.prog = true := by kernel_rfl
instance : Ok S_api_AlarmCause := ⟨fun x => ok x.Of ∧ ok x.By⟩
theorem tread45 : Tread Proofs.Try.prog 45 S_api_AlarmCause := by
  intro Hd enc w fuel cs d h
  obtain ⟨xs, n, rfl, rfl, hl, hlen, hf⟩ := DataW.trod_struct Proofs.Try.underlying45 h
  obtain ⟨x0, e0, o0⟩ := field_tread (α := ByteArray) hlen hf 0 (o := 0) rfl rfl (by kernel_rfl) (tread_string Proofs.Try.underlying9)
  obtain ⟨x1, e1, o1⟩ := field_tread (α := ByteArray) hlen hf 1 (o := 1) rfl rfl (by kernel_rfl) (tread_string Proofs.Try.underlying9)
  exact ⟨⟨x0, x1⟩, piece (o := 0) e0 (by rfl) (piece (o := 1) e1 (by rfl) (piece_end hl (by kernel_rfl))), ⟨o0, o1⟩⟩
theorem tread22 : Tread Proofs.Try.prog 22 (List S_api_AlarmCause) := tread_slice Proofs.Try.underlying22 (by kernel_rfl) rfl tread45
theorem tread23 : Tread Proofs.Try.prog 23 (List ByteArray) := tread_slice Proofs.Try.underlying23 (by kernel_rfl) rfl (tread_string Proofs.Try.underlying9)
set_option maxRecDepth 100000 in
theorem AlarmBoards_lifted (hp : ∀ (x0 : (List S_api_AlarmCause)) (x1 : (List ByteArray)) (x2 : ByteArray), ok x0 → ok x1 → x2.size ≤ maxLen → m_gridhallkeep4_AlarmBoards x0 x1 x2 = some true) (os : Os) (started : os.Started) (Hd : Type) (enc : TypeId × Value → Hd) :
    ReturnsInHanded {} Proofs.Try.checked os 3 .any (Proofs.Ytnfkndhlceiicaa.Rows.alarmBoardsSpec.pre6 enc Proofs.Try.prog Proofs.Try.f3 Proofs.Ytnfkndhlceiicaa.Rows.alarmBoardsRow.domain false) (Proofs.Ytnfkndhlceiicaa.Rows.alarmBoardsSpec.post enc Proofs.Try.prog Proofs.Try.f3 false true false false) := by
  refine returnsInHanded_of_change (C := Proofs.Try.checked) law_own started (by kernel_rfl) Proofs.Try.func3
    (ChangeSpec.witness6 (enc := enc) (C := Proofs.Try.checked) false ⟨#[], #[.slice none 0 0, .slice none 0 0, .string ⟨#[]⟩], []⟩ 8 (by kernel_rfl) (by kernel_rfl) (by kernel_rfl) (by kernel_rfl)) ?_
  intro W base args ds gs before hval0 hW hcnd _
  have hval : ∀ (j : Nat) t v, Proofs.Try.f3.params[j]? = some t → args[j]? = some v → Value.okWide Proofs.Try.prog W .any base t v := hval0
  have hW2 : DataW.Whole enc Proofs.Try.prog Proofs.Try.f3.params.toList Proofs.Ytnfkndhlceiicaa.Rows.alarmBoardsSpec.vars false W args.toList ds gs before := hW
  obtain ⟨p, q, hA0, hV, rfl, hfz, hnd⟩ := hW
  have hA : DataW.TrodAll enc Proofs.Try.prog W 0 (fun _ => true) true Proofs.Try.f3.params.toList args.toList ds p := hA0
  rw [Proofs.Try.params3] at hA hval
  obtain ⟨v0, vs0, d0, ds0, p0, q0, hargs, rfl, rfl, h0, r0⟩ := trodAll_cons hA
  obtain ⟨v1, vs1, d1, ds1, p1, q1, rfl, rfl, rfl, h1, r1⟩ := trodAll_cons r0
  obtain ⟨v2, vs2, d2, ds2, p2, q2, rfl, rfl, rfl, h2, r2⟩ := trodAll_cons r1
  obtain ⟨rfl, rfl, rfl⟩ := trodAll_nil r2
  obtain rfl : args = #[v0, v1, v2] := by cases args; simp_all
  obtain ⟨x0, e0, ok0⟩ := arg_slice Proofs.Try.underlying22 tread22 (hval 0 22 v0 rfl rfl) h0
  obtain ⟨x1, e1, ok1⟩ := arg_slice Proofs.Try.underlying23 tread23 (hval 1 23 v1 rfl rfl) h1
  obtain ⟨x2, rfl, ok2⟩ := arg_string Proofs.Try.underlying9 (hval 2 9 v2 rfl rfl) h2
  have hc := m_gridhallkeep4_AlarmBoards_c (hp _ _ _ ok0 ok1 ok2) e0 e1 (St.begin W)
  refine hc.mono fun e W' h => ?_
  cases e with
  | returned v =>
    obtain ⟨H', M', hst, hphi⟩ := h
    obtain ⟨_, _, rfl⟩ := hphi
    exact ⟨_, rfl, law_post law_laid rfl rfl Proofs.Try.underlying4 (by kernel_rfl) hW2 (fun _ => rfl) hst.below⟩
  | _ => exact h.elim
theorem AlarmBoards_law (hp : ∀ (x0 : (List S_api_AlarmCause)) (x1 : (List ByteArray)) (x2 : ByteArray), ok x0 → ok x1 → x2.size ≤ maxLen → m_gridhallkeep4_AlarmBoards x0 x1 x2 = some true) : Proofs.Ytnfkndhlceiicaa.Rows.AlarmBoardsSaid :=
  OpenClaim.holds_of_wide 3 Proofs.Try.f3 rfl rfl rfl rfl rfl rfl rfl ⟨rfl, rfl, rfl, rfl, rfl⟩ rfl rfl rfl rfl rfl (by kernel_rfl) Proofs.Try.func3 (by kernel_rfl)
    (of_decide_eq_true (by kernel_rfl)) (by unfold Func.isWrapper; first | (rw [if_pos (by decide +kernel)]; kernel_rfl) | (rw [if_neg (by decide +kernel)]; exact ⟨rfl, rfl⟩))
    (fun os started H enc _ => AlarmBoards_lifted hp os started H enc)
end Go.Sim
