/-
  Printed by a program: from the models to the given statements.
-/
import Derived.Test.YtfmhkgnbceoclaaConB
import Derived.Test.YtfmhkgnbceoclaaSimL
import Derived.OpenShut
import Derived.HandedShaped
import Derived.Handed
import Derived.Lay
import Derived.LaidByTextLater
import Derived.Stop.LaidErr
namespace Go.Sim
open Go Go.RowKit Go.ChangeShapes Go.WideShapes Go.ChangeAt
set_option linter.unusedVariables false
theorem law_own : ownKnob Proofs.Try.prog.godebug = none := by kernel_rfl
theorem law_laid : laidOutB Proofs.Try.prog = true := by kernel_rfl
instance : Ok S_api_Switch := ⟨fun x => ok x.Name ∧ ok x.A ∧ ok x.B_ ∧ ok x.Breaker ∧ ok x.Open⟩
instance : Ok S_api_Branch := ⟨fun x => ok x.Name ∧ ok x.From ∧ ok x.To ∧ ok x.X ∧ ok x.Tap ∧ ok x.Shift ∧ ok x.Limit ∧ ok x.Short ∧ ok x.Hold⟩
instance : Ok S_api_Gen := ⟨fun x => ok x.Name ∧ ok x.Node ∧ ok x.Least ∧ ok x.Most ∧ ok x.Ramp⟩
instance : Ok S_api_Load := ⟨fun x => ok x.Name ∧ ok x.Node ∧ ok x.Demand⟩
instance : Ok S_api_Store := ⟨fun x => ok x.Name ∧ ok x.Node ∧ ok x.Charge ∧ ok x.Discharge ∧ ok x.Capacity⟩
instance : Ok S_api_Network := ⟨fun x => ok x.Nodes ∧ ok x.Switches ∧ ok x.Branches ∧ ok x.Gens ∧ ok x.Loads ∧ ok x.Stores⟩
theorem tread22 : Tread Proofs.Try.prog 22 (List ByteArray) := tread_slice Proofs.Try.underlying22 (by kernel_rfl) rfl (tread_string Proofs.Try.underlying9)
theorem tread70 : Tread Proofs.Try.prog 70 S_api_Switch := by
  intro Hd enc w fuel cs d h
  obtain ⟨xs, n, rfl, rfl, hl, hlen, hf⟩ := DataW.trod_struct Proofs.Try.underlying70 h
  obtain ⟨x0, e0, o0⟩ := field_tread (α := ByteArray) hlen hf 0 (o := 0) rfl rfl (by kernel_rfl) (tread_string Proofs.Try.underlying9)
  obtain ⟨x1, e1, o1⟩ := field_tread (α := ByteArray) hlen hf 1 (o := 1) rfl rfl (by kernel_rfl) (tread_string Proofs.Try.underlying9)
  obtain ⟨x2, e2, o2⟩ := field_tread (α := ByteArray) hlen hf 2 (o := 2) rfl rfl (by kernel_rfl) (tread_string Proofs.Try.underlying9)
  obtain ⟨x3, e3, o3⟩ := field_tread (α := Bool) hlen hf 3 (o := 3) rfl rfl (by kernel_rfl) (tread_bool Proofs.Try.underlying4)
  obtain ⟨x4, e4, o4⟩ := field_tread (α := Bool) hlen hf 4 (o := 4) rfl rfl (by kernel_rfl) (tread_bool Proofs.Try.underlying4)
  exact ⟨⟨x0, x1, x2, x3, x4⟩, piece (o := 0) e0 (by rfl) (piece (o := 1) e1 (by rfl) (piece (o := 2) e2 (by rfl) (piece (o := 3) e3 (by rfl) (piece (o := 4) e4 (by rfl) (piece_end hl (by kernel_rfl)))))), ⟨o0, o1, o2, o3, o4⟩⟩
theorem tread23 : Tread Proofs.Try.prog 23 (List S_api_Switch) := tread_slice Proofs.Try.underlying23 (by kernel_rfl) rfl tread70
theorem tread83 : Tread Proofs.Try.prog 83 S_api_Branch := by
  intro Hd enc w fuel cs d h
  obtain ⟨xs, n, rfl, rfl, hl, hlen, hf⟩ := DataW.trod_struct Proofs.Try.underlying83 h
  obtain ⟨x0, e0, o0⟩ := field_tread (α := ByteArray) hlen hf 0 (o := 0) rfl rfl (by kernel_rfl) (tread_string Proofs.Try.underlying9)
  obtain ⟨x1, e1, o1⟩ := field_tread (α := ByteArray) hlen hf 1 (o := 1) rfl rfl (by kernel_rfl) (tread_string Proofs.Try.underlying9)
  obtain ⟨x2, e2, o2⟩ := field_tread (α := ByteArray) hlen hf 2 (o := 2) rfl rfl (by kernel_rfl) (tread_string Proofs.Try.underlying9)
  obtain ⟨x3, e3, o3⟩ := field_tread (α := Int) hlen hf 3 (o := 3) rfl rfl (by kernel_rfl) (tread_int Proofs.Try.underlying3)
  obtain ⟨x4, e4, o4⟩ := field_tread (α := Int) hlen hf 4 (o := 4) rfl rfl (by kernel_rfl) (tread_int Proofs.Try.underlying3)
  obtain ⟨x5, e5, o5⟩ := field_tread (α := Int) hlen hf 5 (o := 5) rfl rfl (by kernel_rfl) (tread_int Proofs.Try.underlying3)
  obtain ⟨x6, e6, o6⟩ := field_tread (α := Int) hlen hf 6 (o := 6) rfl rfl (by kernel_rfl) (tread_int Proofs.Try.underlying3)
  obtain ⟨x7, e7, o7⟩ := field_tread (α := Int) hlen hf 7 (o := 7) rfl rfl (by kernel_rfl) (tread_int Proofs.Try.underlying3)
  obtain ⟨x8, e8, o8⟩ := field_tread (α := Int) hlen hf 8 (o := 8) rfl rfl (by kernel_rfl) (tread_int Proofs.Try.underlying3)
  exact ⟨⟨x0, x1, x2, x3, x4, x5, x6, x7, x8⟩, piece (o := 0) e0 (by rfl) (piece (o := 1) e1 (by rfl) (piece (o := 2) e2 (by rfl) (piece (o := 3) e3 (by rfl) (piece (o := 4) e4 (by rfl) (piece (o := 5) e5 (by rfl) (piece (o := 6) e6 (by rfl) (piece (o := 7) e7 (by rfl) (piece (o := 8) e8 (by rfl) (piece_end hl (by kernel_rfl)))))))))), ⟨o0, o1, o2, o3, o4, o5, o6, o7, o8⟩⟩
theorem tread24 : Tread Proofs.Try.prog 24 (List S_api_Branch) := tread_slice Proofs.Try.underlying24 (by kernel_rfl) rfl tread83
theorem tread46 : Tread Proofs.Try.prog 46 S_api_Gen := by
  intro Hd enc w fuel cs d h
  obtain ⟨xs, n, rfl, rfl, hl, hlen, hf⟩ := DataW.trod_struct Proofs.Try.underlying46 h
  obtain ⟨x0, e0, o0⟩ := field_tread (α := ByteArray) hlen hf 0 (o := 0) rfl rfl (by kernel_rfl) (tread_string Proofs.Try.underlying9)
  obtain ⟨x1, e1, o1⟩ := field_tread (α := ByteArray) hlen hf 1 (o := 1) rfl rfl (by kernel_rfl) (tread_string Proofs.Try.underlying9)
  obtain ⟨x2, e2, o2⟩ := field_tread (α := Int) hlen hf 2 (o := 2) rfl rfl (by kernel_rfl) (tread_int Proofs.Try.underlying3)
  obtain ⟨x3, e3, o3⟩ := field_tread (α := Int) hlen hf 3 (o := 3) rfl rfl (by kernel_rfl) (tread_int Proofs.Try.underlying3)
  obtain ⟨x4, e4, o4⟩ := field_tread (α := Int) hlen hf 4 (o := 4) rfl rfl (by kernel_rfl) (tread_int Proofs.Try.underlying3)
  exact ⟨⟨x0, x1, x2, x3, x4⟩, piece (o := 0) e0 (by rfl) (piece (o := 1) e1 (by rfl) (piece (o := 2) e2 (by rfl) (piece (o := 3) e3 (by rfl) (piece (o := 4) e4 (by rfl) (piece_end hl (by kernel_rfl)))))), ⟨o0, o1, o2, o3, o4⟩⟩
theorem tread25 : Tread Proofs.Try.prog 25 (List S_api_Gen) := tread_slice Proofs.Try.underlying25 (by kernel_rfl) rfl tread46
theorem tread93 : Tread Proofs.Try.prog 93 S_api_Load := by
  intro Hd enc w fuel cs d h
  obtain ⟨xs, n, rfl, rfl, hl, hlen, hf⟩ := DataW.trod_struct Proofs.Try.underlying93 h
  obtain ⟨x0, e0, o0⟩ := field_tread (α := ByteArray) hlen hf 0 (o := 0) rfl rfl (by kernel_rfl) (tread_string Proofs.Try.underlying9)
  obtain ⟨x1, e1, o1⟩ := field_tread (α := ByteArray) hlen hf 1 (o := 1) rfl rfl (by kernel_rfl) (tread_string Proofs.Try.underlying9)
  obtain ⟨x2, e2, o2⟩ := field_tread (α := Int) hlen hf 2 (o := 2) rfl rfl (by kernel_rfl) (tread_int Proofs.Try.underlying3)
  exact ⟨⟨x0, x1, x2⟩, piece (o := 0) e0 (by rfl) (piece (o := 1) e1 (by rfl) (piece (o := 2) e2 (by rfl) (piece_end hl (by kernel_rfl)))), ⟨o0, o1, o2⟩⟩
theorem tread26 : Tread Proofs.Try.prog 26 (List S_api_Load) := tread_slice Proofs.Try.underlying26 (by kernel_rfl) rfl tread93
theorem tread96 : Tread Proofs.Try.prog 96 S_api_Store := by
  intro Hd enc w fuel cs d h
  obtain ⟨xs, n, rfl, rfl, hl, hlen, hf⟩ := DataW.trod_struct Proofs.Try.underlying96 h
  obtain ⟨x0, e0, o0⟩ := field_tread (α := ByteArray) hlen hf 0 (o := 0) rfl rfl (by kernel_rfl) (tread_string Proofs.Try.underlying9)
  obtain ⟨x1, e1, o1⟩ := field_tread (α := ByteArray) hlen hf 1 (o := 1) rfl rfl (by kernel_rfl) (tread_string Proofs.Try.underlying9)
  obtain ⟨x2, e2, o2⟩ := field_tread (α := Int) hlen hf 2 (o := 2) rfl rfl (by kernel_rfl) (tread_int Proofs.Try.underlying3)
  obtain ⟨x3, e3, o3⟩ := field_tread (α := Int) hlen hf 3 (o := 3) rfl rfl (by kernel_rfl) (tread_int Proofs.Try.underlying3)
  obtain ⟨x4, e4, o4⟩ := field_tread (α := Int) hlen hf 4 (o := 4) rfl rfl (by kernel_rfl) (tread_int Proofs.Try.underlying3)
  exact ⟨⟨x0, x1, x2, x3, x4⟩, piece (o := 0) e0 (by rfl) (piece (o := 1) e1 (by rfl) (piece (o := 2) e2 (by rfl) (piece (o := 3) e3 (by rfl) (piece (o := 4) e4 (by rfl) (piece_end hl (by kernel_rfl)))))), ⟨o0, o1, o2, o3, o4⟩⟩
theorem tread27 : Tread Proofs.Try.prog 27 (List S_api_Store) := tread_slice Proofs.Try.underlying27 (by kernel_rfl) rfl tread96
theorem tread29 : Tread Proofs.Try.prog 29 S_api_Network := by
  intro Hd enc w fuel cs d h
  obtain ⟨xs, n, rfl, rfl, hl, hlen, hf⟩ := DataW.trod_struct Proofs.Try.underlying29 h
  obtain ⟨x0, ⟨v0_0, e0, h0_0⟩, o0⟩ := field_tread (α := (List ByteArray)) hlen hf 0 (o := 0) rfl rfl (by kernel_rfl) tread22
  obtain ⟨x1, ⟨v1_0, e1, h1_0⟩, o1⟩ := field_tread (α := (List S_api_Switch)) hlen hf 1 (o := 1) rfl rfl (by kernel_rfl) tread23
  obtain ⟨x2, ⟨v2_0, e2, h2_0⟩, o2⟩ := field_tread (α := (List S_api_Branch)) hlen hf 2 (o := 2) rfl rfl (by kernel_rfl) tread24
  obtain ⟨x3, ⟨v3_0, e3, h3_0⟩, o3⟩ := field_tread (α := (List S_api_Gen)) hlen hf 3 (o := 3) rfl rfl (by kernel_rfl) tread25
  obtain ⟨x4, ⟨v4_0, e4, h4_0⟩, o4⟩ := field_tread (α := (List S_api_Load)) hlen hf 4 (o := 4) rfl rfl (by kernel_rfl) tread26
  obtain ⟨x5, ⟨v5_0, e5, h5_0⟩, o5⟩ := field_tread (α := (List S_api_Store)) hlen hf 5 (o := 5) rfl rfl (by kernel_rfl) tread27
  exact ⟨⟨x0, x1, x2, x3, x4, x5⟩, ⟨v0_0, v1_0, v2_0, v3_0, v4_0, v5_0, piece (o := 0) e0 (by rfl) (piece (o := 1) e1 (by rfl) (piece (o := 2) e2 (by rfl) (piece (o := 3) e3 (by rfl) (piece (o := 4) e4 (by rfl) (piece (o := 5) e5 (by rfl) (piece_end hl (by kernel_rfl))))))), h0_0, h1_0, h2_0, h3_0, h4_0, h5_0⟩, ⟨o0, o1, o2, o3, o4, o5⟩⟩
set_option maxRecDepth 100000 in
theorem BlackstartLess_lifted (hp : ∀ (x0 : S_api_Network) (x1 : (List ByteArray)) (x2 : Int), ok x0 → ok x1 → i64ok x2 → m_gridhallkeep4_BlackstartLess x0 x1 x2 = some true) (os : Os) (started : os.Started) (Hd : Type) (enc : TypeId × Value → Hd) :
    ReturnsInHanded {} Proofs.Try.checked os 3 .any (Proofs.Ytfmhkgnbceoclaa.Rows.blackstartLessSpec.pre6 enc Proofs.Try.prog Proofs.Try.f3 Proofs.Ytfmhkgnbceoclaa.Rows.blackstartLessRow.domain false) (Proofs.Ytfmhkgnbceoclaa.Rows.blackstartLessSpec.post enc Proofs.Try.prog Proofs.Try.f3 false true false false) := by
  refine returnsInHanded_of_change (C := Proofs.Try.checked) law_own started (by kernel_rfl) Proofs.Try.func3
    (ChangeSpec.witness6 (enc := enc) (C := Proofs.Try.checked) false ⟨#[], #[.agg #[.slice none 0 0, .slice none 0 0, .slice none 0 0, .slice none 0 0, .slice none 0 0, .slice none 0 0], .slice none 0 0, .int .i64 0], []⟩ 8 (by kernel_rfl) (by kernel_rfl) (by kernel_rfl) (by kernel_rfl)) ?_
  intro W base args ds gs before hval0 hW hcnd _
  have hval : ∀ (j : Nat) t v, Proofs.Try.f3.params[j]? = some t → args[j]? = some v → Value.okWide Proofs.Try.prog W .any base t v := hval0
  have hW2 : DataW.Whole enc Proofs.Try.prog Proofs.Try.f3.params.toList Proofs.Ytfmhkgnbceoclaa.Rows.blackstartLessSpec.vars false W args.toList ds gs before := hW
  obtain ⟨p, q, hA0, hV, rfl, hfz, hnd⟩ := hW
  have hA : DataW.TrodAll enc Proofs.Try.prog W 0 (fun _ => true) true Proofs.Try.f3.params.toList args.toList ds p := hA0
  rw [Proofs.Try.params3] at hA hval
  obtain ⟨v0, vs0, d0, ds0, p0, q0, hargs, rfl, rfl, h0, r0⟩ := trodAll_cons hA
  obtain ⟨v1, vs1, d1, ds1, p1, q1, rfl, rfl, rfl, h1, r1⟩ := trodAll_cons r0
  obtain ⟨v2, vs2, d2, ds2, p2, q2, rfl, rfl, rfl, h2, r2⟩ := trodAll_cons r1
  obtain ⟨rfl, rfl, rfl⟩ := trodAll_nil r2
  obtain rfl : args = #[v0, v1, v2] := by cases args; simp_all
  obtain ⟨x0, cs0, rfl, ⟨v0_0, v0_1, v0_2, v0_3, v0_4, v0_5, rfl, e0_0, e0_1, e0_2, e0_3, e0_4, e0_5⟩, ok0⟩ := arg_struct Proofs.Try.underlying29 tread29 (hval 0 29 v0 rfl rfl) h0
  obtain ⟨x1, e1, ok1⟩ := arg_slice Proofs.Try.underlying22 tread22 (hval 1 22 v1 rfl rfl) h1
  obtain ⟨x2, rfl, ok2⟩ := arg_int Proofs.Try.underlying3 (hval 2 3 v2 rfl rfl) h2
  have hc := m_gridhallkeep4_BlackstartLess_c (hp x0 x1 x2 ok0 ok1 ok2) e0_0 e0_1 e0_2 e0_3 e0_4 e0_5 e1 (St.begin W)
  refine hc.mono fun e W' h => ?_
  cases e with
  | returned v =>
    obtain ⟨H', M', hst, hphi⟩ := h
    obtain ⟨_, _, rfl⟩ := hphi
    exact ⟨_, rfl, law_post law_laid rfl rfl Proofs.Try.underlying4 (by kernel_rfl) hW2 (fun _ => rfl) hst.below⟩
  | _ => exact h.elim
theorem BlackstartLess_law (hp : ∀ (x0 : S_api_Network) (x1 : (List ByteArray)) (x2 : Int), ok x0 → ok x1 → i64ok x2 → m_gridhallkeep4_BlackstartLess x0 x1 x2 = some true) : Proofs.Ytfmhkgnbceoclaa.Rows.BlackstartLessSaid :=
  OpenClaim.holds_of_wide 3 Proofs.Try.f3 rfl rfl rfl rfl rfl rfl rfl ⟨rfl, rfl, rfl, rfl, rfl⟩ rfl rfl rfl rfl rfl (by kernel_rfl) Proofs.Try.func3 (by kernel_rfl)
    (of_decide_eq_true (by kernel_rfl)) (by unfold Func.isWrapper; first | (rw [if_pos (by decide +kernel)]; kernel_rfl) | (rw [if_neg (by decide +kernel)]; exact ⟨rfl, rfl⟩))
    (fun os started H enc _ => BlackstartLess_lifted hp os started H enc)
set_option maxRecDepth 100000 in
theorem BlackstartPlans_lifted (hp : ∀ (x0 : S_api_Network) (x1 : (List ByteArray)), ok x0 → ok x1 → m_gridhallkeep4_BlackstartPlans x0 x1 = some true) (os : Os) (started : os.Started) (Hd : Type) (enc : TypeId × Value → Hd) :
    ReturnsInHanded {} Proofs.Try.checked os 4 .any (Proofs.Ytfmhkgnbceoclaa.Rows.blackstartPlansSpec.pre6 enc Proofs.Try.prog Proofs.Try.f4 Proofs.Ytfmhkgnbceoclaa.Rows.blackstartPlansRow.domain false) (Proofs.Ytfmhkgnbceoclaa.Rows.blackstartPlansSpec.post enc Proofs.Try.prog Proofs.Try.f4 false true false false) := by
  refine returnsInHanded_of_change (C := Proofs.Try.checked) law_own started (by kernel_rfl) Proofs.Try.func4
    (ChangeSpec.witness6 (enc := enc) (C := Proofs.Try.checked) false ⟨#[], #[.agg #[.slice none 0 0, .slice none 0 0, .slice none 0 0, .slice none 0 0, .slice none 0 0, .slice none 0 0], .slice none 0 0], []⟩ 8 (by kernel_rfl) (by kernel_rfl) (by kernel_rfl) (by kernel_rfl)) ?_
  intro W base args ds gs before hval0 hW hcnd _
  have hval : ∀ (j : Nat) t v, Proofs.Try.f4.params[j]? = some t → args[j]? = some v → Value.okWide Proofs.Try.prog W .any base t v := hval0
  have hW2 : DataW.Whole enc Proofs.Try.prog Proofs.Try.f4.params.toList Proofs.Ytfmhkgnbceoclaa.Rows.blackstartPlansSpec.vars false W args.toList ds gs before := hW
  obtain ⟨p, q, hA0, hV, rfl, hfz, hnd⟩ := hW
  have hA : DataW.TrodAll enc Proofs.Try.prog W 0 (fun _ => true) true Proofs.Try.f4.params.toList args.toList ds p := hA0
  rw [Proofs.Try.params4] at hA hval
  obtain ⟨v0, vs0, d0, ds0, p0, q0, hargs, rfl, rfl, h0, r0⟩ := trodAll_cons hA
  obtain ⟨v1, vs1, d1, ds1, p1, q1, rfl, rfl, rfl, h1, r1⟩ := trodAll_cons r0
  obtain ⟨rfl, rfl, rfl⟩ := trodAll_nil r1
  obtain rfl : args = #[v0, v1] := by cases args; simp_all
  obtain ⟨x0, cs0, rfl, ⟨v0_0, v0_1, v0_2, v0_3, v0_4, v0_5, rfl, e0_0, e0_1, e0_2, e0_3, e0_4, e0_5⟩, ok0⟩ := arg_struct Proofs.Try.underlying29 tread29 (hval 0 29 v0 rfl rfl) h0
  obtain ⟨x1, e1, ok1⟩ := arg_slice Proofs.Try.underlying22 tread22 (hval 1 22 v1 rfl rfl) h1
  have hc := m_gridhallkeep4_BlackstartPlans_c (hp x0 x1 ok0 ok1) e0_0 e0_1 e0_2 e0_3 e0_4 e0_5 e1 (St.begin W)
  refine hc.mono fun e W' h => ?_
  cases e with
  | returned v =>
    obtain ⟨H', M', hst, hphi⟩ := h
    obtain ⟨_, _, rfl⟩ := hphi
    exact ⟨_, rfl, law_post law_laid rfl rfl Proofs.Try.underlying4 (by kernel_rfl) hW2 (fun _ => rfl) hst.below⟩
  | _ => exact h.elim
theorem BlackstartPlans_law (hp : ∀ (x0 : S_api_Network) (x1 : (List ByteArray)), ok x0 → ok x1 → m_gridhallkeep4_BlackstartPlans x0 x1 = some true) : Proofs.Ytfmhkgnbceoclaa.Rows.BlackstartPlansSaid :=
  OpenClaim.holds_of_wide 4 Proofs.Try.f4 rfl rfl rfl rfl rfl rfl rfl ⟨rfl, rfl, rfl, rfl, rfl⟩ rfl rfl rfl rfl rfl (by kernel_rfl) Proofs.Try.func4 (by kernel_rfl)
    (of_decide_eq_true (by kernel_rfl)) (by unfold Func.isWrapper; first | (rw [if_pos (by decide +kernel)]; kernel_rfl) | (rw [if_neg (by decide +kernel)]; exact ⟨rfl, rfl⟩))
    (fun os started H enc _ => BlackstartPlans_lifted hp os started H enc)
set_option maxRecDepth 100000 in
theorem BlackstartPaths_lifted (hp : ∀ (x0 : S_api_Network) (x1 : Int) (x2 : Int), ok x0 → i64ok x1 → i64ok x2 → m_gridhallkeep4_BlackstartPaths x0 x1 x2 = some true) (os : Os) (started : os.Started) (Hd : Type) (enc : TypeId × Value → Hd) :
    ReturnsInHanded {} Proofs.Try.checked os 5 .any (Proofs.Ytfmhkgnbceoclaa.Rows.blackstartPathsSpec.pre6 enc Proofs.Try.prog Proofs.Try.f5 Proofs.Ytfmhkgnbceoclaa.Rows.blackstartPathsRow.domain false) (Proofs.Ytfmhkgnbceoclaa.Rows.blackstartPathsSpec.post enc Proofs.Try.prog Proofs.Try.f5 false true false false) := by
  refine returnsInHanded_of_change (C := Proofs.Try.checked) law_own started (by kernel_rfl) Proofs.Try.func5
    (ChangeSpec.witness6 (enc := enc) (C := Proofs.Try.checked) false ⟨#[], #[.agg #[.slice none 0 0, .slice none 0 0, .slice none 0 0, .slice none 0 0, .slice none 0 0, .slice none 0 0], .int .i64 0, .int .i64 0], []⟩ 8 (by kernel_rfl) (by kernel_rfl) (by kernel_rfl) (by kernel_rfl)) ?_
  intro W base args ds gs before hval0 hW hcnd _
  have hval : ∀ (j : Nat) t v, Proofs.Try.f5.params[j]? = some t → args[j]? = some v → Value.okWide Proofs.Try.prog W .any base t v := hval0
  have hW2 : DataW.Whole enc Proofs.Try.prog Proofs.Try.f5.params.toList Proofs.Ytfmhkgnbceoclaa.Rows.blackstartPathsSpec.vars false W args.toList ds gs before := hW
  obtain ⟨p, q, hA0, hV, rfl, hfz, hnd⟩ := hW
  have hA : DataW.TrodAll enc Proofs.Try.prog W 0 (fun _ => true) true Proofs.Try.f5.params.toList args.toList ds p := hA0
  rw [Proofs.Try.params5] at hA hval
  obtain ⟨v0, vs0, d0, ds0, p0, q0, hargs, rfl, rfl, h0, r0⟩ := trodAll_cons hA
  obtain ⟨v1, vs1, d1, ds1, p1, q1, rfl, rfl, rfl, h1, r1⟩ := trodAll_cons r0
  obtain ⟨v2, vs2, d2, ds2, p2, q2, rfl, rfl, rfl, h2, r2⟩ := trodAll_cons r1
  obtain ⟨rfl, rfl, rfl⟩ := trodAll_nil r2
  obtain rfl : args = #[v0, v1, v2] := by cases args; simp_all
  obtain ⟨x0, cs0, rfl, ⟨v0_0, v0_1, v0_2, v0_3, v0_4, v0_5, rfl, e0_0, e0_1, e0_2, e0_3, e0_4, e0_5⟩, ok0⟩ := arg_struct Proofs.Try.underlying29 tread29 (hval 0 29 v0 rfl rfl) h0
  obtain ⟨x1, rfl, ok1⟩ := arg_int Proofs.Try.underlying3 (hval 1 3 v1 rfl rfl) h1
  obtain ⟨x2, rfl, ok2⟩ := arg_int Proofs.Try.underlying3 (hval 2 3 v2 rfl rfl) h2
  have hc := m_gridhallkeep4_BlackstartPaths_c (hp x0 x1 x2 ok0 ok1 ok2) e0_0 e0_1 e0_2 e0_3 e0_4 e0_5 (St.begin W)
  refine hc.mono fun e W' h => ?_
  cases e with
  | returned v =>
    obtain ⟨H', M', hst, hphi⟩ := h
    obtain ⟨_, _, rfl⟩ := hphi
    exact ⟨_, rfl, law_post law_laid rfl rfl Proofs.Try.underlying4 (by kernel_rfl) hW2 (fun _ => rfl) hst.below⟩
  | _ => exact h.elim
theorem BlackstartPaths_law (hp : ∀ (x0 : S_api_Network) (x1 : Int) (x2 : Int), ok x0 → i64ok x1 → i64ok x2 → m_gridhallkeep4_BlackstartPaths x0 x1 x2 = some true) : Proofs.Ytfmhkgnbceoclaa.Rows.BlackstartPathsSaid :=
  OpenClaim.holds_of_wide 5 Proofs.Try.f5 rfl rfl rfl rfl rfl rfl rfl ⟨rfl, rfl, rfl, rfl, rfl⟩ rfl rfl rfl rfl rfl (by kernel_rfl) Proofs.Try.func5 (by kernel_rfl)
    (of_decide_eq_true (by kernel_rfl)) (by unfold Func.isWrapper; first | (rw [if_pos (by decide +kernel)]; kernel_rfl) | (rw [if_neg (by decide +kernel)]; exact ⟨rfl, rfl⟩))
    (fun os started H enc _ => BlackstartPaths_lifted hp os started H enc)
end Go.Sim
