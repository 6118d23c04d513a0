/-
  Printed by a program: from the models to the given statements.
-/
import Derived.Test.YtilchbhmaflhfaaDoorConL
import Derived.Test.YtilchbhmaflhfaaDoorSimL
import Derived.OpenShut
import Derived.HandedShaped
import Derived.Handed
import Derived.Lay
import Derived.LaidByTextLater
import Derived.Stop.LaidErr
namespace Go.Sim
open Go Go.RowKit Go.ChangeShapes Go.WideShapes Go.ChangeAt
set_option linter.unusedVariables false
theorem law_own : ownKnob Proofs.Tryd.prog.godebug = none := by kernel_rfl
theorem law_laid : laidOutB Proofs.Tryd.prog = true := by kernel_rfl
instance : Ok S_api_SwingIsland := ⟨fun x => ok x.Inertia ∧ ok x.Damping ∧ ok x.Supply ∧ ok x.Demand ∧ ok x.Frequency⟩
theorem tread24 : Tread Proofs.Tryd.prog 24 S_api_SwingIsland := by
  intro Hd enc w fuel cs d h
  obtain ⟨xs, n, rfl, rfl, hl, hlen, hf⟩ := DataW.trod_struct Proofs.Tryd.underlying24 h
  obtain ⟨x0, e0, o0⟩ := field_tread (α := Int) hlen hf 0 (o := 0) rfl rfl (by kernel_rfl) (tread_int Proofs.Tryd.underlying3)
  obtain ⟨x1, e1, o1⟩ := field_tread (α := Int) hlen hf 1 (o := 1) rfl rfl (by kernel_rfl) (tread_int Proofs.Tryd.underlying3)
  obtain ⟨x2, e2, o2⟩ := field_tread (α := Int) hlen hf 2 (o := 2) rfl rfl (by kernel_rfl) (tread_int Proofs.Tryd.underlying3)
  obtain ⟨x3, e3, o3⟩ := field_tread (α := Int) hlen hf 3 (o := 3) rfl rfl (by kernel_rfl) (tread_int Proofs.Tryd.underlying3)
  obtain ⟨x4, e4, o4⟩ := field_tread (α := ByteArray) hlen hf 4 (o := 4) rfl rfl (by kernel_rfl) (tread_string Proofs.Tryd.underlying22)
  exact ⟨⟨x0, x1, x2, x3, x4⟩, piece (o := 0) e0 (by rfl) (piece (o := 1) e1 (by rfl) (piece (o := 2) e2 (by rfl) (piece (o := 3) e3 (by rfl) (piece (o := 4) e4 (by rfl) (piece_end hl (by kernel_rfl)))))), ⟨o0, o1, o2, o3, o4⟩⟩
theorem SwingSteady_tabs {W : World} (h0 : laidMetH Proofs.Tryd.prog Proofs.YtilchbhmaflhfaaDoor.Rows.swingSteadyRow.laid W) : Tabs W.heap.size W := by
  rw [MakeChecks.laidMetH_plain _ _ _ (by kernel_rfl)] at h0
  have t4 : Lib.TabIs Proofs.Tryd.prog W "math/bits.deBruijn32tab" .u8 gt4 := Lib.tabIs_of_head gn4 (by kernel_rfl : (Proofs.Tryd.prog.globals[4]?).map (·.type) = some 148) Proofs.Tryd.underlying148 Proofs.Tryd.underlying5 (by kernel_rfl) (by kernel_rfl) (show laidMet Proofs.Tryd.prog (("math/bits.deBruijn32tab", Lib.tabData .u8 gt4) :: _) W from h0)
  have h1 := laidMet.tail h0
  have t5 : Lib.TabIs Proofs.Tryd.prog W "math/bits.deBruijn64tab" .u8 gt5 := Lib.tabIs_of_head gn5 (by kernel_rfl : (Proofs.Tryd.prog.globals[5]?).map (·.type) = some 149) Proofs.Tryd.underlying149 Proofs.Tryd.underlying5 (by kernel_rfl) (by kernel_rfl) (show laidMet Proofs.Tryd.prog (("math/bits.deBruijn64tab", Lib.tabData .u8 gt5) :: _) W from h1)
  have h2 := laidMet.tail h1
  have t3 : Lib.TabIs Proofs.Tryd.prog W "internal/strconv.uint64pow10" .u64 gt3 := Lib.tabIs_of_head gn3 (by kernel_rfl : (Proofs.Tryd.prog.globals[3]?).map (·.type) = some 140) Proofs.Tryd.underlying140 Proofs.Tryd.underlying84 (by kernel_rfl) (by kernel_rfl) (show laidMet Proofs.Tryd.prog (("internal/strconv.uint64pow10", Lib.tabData .u64 gt3) :: _) W from h2)
  have h3 := laidMet.tail h2
  have star : "*" ++ "errors.errorString" = "*errors.errorString" := by decide
  have rowe : ∀ u, Proofs.Tryd.prog.typeName? 3 u = some "*errors.errorString" → u = 144 := fun u h => typeName_ptr_named (nm := "errors.errorString") (by rw [star]; kernel_rfl) (by kernel_rfl) (by decide) u (by rw [star]; exact h)
  obtain ⟨a2, s2, e2, -⟩ := laid_sentinel h3 gn2 (by kernel_rfl : (Proofs.Tryd.prog.globals[2]?).map (·.type) = some 93) Proofs.Tryd.underlying93 rowe Proofs.Tryd.underlying144 Proofs.Tryd.underlying146 rfl rfl Proofs.Tryd.underlying9 (by kernel_rfl) (by kernel_rfl)
  have h4 := laidMet.tail h3
  obtain ⟨a1, s1, e1, -⟩ := laid_sentinel h4 gn1 (by kernel_rfl : (Proofs.Tryd.prog.globals[1]?).map (·.type) = some 93) Proofs.Tryd.underlying93 rowe Proofs.Tryd.underlying144 Proofs.Tryd.underlying146 rfl rfl Proofs.Tryd.underlying9 (by kernel_rfl) (by kernel_rfl)
  exact { lt := var_lt gn5 t5, t4 := t4, t5 := t5, t3 := t3, e2 := ⟨_, _, e2⟩, e1 := ⟨_, _, e1⟩ }
set_option maxRecDepth 100000 in
theorem SwingSteady_lifted (hp : ∀ (x0 : S_api_SwingIsland), ok x0 → m_gridhallkeep4_SwingSteady x0 = some true) (os : Os) (started : os.Started) (Hd : Type) (enc : TypeId × Value → Hd) :
    ReturnsInHanded {} Proofs.Tryd.checked os 3 .any (fun w args => (Proofs.YtilchbhmaflhfaaDoor.Rows.swingSteadySpec.pre enc Proofs.Tryd.prog Proofs.Tryd.f3 Proofs.YtilchbhmaflhfaaDoor.Rows.swingSteadyRow.domain false w args ∧ laidMetH Proofs.Tryd.prog Proofs.YtilchbhmaflhfaaDoor.Rows.swingSteadyRow.laid w) ∧ sizedMet enc Proofs.Tryd.prog Proofs.Tryd.f3 (OpenSpec.ofChange Proofs.YtilchbhmaflhfaaDoor.Rows.swingSteadySpec) false w args) (Proofs.YtilchbhmaflhfaaDoor.Rows.swingSteadySpec.post enc Proofs.Tryd.prog Proofs.Tryd.f3 false true false false) := by
  refine returnsInHanded_of_change_and (C := Proofs.Tryd.checked) (X := fun w _ => laidMetH Proofs.Tryd.prog Proofs.YtilchbhmaflhfaaDoor.Rows.swingSteadyRow.laid w) (fun _ _ _ hh h => h.of_heap hh) law_own started (by kernel_rfl) Proofs.Tryd.func3
    (ChangeSpec.witness_shaped (enc := enc) (C := Proofs.Tryd.checked) (os := os) (X := fun w _ => laidMetH Proofs.Tryd.prog Proofs.YtilchbhmaflhfaaDoor.Rows.swingSteadyRow.laid w) false (World.laidAll Proofs.Tryd.prog os Proofs.YtilchbhmaflhfaaDoor.Rows.swingSteadyRow.laid) #[.agg #[.int .i64 0, .int .i64 0, .int .i64 0, .int .i64 0, .string ⟨#[]⟩]] 8 (World.laidAll_os _ _ _)
      (World.shaped_of_ZipB (by kernel_rfl) (by kernel_rfl)) (by kernel_rfl) (by kernel_rfl) (by kernel_rfl)
      (by rw [MakeChecks.laidMetH_plain _ _ _ (by kernel_rfl)]; exact laidMet_laidAll _ (by kernel_rfl) (by kernel_rfl))) ?_
  intro W base args ds gs before hval0 hW hcnd _ hL _
  have hval : ∀ (j : Nat) t v, Proofs.Tryd.f3.params[j]? = some t → args[j]? = some v → Value.okWide Proofs.Tryd.prog W .any base t v := hval0
  haveI : Tabs W.heap.size W := SwingSteady_tabs hL
  have hW2 : DataW.Whole enc Proofs.Tryd.prog Proofs.Tryd.f3.params.toList Proofs.YtilchbhmaflhfaaDoor.Rows.swingSteadySpec.vars false W args.toList ds gs before := hW
  obtain ⟨p, q, hA0, hV, rfl, hfz, hnd⟩ := hW
  have hA : DataW.TrodAll enc Proofs.Tryd.prog W 0 (fun _ => true) true Proofs.Tryd.f3.params.toList args.toList ds p := hA0
  rw [Proofs.Tryd.params3] at hA hval
  obtain ⟨v0, vs0, d0, ds0, p0, q0, hargs, rfl, rfl, h0, r0⟩ := trodAll_cons hA
  obtain ⟨rfl, rfl, rfl⟩ := trodAll_nil r0
  obtain rfl : args = #[v0] := by cases args; simp_all
  obtain ⟨x0, cs0, rfl, rfl, ok0⟩ := arg_struct Proofs.Tryd.underlying24 tread24 (hval 0 24 v0 rfl rfl) h0
  have hc := m_gridhallkeep4_SwingSteady_c (hp x0 ok0)  (St.begin W)
  refine hc.mono fun e W' h => ?_
  cases e with
  | returned v =>
    obtain ⟨H', M', hst, hphi⟩ := h
    obtain ⟨_, _, rfl⟩ := hphi
    exact ⟨_, rfl, law_post law_laid rfl rfl Proofs.Tryd.underlying4 (by kernel_rfl) hW2 (fun _ => rfl) hst.below⟩
  | _ => exact h.elim
theorem SwingSteady_law (hp : ∀ (x0 : S_api_SwingIsland), ok x0 → m_gridhallkeep4_SwingSteady x0 = some true) : Proofs.YtilchbhmaflhfaaDoor.Rows.SwingSteadySaid :=
  OpenClaim.holds_of_wide 3 Proofs.Tryd.f3 rfl rfl rfl rfl rfl rfl rfl ⟨rfl, rfl, rfl, rfl, rfl⟩ rfl rfl rfl rfl rfl (by kernel_rfl) Proofs.Tryd.func3 (by kernel_rfl)
    (of_decide_eq_true (by kernel_rfl)) (by unfold Func.isWrapper; first | (rw [if_pos (by decide +kernel)]; kernel_rfl) | (rw [if_neg (by decide +kernel)]; exact ⟨rfl, rfl⟩))
    (fun os started H enc _ => SwingSteady_lifted hp os started H enc)
theorem SwingMomentum_tabs {W : World} (h0 : laidMetH Proofs.Tryd.prog Proofs.YtilchbhmaflhfaaDoor.Rows.swingMomentumRow.laid W) : Tabs W.heap.size W := by
  rw [MakeChecks.laidMetH_plain _ _ _ (by kernel_rfl)] at h0
  have t4 : Lib.TabIs Proofs.Tryd.prog W "math/bits.deBruijn32tab" .u8 gt4 := Lib.tabIs_of_head gn4 (by kernel_rfl : (Proofs.Tryd.prog.globals[4]?).map (·.type) = some 148) Proofs.Tryd.underlying148 Proofs.Tryd.underlying5 (by kernel_rfl) (by kernel_rfl) (show laidMet Proofs.Tryd.prog (("math/bits.deBruijn32tab", Lib.tabData .u8 gt4) :: _) W from h0)
  have h1 := laidMet.tail h0
  have t5 : Lib.TabIs Proofs.Tryd.prog W "math/bits.deBruijn64tab" .u8 gt5 := Lib.tabIs_of_head gn5 (by kernel_rfl : (Proofs.Tryd.prog.globals[5]?).map (·.type) = some 149) Proofs.Tryd.underlying149 Proofs.Tryd.underlying5 (by kernel_rfl) (by kernel_rfl) (show laidMet Proofs.Tryd.prog (("math/bits.deBruijn64tab", Lib.tabData .u8 gt5) :: _) W from h1)
  have h2 := laidMet.tail h1
  have t3 : Lib.TabIs Proofs.Tryd.prog W "internal/strconv.uint64pow10" .u64 gt3 := Lib.tabIs_of_head gn3 (by kernel_rfl : (Proofs.Tryd.prog.globals[3]?).map (·.type) = some 140) Proofs.Tryd.underlying140 Proofs.Tryd.underlying84 (by kernel_rfl) (by kernel_rfl) (show laidMet Proofs.Tryd.prog (("internal/strconv.uint64pow10", Lib.tabData .u64 gt3) :: _) W from h2)
  have h3 := laidMet.tail h2
  have star : "*" ++ "errors.errorString" = "*errors.errorString" := by decide
  have rowe : ∀ u, Proofs.Tryd.prog.typeName? 3 u = some "*errors.errorString" → u = 144 := fun u h => typeName_ptr_named (nm := "errors.errorString") (by rw [star]; kernel_rfl) (by kernel_rfl) (by decide) u (by rw [star]; exact h)
  obtain ⟨a2, s2, e2, -⟩ := laid_sentinel h3 gn2 (by kernel_rfl : (Proofs.Tryd.prog.globals[2]?).map (·.type) = some 93) Proofs.Tryd.underlying93 rowe Proofs.Tryd.underlying144 Proofs.Tryd.underlying146 rfl rfl Proofs.Tryd.underlying9 (by kernel_rfl) (by kernel_rfl)
  have h4 := laidMet.tail h3
  obtain ⟨a1, s1, e1, -⟩ := laid_sentinel h4 gn1 (by kernel_rfl : (Proofs.Tryd.prog.globals[1]?).map (·.type) = some 93) Proofs.Tryd.underlying93 rowe Proofs.Tryd.underlying144 Proofs.Tryd.underlying146 rfl rfl Proofs.Tryd.underlying9 (by kernel_rfl) (by kernel_rfl)
  exact { lt := var_lt gn5 t5, t4 := t4, t5 := t5, t3 := t3, e2 := ⟨_, _, e2⟩, e1 := ⟨_, _, e1⟩ }
set_option maxRecDepth 100000 in
theorem SwingMomentum_lifted (hp : ∀ (x0 : S_api_SwingIsland), ok x0 → m_gridhallkeep4_SwingMomentum x0 = some true) (os : Os) (started : os.Started) (Hd : Type) (enc : TypeId × Value → Hd) :
    ReturnsInHanded {} Proofs.Tryd.checked os 4 .any (fun w args => (Proofs.YtilchbhmaflhfaaDoor.Rows.swingMomentumSpec.pre enc Proofs.Tryd.prog Proofs.Tryd.f4 Proofs.YtilchbhmaflhfaaDoor.Rows.swingMomentumRow.domain false w args ∧ laidMetH Proofs.Tryd.prog Proofs.YtilchbhmaflhfaaDoor.Rows.swingMomentumRow.laid w) ∧ sizedMet enc Proofs.Tryd.prog Proofs.Tryd.f4 (OpenSpec.ofChange Proofs.YtilchbhmaflhfaaDoor.Rows.swingMomentumSpec) false w args) (Proofs.YtilchbhmaflhfaaDoor.Rows.swingMomentumSpec.post enc Proofs.Tryd.prog Proofs.Tryd.f4 false true false false) := by
  refine returnsInHanded_of_change_and (C := Proofs.Tryd.checked) (X := fun w _ => laidMetH Proofs.Tryd.prog Proofs.YtilchbhmaflhfaaDoor.Rows.swingMomentumRow.laid w) (fun _ _ _ hh h => h.of_heap hh) law_own started (by kernel_rfl) Proofs.Tryd.func4
    (ChangeSpec.witness_shaped (enc := enc) (C := Proofs.Tryd.checked) (os := os) (X := fun w _ => laidMetH Proofs.Tryd.prog Proofs.YtilchbhmaflhfaaDoor.Rows.swingMomentumRow.laid w) false (World.laidAll Proofs.Tryd.prog os Proofs.YtilchbhmaflhfaaDoor.Rows.swingMomentumRow.laid) #[.agg #[.int .i64 0, .int .i64 0, .int .i64 0, .int .i64 0, .string ⟨#[]⟩]] 8 (World.laidAll_os _ _ _)
      (World.shaped_of_ZipB (by kernel_rfl) (by kernel_rfl)) (by kernel_rfl) (by kernel_rfl) (by kernel_rfl)
      (by rw [MakeChecks.laidMetH_plain _ _ _ (by kernel_rfl)]; exact laidMet_laidAll _ (by kernel_rfl) (by kernel_rfl))) ?_
  intro W base args ds gs before hval0 hW hcnd _ hL _
  have hval : ∀ (j : Nat) t v, Proofs.Tryd.f4.params[j]? = some t → args[j]? = some v → Value.okWide Proofs.Tryd.prog W .any base t v := hval0
  haveI : Tabs W.heap.size W := SwingMomentum_tabs hL
  have hW2 : DataW.Whole enc Proofs.Tryd.prog Proofs.Tryd.f4.params.toList Proofs.YtilchbhmaflhfaaDoor.Rows.swingMomentumSpec.vars false W args.toList ds gs before := hW
  obtain ⟨p, q, hA0, hV, rfl, hfz, hnd⟩ := hW
  have hA : DataW.TrodAll enc Proofs.Tryd.prog W 0 (fun _ => true) true Proofs.Tryd.f4.params.toList args.toList ds p := hA0
  rw [Proofs.Tryd.params4] at hA hval
  obtain ⟨v0, vs0, d0, ds0, p0, q0, hargs, rfl, rfl, h0, r0⟩ := trodAll_cons hA
  obtain ⟨rfl, rfl, rfl⟩ := trodAll_nil r0
  obtain rfl : args = #[v0] := by cases args; simp_all
  obtain ⟨x0, cs0, rfl, rfl, ok0⟩ := arg_struct Proofs.Tryd.underlying24 tread24 (hval 0 24 v0 rfl rfl) h0
  have hc := m_gridhallkeep4_SwingMomentum_c (hp x0 ok0)  (St.begin W)
  refine hc.mono fun e W' h => ?_
  cases e with
  | returned v =>
    obtain ⟨H', M', hst, hphi⟩ := h
    obtain ⟨_, _, rfl⟩ := hphi
    exact ⟨_, rfl, law_post law_laid rfl rfl Proofs.Tryd.underlying4 (by kernel_rfl) hW2 (fun _ => rfl) hst.below⟩
  | _ => exact h.elim
theorem SwingMomentum_law (hp : ∀ (x0 : S_api_SwingIsland), ok x0 → m_gridhallkeep4_SwingMomentum x0 = some true) : Proofs.YtilchbhmaflhfaaDoor.Rows.SwingMomentumSaid :=
  OpenClaim.holds_of_wide 4 Proofs.Tryd.f4 rfl rfl rfl rfl rfl rfl rfl ⟨rfl, rfl, rfl, rfl, rfl⟩ rfl rfl rfl rfl rfl (by kernel_rfl) Proofs.Tryd.func4 (by kernel_rfl)
    (of_decide_eq_true (by kernel_rfl)) (by unfold Func.isWrapper; first | (rw [if_pos (by decide +kernel)]; kernel_rfl) | (rw [if_neg (by decide +kernel)]; exact ⟨rfl, rfl⟩))
    (fun os started H enc _ => SwingMomentum_lifted hp os started H enc)
theorem SwingNearer_tabs {W : World} (h0 : laidMetH Proofs.Tryd.prog Proofs.YtilchbhmaflhfaaDoor.Rows.swingNearerRow.laid W) : Tabs W.heap.size W := by
  rw [MakeChecks.laidMetH_plain _ _ _ (by kernel_rfl)] at h0
  have t4 : Lib.TabIs Proofs.Tryd.prog W "math/bits.deBruijn32tab" .u8 gt4 := Lib.tabIs_of_head gn4 (by kernel_rfl : (Proofs.Tryd.prog.globals[4]?).map (·.type) = some 148) Proofs.Tryd.underlying148 Proofs.Tryd.underlying5 (by kernel_rfl) (by kernel_rfl) (show laidMet Proofs.Tryd.prog (("math/bits.deBruijn32tab", Lib.tabData .u8 gt4) :: _) W from h0)
  have h1 := laidMet.tail h0
  have t5 : Lib.TabIs Proofs.Tryd.prog W "math/bits.deBruijn64tab" .u8 gt5 := Lib.tabIs_of_head gn5 (by kernel_rfl : (Proofs.Tryd.prog.globals[5]?).map (·.type) = some 149) Proofs.Tryd.underlying149 Proofs.Tryd.underlying5 (by kernel_rfl) (by kernel_rfl) (show laidMet Proofs.Tryd.prog (("math/bits.deBruijn64tab", Lib.tabData .u8 gt5) :: _) W from h1)
  have h2 := laidMet.tail h1
  have t3 : Lib.TabIs Proofs.Tryd.prog W "internal/strconv.uint64pow10" .u64 gt3 := Lib.tabIs_of_head gn3 (by kernel_rfl : (Proofs.Tryd.prog.globals[3]?).map (·.type) = some 140) Proofs.Tryd.underlying140 Proofs.Tryd.underlying84 (by kernel_rfl) (by kernel_rfl) (show laidMet Proofs.Tryd.prog (("internal/strconv.uint64pow10", Lib.tabData .u64 gt3) :: _) W from h2)
  have h3 := laidMet.tail h2
  have star : "*" ++ "errors.errorString" = "*errors.errorString" := by decide
  have rowe : ∀ u, Proofs.Tryd.prog.typeName? 3 u = some "*errors.errorString" → u = 144 := fun u h => typeName_ptr_named (nm := "errors.errorString") (by rw [star]; kernel_rfl) (by kernel_rfl) (by decide) u (by rw [star]; exact h)
  obtain ⟨a2, s2, e2, -⟩ := laid_sentinel h3 gn2 (by kernel_rfl : (Proofs.Tryd.prog.globals[2]?).map (·.type) = some 93) Proofs.Tryd.underlying93 rowe Proofs.Tryd.underlying144 Proofs.Tryd.underlying146 rfl rfl Proofs.Tryd.underlying9 (by kernel_rfl) (by kernel_rfl)
  have h4 := laidMet.tail h3
  obtain ⟨a1, s1, e1, -⟩ := laid_sentinel h4 gn1 (by kernel_rfl : (Proofs.Tryd.prog.globals[1]?).map (·.type) = some 93) Proofs.Tryd.underlying93 rowe Proofs.Tryd.underlying144 Proofs.Tryd.underlying146 rfl rfl Proofs.Tryd.underlying9 (by kernel_rfl) (by kernel_rfl)
  exact { lt := var_lt gn5 t5, t4 := t4, t5 := t5, t3 := t3, e2 := ⟨_, _, e2⟩, e1 := ⟨_, _, e1⟩ }
set_option maxRecDepth 100000 in
theorem SwingNearer_lifted (hp : ∀ (x0 : S_api_SwingIsland), ok x0 → m_gridhallkeep4_SwingNearer x0 = some true) (os : Os) (started : os.Started) (Hd : Type) (enc : TypeId × Value → Hd) :
    ReturnsInHanded {} Proofs.Tryd.checked os 5 .any (fun w args => (Proofs.YtilchbhmaflhfaaDoor.Rows.swingNearerSpec.pre enc Proofs.Tryd.prog Proofs.Tryd.f5 Proofs.YtilchbhmaflhfaaDoor.Rows.swingNearerRow.domain false w args ∧ laidMetH Proofs.Tryd.prog Proofs.YtilchbhmaflhfaaDoor.Rows.swingNearerRow.laid w) ∧ sizedMet enc Proofs.Tryd.prog Proofs.Tryd.f5 (OpenSpec.ofChange Proofs.YtilchbhmaflhfaaDoor.Rows.swingNearerSpec) false w args) (Proofs.YtilchbhmaflhfaaDoor.Rows.swingNearerSpec.post enc Proofs.Tryd.prog Proofs.Tryd.f5 false true false false) := by
  refine returnsInHanded_of_change_and (C := Proofs.Tryd.checked) (X := fun w _ => laidMetH Proofs.Tryd.prog Proofs.YtilchbhmaflhfaaDoor.Rows.swingNearerRow.laid w) (fun _ _ _ hh h => h.of_heap hh) law_own started (by kernel_rfl) Proofs.Tryd.func5
    (ChangeSpec.witness_shaped (enc := enc) (C := Proofs.Tryd.checked) (os := os) (X := fun w _ => laidMetH Proofs.Tryd.prog Proofs.YtilchbhmaflhfaaDoor.Rows.swingNearerRow.laid w) false (World.laidAll Proofs.Tryd.prog os Proofs.YtilchbhmaflhfaaDoor.Rows.swingNearerRow.laid) #[.agg #[.int .i64 0, .int .i64 0, .int .i64 0, .int .i64 0, .string ⟨#[]⟩]] 8 (World.laidAll_os _ _ _)
      (World.shaped_of_ZipB (by kernel_rfl) (by kernel_rfl)) (by kernel_rfl) (by kernel_rfl) (by kernel_rfl)
      (by rw [MakeChecks.laidMetH_plain _ _ _ (by kernel_rfl)]; exact laidMet_laidAll _ (by kernel_rfl) (by kernel_rfl))) ?_
  intro W base args ds gs before hval0 hW hcnd _ hL _
  have hval : ∀ (j : Nat) t v, Proofs.Tryd.f5.params[j]? = some t → args[j]? = some v → Value.okWide Proofs.Tryd.prog W .any base t v := hval0
  haveI : Tabs W.heap.size W := SwingNearer_tabs hL
  have hW2 : DataW.Whole enc Proofs.Tryd.prog Proofs.Tryd.f5.params.toList Proofs.YtilchbhmaflhfaaDoor.Rows.swingNearerSpec.vars false W args.toList ds gs before := hW
  obtain ⟨p, q, hA0, hV, rfl, hfz, hnd⟩ := hW
  have hA : DataW.TrodAll enc Proofs.Tryd.prog W 0 (fun _ => true) true Proofs.Tryd.f5.params.toList args.toList ds p := hA0
  rw [Proofs.Tryd.params5] at hA hval
  obtain ⟨v0, vs0, d0, ds0, p0, q0, hargs, rfl, rfl, h0, r0⟩ := trodAll_cons hA
  obtain ⟨rfl, rfl, rfl⟩ := trodAll_nil r0
  obtain rfl : args = #[v0] := by cases args; simp_all
  obtain ⟨x0, cs0, rfl, rfl, ok0⟩ := arg_struct Proofs.Tryd.underlying24 tread24 (hval 0 24 v0 rfl rfl) h0
  have hc := m_gridhallkeep4_SwingNearer_c (hp x0 ok0)  (St.begin W)
  refine hc.mono fun e W' h => ?_
  cases e with
  | returned v =>
    obtain ⟨H', M', hst, hphi⟩ := h
    obtain ⟨_, _, rfl⟩ := hphi
    exact ⟨_, rfl, law_post law_laid rfl rfl Proofs.Tryd.underlying4 (by kernel_rfl) hW2 (fun _ => rfl) hst.below⟩
  | _ => exact h.elim
theorem SwingNearer_law (hp : ∀ (x0 : S_api_SwingIsland), ok x0 → m_gridhallkeep4_SwingNearer x0 = some true) : Proofs.YtilchbhmaflhfaaDoor.Rows.SwingNearerSaid :=
  OpenClaim.holds_of_wide 5 Proofs.Tryd.f5 rfl rfl rfl rfl rfl rfl rfl ⟨rfl, rfl, rfl, rfl, rfl⟩ rfl rfl rfl rfl rfl (by kernel_rfl) Proofs.Tryd.func5 (by kernel_rfl)
    (of_decide_eq_true (by kernel_rfl)) (by unfold Func.isWrapper; first | (rw [if_pos (by decide +kernel)]; kernel_rfl) | (rw [if_neg (by decide +kernel)]; exact ⟨rfl, rfl⟩))
    (fun os started H enc _ => SwingNearer_lifted hp os started H enc)
theorem SwingJoins_tabs {W : World} (h0 : laidMetH Proofs.Tryd.prog Proofs.YtilchbhmaflhfaaDoor.Rows.swingJoinsRow.laid W) : Tabs W.heap.size W := by
  rw [MakeChecks.laidMetH_plain _ _ _ (by kernel_rfl)] at h0
  have t4 : Lib.TabIs Proofs.Tryd.prog W "math/bits.deBruijn32tab" .u8 gt4 := Lib.tabIs_of_head gn4 (by kernel_rfl : (Proofs.Tryd.prog.globals[4]?).map (·.type) = some 148) Proofs.Tryd.underlying148 Proofs.Tryd.underlying5 (by kernel_rfl) (by kernel_rfl) (show laidMet Proofs.Tryd.prog (("math/bits.deBruijn32tab", Lib.tabData .u8 gt4) :: _) W from h0)
  have h1 := laidMet.tail h0
  have t5 : Lib.TabIs Proofs.Tryd.prog W "math/bits.deBruijn64tab" .u8 gt5 := Lib.tabIs_of_head gn5 (by kernel_rfl : (Proofs.Tryd.prog.globals[5]?).map (·.type) = some 149) Proofs.Tryd.underlying149 Proofs.Tryd.underlying5 (by kernel_rfl) (by kernel_rfl) (show laidMet Proofs.Tryd.prog (("math/bits.deBruijn64tab", Lib.tabData .u8 gt5) :: _) W from h1)
  have h2 := laidMet.tail h1
  have t3 : Lib.TabIs Proofs.Tryd.prog W "internal/strconv.uint64pow10" .u64 gt3 := Lib.tabIs_of_head gn3 (by kernel_rfl : (Proofs.Tryd.prog.globals[3]?).map (·.type) = some 140) Proofs.Tryd.underlying140 Proofs.Tryd.underlying84 (by kernel_rfl) (by kernel_rfl) (show laidMet Proofs.Tryd.prog (("internal/strconv.uint64pow10", Lib.tabData .u64 gt3) :: _) W from h2)
  have h3 := laidMet.tail h2
  have star : "*" ++ "errors.errorString" = "*errors.errorString" := by decide
  have rowe : ∀ u, Proofs.Tryd.prog.typeName? 3 u = some "*errors.errorString" → u = 144 := fun u h => typeName_ptr_named (nm := "errors.errorString") (by rw [star]; kernel_rfl) (by kernel_rfl) (by decide) u (by rw [star]; exact h)
  obtain ⟨a2, s2, e2, -⟩ := laid_sentinel h3 gn2 (by kernel_rfl : (Proofs.Tryd.prog.globals[2]?).map (·.type) = some 93) Proofs.Tryd.underlying93 rowe Proofs.Tryd.underlying144 Proofs.Tryd.underlying146 rfl rfl Proofs.Tryd.underlying9 (by kernel_rfl) (by kernel_rfl)
  have h4 := laidMet.tail h3
  obtain ⟨a1, s1, e1, -⟩ := laid_sentinel h4 gn1 (by kernel_rfl : (Proofs.Tryd.prog.globals[1]?).map (·.type) = some 93) Proofs.Tryd.underlying93 rowe Proofs.Tryd.underlying144 Proofs.Tryd.underlying146 rfl rfl Proofs.Tryd.underlying9 (by kernel_rfl) (by kernel_rfl)
  exact { lt := var_lt gn5 t5, t4 := t4, t5 := t5, t3 := t3, e2 := ⟨_, _, e2⟩, e1 := ⟨_, _, e1⟩ }
set_option maxRecDepth 100000 in
theorem SwingJoins_lifted (hp : ∀ (x0 : S_api_SwingIsland) (x1 : S_api_SwingIsland), ok x0 → ok x1 → m_gridhallkeep4_SwingJoins x0 x1 = some true) (os : Os) (started : os.Started) (Hd : Type) (enc : TypeId × Value → Hd) :
    ReturnsInHanded {} Proofs.Tryd.checked os 6 .any (fun w args => (Proofs.YtilchbhmaflhfaaDoor.Rows.swingJoinsSpec.pre enc Proofs.Tryd.prog Proofs.Tryd.f6 Proofs.YtilchbhmaflhfaaDoor.Rows.swingJoinsRow.domain false w args ∧ laidMetH Proofs.Tryd.prog Proofs.YtilchbhmaflhfaaDoor.Rows.swingJoinsRow.laid w) ∧ sizedMet enc Proofs.Tryd.prog Proofs.Tryd.f6 (OpenSpec.ofChange Proofs.YtilchbhmaflhfaaDoor.Rows.swingJoinsSpec) false w args) (Proofs.YtilchbhmaflhfaaDoor.Rows.swingJoinsSpec.post enc Proofs.Tryd.prog Proofs.Tryd.f6 false true false false) := by
  refine returnsInHanded_of_change_and (C := Proofs.Tryd.checked) (X := fun w _ => laidMetH Proofs.Tryd.prog Proofs.YtilchbhmaflhfaaDoor.Rows.swingJoinsRow.laid w) (fun _ _ _ hh h => h.of_heap hh) law_own started (by kernel_rfl) Proofs.Tryd.func6
    (ChangeSpec.witness_shaped (enc := enc) (C := Proofs.Tryd.checked) (os := os) (X := fun w _ => laidMetH Proofs.Tryd.prog Proofs.YtilchbhmaflhfaaDoor.Rows.swingJoinsRow.laid w) false (World.laidAll Proofs.Tryd.prog os Proofs.YtilchbhmaflhfaaDoor.Rows.swingJoinsRow.laid) #[.agg #[.int .i64 0, .int .i64 0, .int .i64 0, .int .i64 0, .string ⟨#[]⟩], .agg #[.int .i64 0, .int .i64 0, .int .i64 0, .int .i64 0, .string ⟨#[]⟩]] 8 (World.laidAll_os _ _ _)
      (World.shaped_of_ZipB (by kernel_rfl) (by kernel_rfl)) (by kernel_rfl) (by kernel_rfl) (by kernel_rfl)
      (by rw [MakeChecks.laidMetH_plain _ _ _ (by kernel_rfl)]; exact laidMet_laidAll _ (by kernel_rfl) (by kernel_rfl))) ?_
  intro W base args ds gs before hval0 hW hcnd _ hL _
  have hval : ∀ (j : Nat) t v, Proofs.Tryd.f6.params[j]? = some t → args[j]? = some v → Value.okWide Proofs.Tryd.prog W .any base t v := hval0
  haveI : Tabs W.heap.size W := SwingJoins_tabs hL
  have hW2 : DataW.Whole enc Proofs.Tryd.prog Proofs.Tryd.f6.params.toList Proofs.YtilchbhmaflhfaaDoor.Rows.swingJoinsSpec.vars false W args.toList ds gs before := hW
  obtain ⟨p, q, hA0, hV, rfl, hfz, hnd⟩ := hW
  have hA : DataW.TrodAll enc Proofs.Tryd.prog W 0 (fun _ => true) true Proofs.Tryd.f6.params.toList args.toList ds p := hA0
  rw [Proofs.Tryd.params6] at hA hval
  obtain ⟨v0, vs0, d0, ds0, p0, q0, hargs, rfl, rfl, h0, r0⟩ := trodAll_cons hA
  obtain ⟨v1, vs1, d1, ds1, p1, q1, rfl, rfl, rfl, h1, r1⟩ := trodAll_cons r0
  obtain ⟨rfl, rfl, rfl⟩ := trodAll_nil r1
  obtain rfl : args = #[v0, v1] := by cases args; simp_all
  obtain ⟨x0, cs0, rfl, rfl, ok0⟩ := arg_struct Proofs.Tryd.underlying24 tread24 (hval 0 24 v0 rfl rfl) h0
  obtain ⟨x1, cs1, rfl, rfl, ok1⟩ := arg_struct Proofs.Tryd.underlying24 tread24 (hval 1 24 v1 rfl rfl) h1
  have hc := m_gridhallkeep4_SwingJoins_c (hp x0 x1 ok0 ok1)  (St.begin W)
  refine hc.mono fun e W' h => ?_
  cases e with
  | returned v =>
    obtain ⟨H', M', hst, hphi⟩ := h
    obtain ⟨_, _, rfl⟩ := hphi
    exact ⟨_, rfl, law_post law_laid rfl rfl Proofs.Tryd.underlying4 (by kernel_rfl) hW2 (fun _ => rfl) hst.below⟩
  | _ => exact h.elim
theorem SwingJoins_law (hp : ∀ (x0 : S_api_SwingIsland) (x1 : S_api_SwingIsland), ok x0 → ok x1 → m_gridhallkeep4_SwingJoins x0 x1 = some true) : Proofs.YtilchbhmaflhfaaDoor.Rows.SwingJoinsSaid :=
  OpenClaim.holds_of_wide 6 Proofs.Tryd.f6 rfl rfl rfl rfl rfl rfl rfl ⟨rfl, rfl, rfl, rfl, rfl⟩ rfl rfl rfl rfl rfl (by kernel_rfl) Proofs.Tryd.func6 (by kernel_rfl)
    (of_decide_eq_true (by kernel_rfl)) (by unfold Func.isWrapper; first | (rw [if_pos (by decide +kernel)]; kernel_rfl) | (rw [if_neg (by decide +kernel)]; exact ⟨rfl, rfl⟩))
    (fun os started H enc _ => SwingJoins_lifted hp os started H enc)
theorem SwingParts_tabs {W : World} (h0 : laidMetH Proofs.Tryd.prog Proofs.YtilchbhmaflhfaaDoor.Rows.swingPartsRow.laid W) : Tabs W.heap.size W := by
  rw [MakeChecks.laidMetH_plain _ _ _ (by kernel_rfl)] at h0
  have t4 : Lib.TabIs Proofs.Tryd.prog W "math/bits.deBruijn32tab" .u8 gt4 := Lib.tabIs_of_head gn4 (by kernel_rfl : (Proofs.Tryd.prog.globals[4]?).map (·.type) = some 148) Proofs.Tryd.underlying148 Proofs.Tryd.underlying5 (by kernel_rfl) (by kernel_rfl) (show laidMet Proofs.Tryd.prog (("math/bits.deBruijn32tab", Lib.tabData .u8 gt4) :: _) W from h0)
  have h1 := laidMet.tail h0
  have t5 : Lib.TabIs Proofs.Tryd.prog W "math/bits.deBruijn64tab" .u8 gt5 := Lib.tabIs_of_head gn5 (by kernel_rfl : (Proofs.Tryd.prog.globals[5]?).map (·.type) = some 149) Proofs.Tryd.underlying149 Proofs.Tryd.underlying5 (by kernel_rfl) (by kernel_rfl) (show laidMet Proofs.Tryd.prog (("math/bits.deBruijn64tab", Lib.tabData .u8 gt5) :: _) W from h1)
  have h2 := laidMet.tail h1
  have t3 : Lib.TabIs Proofs.Tryd.prog W "internal/strconv.uint64pow10" .u64 gt3 := Lib.tabIs_of_head gn3 (by kernel_rfl : (Proofs.Tryd.prog.globals[3]?).map (·.type) = some 140) Proofs.Tryd.underlying140 Proofs.Tryd.underlying84 (by kernel_rfl) (by kernel_rfl) (show laidMet Proofs.Tryd.prog (("internal/strconv.uint64pow10", Lib.tabData .u64 gt3) :: _) W from h2)
  have h3 := laidMet.tail h2
  have star : "*" ++ "errors.errorString" = "*errors.errorString" := by decide
  have rowe : ∀ u, Proofs.Tryd.prog.typeName? 3 u = some "*errors.errorString" → u = 144 := fun u h => typeName_ptr_named (nm := "errors.errorString") (by rw [star]; kernel_rfl) (by kernel_rfl) (by decide) u (by rw [star]; exact h)
  obtain ⟨a2, s2, e2, -⟩ := laid_sentinel h3 gn2 (by kernel_rfl : (Proofs.Tryd.prog.globals[2]?).map (·.type) = some 93) Proofs.Tryd.underlying93 rowe Proofs.Tryd.underlying144 Proofs.Tryd.underlying146 rfl rfl Proofs.Tryd.underlying9 (by kernel_rfl) (by kernel_rfl)
  have h4 := laidMet.tail h3
  obtain ⟨a1, s1, e1, -⟩ := laid_sentinel h4 gn1 (by kernel_rfl : (Proofs.Tryd.prog.globals[1]?).map (·.type) = some 93) Proofs.Tryd.underlying93 rowe Proofs.Tryd.underlying144 Proofs.Tryd.underlying146 rfl rfl Proofs.Tryd.underlying9 (by kernel_rfl) (by kernel_rfl)
  exact { lt := var_lt gn5 t5, t4 := t4, t5 := t5, t3 := t3, e2 := ⟨_, _, e2⟩, e1 := ⟨_, _, e1⟩ }
set_option maxRecDepth 100000 in
theorem SwingParts_lifted (hp : ∀ (x0 : S_api_SwingIsland) (x1 : Int) (x2 : Int), ok x0 → i64ok x1 → i64ok x2 → m_gridhallkeep4_SwingParts x0 x1 x2 = some true) (os : Os) (started : os.Started) (Hd : Type) (enc : TypeId × Value → Hd) :
    ReturnsInHanded {} Proofs.Tryd.checked os 7 .any (fun w args => (Proofs.YtilchbhmaflhfaaDoor.Rows.swingPartsSpec.pre enc Proofs.Tryd.prog Proofs.Tryd.f7 Proofs.YtilchbhmaflhfaaDoor.Rows.swingPartsRow.domain false w args ∧ laidMetH Proofs.Tryd.prog Proofs.YtilchbhmaflhfaaDoor.Rows.swingPartsRow.laid w) ∧ sizedMet enc Proofs.Tryd.prog Proofs.Tryd.f7 (OpenSpec.ofChange Proofs.YtilchbhmaflhfaaDoor.Rows.swingPartsSpec) false w args) (Proofs.YtilchbhmaflhfaaDoor.Rows.swingPartsSpec.post enc Proofs.Tryd.prog Proofs.Tryd.f7 false true false false) := by
  refine returnsInHanded_of_change_and (C := Proofs.Tryd.checked) (X := fun w _ => laidMetH Proofs.Tryd.prog Proofs.YtilchbhmaflhfaaDoor.Rows.swingPartsRow.laid w) (fun _ _ _ hh h => h.of_heap hh) law_own started (by kernel_rfl) Proofs.Tryd.func7
    (ChangeSpec.witness_shaped (enc := enc) (C := Proofs.Tryd.checked) (os := os) (X := fun w _ => laidMetH Proofs.Tryd.prog Proofs.YtilchbhmaflhfaaDoor.Rows.swingPartsRow.laid w) false (World.laidAll Proofs.Tryd.prog os Proofs.YtilchbhmaflhfaaDoor.Rows.swingPartsRow.laid) #[.agg #[.int .i64 0, .int .i64 0, .int .i64 0, .int .i64 0, .string ⟨#[]⟩], .int .i64 0, .int .i64 0] 8 (World.laidAll_os _ _ _)
      (World.shaped_of_ZipB (by kernel_rfl) (by kernel_rfl)) (by kernel_rfl) (by kernel_rfl) (by kernel_rfl)
      (by rw [MakeChecks.laidMetH_plain _ _ _ (by kernel_rfl)]; exact laidMet_laidAll _ (by kernel_rfl) (by kernel_rfl))) ?_
  intro W base args ds gs before hval0 hW hcnd _ hL _
  have hval : ∀ (j : Nat) t v, Proofs.Tryd.f7.params[j]? = some t → args[j]? = some v → Value.okWide Proofs.Tryd.prog W .any base t v := hval0
  haveI : Tabs W.heap.size W := SwingParts_tabs hL
  have hW2 : DataW.Whole enc Proofs.Tryd.prog Proofs.Tryd.f7.params.toList Proofs.YtilchbhmaflhfaaDoor.Rows.swingPartsSpec.vars false W args.toList ds gs before := hW
  obtain ⟨p, q, hA0, hV, rfl, hfz, hnd⟩ := hW
  have hA : DataW.TrodAll enc Proofs.Tryd.prog W 0 (fun _ => true) true Proofs.Tryd.f7.params.toList args.toList ds p := hA0
  rw [Proofs.Tryd.params7] at hA hval
  obtain ⟨v0, vs0, d0, ds0, p0, q0, hargs, rfl, rfl, h0, r0⟩ := trodAll_cons hA
  obtain ⟨v1, vs1, d1, ds1, p1, q1, rfl, rfl, rfl, h1, r1⟩ := trodAll_cons r0
  obtain ⟨v2, vs2, d2, ds2, p2, q2, rfl, rfl, rfl, h2, r2⟩ := trodAll_cons r1
  obtain ⟨rfl, rfl, rfl⟩ := trodAll_nil r2
  obtain rfl : args = #[v0, v1, v2] := by cases args; simp_all
  obtain ⟨x0, cs0, rfl, rfl, ok0⟩ := arg_struct Proofs.Tryd.underlying24 tread24 (hval 0 24 v0 rfl rfl) h0
  obtain ⟨x1, rfl, ok1⟩ := arg_int Proofs.Tryd.underlying3 (hval 1 3 v1 rfl rfl) h1
  obtain ⟨x2, rfl, ok2⟩ := arg_int Proofs.Tryd.underlying3 (hval 2 3 v2 rfl rfl) h2
  have hc := m_gridhallkeep4_SwingParts_c (hp x0 x1 x2 ok0 ok1 ok2)  (St.begin W)
  refine hc.mono fun e W' h => ?_
  cases e with
  | returned v =>
    obtain ⟨H', M', hst, hphi⟩ := h
    obtain ⟨_, _, rfl⟩ := hphi
    exact ⟨_, rfl, law_post law_laid rfl rfl Proofs.Tryd.underlying4 (by kernel_rfl) hW2 (fun _ => rfl) hst.below⟩
  | _ => exact h.elim
theorem SwingParts_law (hp : ∀ (x0 : S_api_SwingIsland) (x1 : Int) (x2 : Int), ok x0 → i64ok x1 → i64ok x2 → m_gridhallkeep4_SwingParts x0 x1 x2 = some true) : Proofs.YtilchbhmaflhfaaDoor.Rows.SwingPartsSaid :=
  OpenClaim.holds_of_wide 7 Proofs.Tryd.f7 rfl rfl rfl rfl rfl rfl rfl ⟨rfl, rfl, rfl, rfl, rfl⟩ rfl rfl rfl rfl rfl (by kernel_rfl) Proofs.Tryd.func7 (by kernel_rfl)
    (of_decide_eq_true (by kernel_rfl)) (by unfold Func.isWrapper; first | (rw [if_pos (by decide +kernel)]; kernel_rfl) | (rw [if_neg (by decide +kernel)]; exact ⟨rfl, rfl⟩))
    (fun os started H enc _ => SwingParts_lifted hp os started H enc)
end Go.Sim
