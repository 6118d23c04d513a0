/-
  Printed by a program: from the models to the given statements.
-/
import Derived.Test.YtfakgoeoclfoaaaGreatDoorConL
import Derived.Test.YtfakgoeoclfoaaaGreatDoorSimL
import Derived.OpenShut
import Derived.HandedShaped
import Derived.Handed
import Derived.Lay
import Derived.LaidByTextLater
import Derived.Stop.LaidErr
namespace Go.Sim
open Go Go.RowKit Go.ChangeShapes Go.WideShapes Go.ChangeAt
set_option linter.unusedVariables false
theorem law_own : ownKnob Proofs.Tryz.prog.godebug = none := by kernel_rfl
theorem law_laid : laidOutB Proofs.Tryz.prog = true := by kernel_rfl

theorem tread22 : Tread Proofs.Tryz.prog 22 (List Int) := tread_slice Proofs.Tryz.underlying22 (by kernel_rfl) rfl (tread_int Proofs.Tryz.underlying3)
theorem ForecastShifts_tabs {W : World} (h0 : laidMetH Proofs.Tryz.prog Proofs.YtfakgoeoclfoaaaGreatDoor.Rows.forecastShiftsRow.laid W) : Tabs W.heap.size W := by
  rw [MakeChecks.laidMetH_plain _ _ _ (by kernel_rfl)] at h0
  have t4 : Lib.TabIs Proofs.Tryz.prog W "math/bits.deBruijn32tab" .u8 gt4 := Lib.tabIs_of_head gn4 (by kernel_rfl : (Proofs.Tryz.prog.globals[4]?).map (·.type) = some 153) Proofs.Tryz.underlying153 Proofs.Tryz.underlying5 (by kernel_rfl) (by kernel_rfl) (show laidMet Proofs.Tryz.prog (("math/bits.deBruijn32tab", Lib.tabData .u8 gt4) :: _) W from h0)
  have h1 := laidMet.tail h0
  have t5 : Lib.TabIs Proofs.Tryz.prog W "math/bits.deBruijn64tab" .u8 gt5 := Lib.tabIs_of_head gn5 (by kernel_rfl : (Proofs.Tryz.prog.globals[5]?).map (·.type) = some 154) Proofs.Tryz.underlying154 Proofs.Tryz.underlying5 (by kernel_rfl) (by kernel_rfl) (show laidMet Proofs.Tryz.prog (("math/bits.deBruijn64tab", Lib.tabData .u8 gt5) :: _) W from h1)
  have h2 := laidMet.tail h1
  have t3 : Lib.TabIs Proofs.Tryz.prog W "internal/strconv.uint64pow10" .u64 gt3 := Lib.tabIs_of_head gn3 (by kernel_rfl : (Proofs.Tryz.prog.globals[3]?).map (·.type) = some 146) Proofs.Tryz.underlying146 Proofs.Tryz.underlying85 (by kernel_rfl) (by kernel_rfl) (show laidMet Proofs.Tryz.prog (("internal/strconv.uint64pow10", Lib.tabData .u64 gt3) :: _) W from h2)
  have h3 := laidMet.tail h2
  have star : "*" ++ "errors.errorString" = "*errors.errorString" := by decide
  have rowe : ∀ u, Proofs.Tryz.prog.typeName? 3 u = some "*errors.errorString" → u = 149 := fun u h => typeName_ptr_named (nm := "errors.errorString") (by rw [star]; kernel_rfl) (by kernel_rfl) (by decide) u (by rw [star]; exact h)
  obtain ⟨a2, s2, e2, -⟩ := laid_sentinel h3 gn2 (by kernel_rfl : (Proofs.Tryz.prog.globals[2]?).map (·.type) = some 97) Proofs.Tryz.underlying97 rowe Proofs.Tryz.underlying149 Proofs.Tryz.underlying151 rfl rfl Proofs.Tryz.underlying9 (by kernel_rfl) (by kernel_rfl)
  have h4 := laidMet.tail h3
  obtain ⟨a1, s1, e1, -⟩ := laid_sentinel h4 gn1 (by kernel_rfl : (Proofs.Tryz.prog.globals[1]?).map (·.type) = some 97) Proofs.Tryz.underlying97 rowe Proofs.Tryz.underlying149 Proofs.Tryz.underlying151 rfl rfl Proofs.Tryz.underlying9 (by kernel_rfl) (by kernel_rfl)
  exact { lt := var_lt gn5 t5, t4 := t4, t5 := t5, t3 := t3, e2 := ⟨_, _, e2⟩, e1 := ⟨_, _, e1⟩ }
set_option maxRecDepth 100000 in
theorem ForecastShifts_lifted (hp : ∀ (x0 : (List Int)) (x1 : Int) (x2 : Int), ok x0 → i64ok x1 → i64ok x2 → m_gridhallkeep4_ForecastShifts x0 x1 x2 = some true) (os : Os) (started : os.Started) (Hd : Type) (enc : TypeId × Value → Hd) :
    ReturnsInHanded {} Proofs.Tryz.checked os 3 .any (fun w args => (Proofs.YtfakgoeoclfoaaaGreatDoor.Rows.forecastShiftsSpec.pre enc Proofs.Tryz.prog Proofs.Tryz.f3 Proofs.YtfakgoeoclfoaaaGreatDoor.Rows.forecastShiftsRow.domain false w args ∧ laidMetH Proofs.Tryz.prog Proofs.YtfakgoeoclfoaaaGreatDoor.Rows.forecastShiftsRow.laid w) ∧ sizedMet enc Proofs.Tryz.prog Proofs.Tryz.f3 (OpenSpec.ofChange Proofs.YtfakgoeoclfoaaaGreatDoor.Rows.forecastShiftsSpec) false w args) (Proofs.YtfakgoeoclfoaaaGreatDoor.Rows.forecastShiftsSpec.post enc Proofs.Tryz.prog Proofs.Tryz.f3 false true false false) := by
  refine returnsInHanded_of_change_and (C := Proofs.Tryz.checked) (X := fun w _ => laidMetH Proofs.Tryz.prog Proofs.YtfakgoeoclfoaaaGreatDoor.Rows.forecastShiftsRow.laid w) (fun _ _ _ hh h => h.of_heap hh) law_own started (by kernel_rfl) Proofs.Tryz.func3
    (ChangeSpec.witness_shaped (enc := enc) (C := Proofs.Tryz.checked) (os := os) (X := fun w _ => laidMetH Proofs.Tryz.prog Proofs.YtfakgoeoclfoaaaGreatDoor.Rows.forecastShiftsRow.laid w) false (World.laidAll Proofs.Tryz.prog os Proofs.YtfakgoeoclfoaaaGreatDoor.Rows.forecastShiftsRow.laid) #[.slice none 0 0, .int .i64 0, .int .i64 0] 8 (World.laidAll_os _ _ _)
      (World.shaped_of_ZipB (by kernel_rfl) (by kernel_rfl)) (by kernel_rfl) (by kernel_rfl) (by kernel_rfl)
      (by rw [MakeChecks.laidMetH_plain _ _ _ (by kernel_rfl)]; exact laidMet_laidAll _ (by kernel_rfl) (by kernel_rfl))) ?_
  intro W base args ds gs before hval0 hW hcnd _ hL _
  have hval : ∀ (j : Nat) t v, Proofs.Tryz.f3.params[j]? = some t → args[j]? = some v → Value.okWide Proofs.Tryz.prog W .any base t v := hval0
  haveI : Tabs W.heap.size W := ForecastShifts_tabs hL
  have hW2 : DataW.Whole enc Proofs.Tryz.prog Proofs.Tryz.f3.params.toList Proofs.YtfakgoeoclfoaaaGreatDoor.Rows.forecastShiftsSpec.vars false W args.toList ds gs before := hW
  obtain ⟨p, q, hA0, hV, rfl, hfz, hnd⟩ := hW
  have hA : DataW.TrodAll enc Proofs.Tryz.prog W 0 (fun _ => true) true Proofs.Tryz.f3.params.toList args.toList ds p := hA0
  rw [Proofs.Tryz.params3] at hA hval
  obtain ⟨v0, vs0, d0, ds0, p0, q0, hargs, rfl, rfl, h0, r0⟩ := trodAll_cons hA
  obtain ⟨v1, vs1, d1, ds1, p1, q1, rfl, rfl, rfl, h1, r1⟩ := trodAll_cons r0
  obtain ⟨v2, vs2, d2, ds2, p2, q2, rfl, rfl, rfl, h2, r2⟩ := trodAll_cons r1
  obtain ⟨rfl, rfl, rfl⟩ := trodAll_nil r2
  obtain rfl : args = #[v0, v1, v2] := by cases args; simp_all
  obtain ⟨x0, e0, ok0⟩ := arg_slice Proofs.Tryz.underlying22 tread22 (hval 0 22 v0 rfl rfl) h0
  obtain ⟨x1, rfl, ok1⟩ := arg_int Proofs.Tryz.underlying3 (hval 1 3 v1 rfl rfl) h1
  obtain ⟨x2, rfl, ok2⟩ := arg_int Proofs.Tryz.underlying3 (hval 2 3 v2 rfl rfl) h2
  have hc := m_gridhallkeep4_ForecastShifts_c (hp x0 x1 x2 ok0 ok1 ok2) e0 (St.begin W)
  refine hc.mono fun e W' h => ?_
  cases e with
  | returned v =>
    obtain ⟨H', M', hst, hphi⟩ := h
    obtain ⟨_, _, rfl⟩ := hphi
    exact ⟨_, rfl, law_post law_laid rfl rfl Proofs.Tryz.underlying4 (by kernel_rfl) hW2 (fun _ => rfl) hst.below⟩
  | _ => exact h.elim
theorem ForecastShifts_law (hp : ∀ (x0 : (List Int)) (x1 : Int) (x2 : Int), ok x0 → i64ok x1 → i64ok x2 → m_gridhallkeep4_ForecastShifts x0 x1 x2 = some true) : Proofs.YtfakgoeoclfoaaaGreatDoor.Rows.ForecastShiftsSaid :=
  OpenClaim.holds_of_wide 3 Proofs.Tryz.f3 rfl rfl rfl rfl rfl rfl rfl ⟨rfl, rfl, rfl, rfl, rfl⟩ rfl rfl rfl rfl rfl (by kernel_rfl) Proofs.Tryz.func3 (by kernel_rfl)
    (of_decide_eq_true (by kernel_rfl)) (by unfold Func.isWrapper; first | (rw [if_pos (by decide +kernel)]; kernel_rfl) | (rw [if_neg (by decide +kernel)]; exact ⟨rfl, rfl⟩))
    (fun os started H enc _ => ForecastShifts_lifted hp os started H enc)
theorem ForecastResiduals_tabs {W : World} (h0 : laidMetH Proofs.Tryz.prog Proofs.YtfakgoeoclfoaaaGreatDoor.Rows.forecastResidualsRow.laid W) : Tabs W.heap.size W := by
  rw [MakeChecks.laidMetH_plain _ _ _ (by kernel_rfl)] at h0
  have t4 : Lib.TabIs Proofs.Tryz.prog W "math/bits.deBruijn32tab" .u8 gt4 := Lib.tabIs_of_head gn4 (by kernel_rfl : (Proofs.Tryz.prog.globals[4]?).map (·.type) = some 153) Proofs.Tryz.underlying153 Proofs.Tryz.underlying5 (by kernel_rfl) (by kernel_rfl) (show laidMet Proofs.Tryz.prog (("math/bits.deBruijn32tab", Lib.tabData .u8 gt4) :: _) W from h0)
  have h1 := laidMet.tail h0
  have t5 : Lib.TabIs Proofs.Tryz.prog W "math/bits.deBruijn64tab" .u8 gt5 := Lib.tabIs_of_head gn5 (by kernel_rfl : (Proofs.Tryz.prog.globals[5]?).map (·.type) = some 154) Proofs.Tryz.underlying154 Proofs.Tryz.underlying5 (by kernel_rfl) (by kernel_rfl) (show laidMet Proofs.Tryz.prog (("math/bits.deBruijn64tab", Lib.tabData .u8 gt5) :: _) W from h1)
  have h2 := laidMet.tail h1
  have t3 : Lib.TabIs Proofs.Tryz.prog W "internal/strconv.uint64pow10" .u64 gt3 := Lib.tabIs_of_head gn3 (by kernel_rfl : (Proofs.Tryz.prog.globals[3]?).map (·.type) = some 146) Proofs.Tryz.underlying146 Proofs.Tryz.underlying85 (by kernel_rfl) (by kernel_rfl) (show laidMet Proofs.Tryz.prog (("internal/strconv.uint64pow10", Lib.tabData .u64 gt3) :: _) W from h2)
  have h3 := laidMet.tail h2
  have star : "*" ++ "errors.errorString" = "*errors.errorString" := by decide
  have rowe : ∀ u, Proofs.Tryz.prog.typeName? 3 u = some "*errors.errorString" → u = 149 := fun u h => typeName_ptr_named (nm := "errors.errorString") (by rw [star]; kernel_rfl) (by kernel_rfl) (by decide) u (by rw [star]; exact h)
  obtain ⟨a2, s2, e2, -⟩ := laid_sentinel h3 gn2 (by kernel_rfl : (Proofs.Tryz.prog.globals[2]?).map (·.type) = some 97) Proofs.Tryz.underlying97 rowe Proofs.Tryz.underlying149 Proofs.Tryz.underlying151 rfl rfl Proofs.Tryz.underlying9 (by kernel_rfl) (by kernel_rfl)
  have h4 := laidMet.tail h3
  obtain ⟨a1, s1, e1, -⟩ := laid_sentinel h4 gn1 (by kernel_rfl : (Proofs.Tryz.prog.globals[1]?).map (·.type) = some 97) Proofs.Tryz.underlying97 rowe Proofs.Tryz.underlying149 Proofs.Tryz.underlying151 rfl rfl Proofs.Tryz.underlying9 (by kernel_rfl) (by kernel_rfl)
  exact { lt := var_lt gn5 t5, t4 := t4, t5 := t5, t3 := t3, e2 := ⟨_, _, e2⟩, e1 := ⟨_, _, e1⟩ }
set_option maxRecDepth 100000 in
theorem ForecastResiduals_lifted (hp : ∀ (x0 : (List Int)), ok x0 → m_gridhallkeep4_ForecastResiduals x0 = some true) (os : Os) (started : os.Started) (Hd : Type) (enc : TypeId × Value → Hd) :
    ReturnsInHanded {} Proofs.Tryz.checked os 4 .any (fun w args => (Proofs.YtfakgoeoclfoaaaGreatDoor.Rows.forecastResidualsSpec.pre enc Proofs.Tryz.prog Proofs.Tryz.f4 Proofs.YtfakgoeoclfoaaaGreatDoor.Rows.forecastResidualsRow.domain false w args ∧ laidMetH Proofs.Tryz.prog Proofs.YtfakgoeoclfoaaaGreatDoor.Rows.forecastResidualsRow.laid w) ∧ sizedMet enc Proofs.Tryz.prog Proofs.Tryz.f4 (OpenSpec.ofChange Proofs.YtfakgoeoclfoaaaGreatDoor.Rows.forecastResidualsSpec) false w args) (Proofs.YtfakgoeoclfoaaaGreatDoor.Rows.forecastResidualsSpec.post enc Proofs.Tryz.prog Proofs.Tryz.f4 false true false false) := by
  refine returnsInHanded_of_change_and (C := Proofs.Tryz.checked) (X := fun w _ => laidMetH Proofs.Tryz.prog Proofs.YtfakgoeoclfoaaaGreatDoor.Rows.forecastResidualsRow.laid w) (fun _ _ _ hh h => h.of_heap hh) law_own started (by kernel_rfl) Proofs.Tryz.func4
    (ChangeSpec.witness_shaped (enc := enc) (C := Proofs.Tryz.checked) (os := os) (X := fun w _ => laidMetH Proofs.Tryz.prog Proofs.YtfakgoeoclfoaaaGreatDoor.Rows.forecastResidualsRow.laid w) false (World.laidAll Proofs.Tryz.prog os Proofs.YtfakgoeoclfoaaaGreatDoor.Rows.forecastResidualsRow.laid) #[.slice none 0 0] 8 (World.laidAll_os _ _ _)
      (World.shaped_of_ZipB (by kernel_rfl) (by kernel_rfl)) (by kernel_rfl) (by kernel_rfl) (by kernel_rfl)
      (by rw [MakeChecks.laidMetH_plain _ _ _ (by kernel_rfl)]; exact laidMet_laidAll _ (by kernel_rfl) (by kernel_rfl))) ?_
  intro W base args ds gs before hval0 hW hcnd _ hL _
  have hval : ∀ (j : Nat) t v, Proofs.Tryz.f4.params[j]? = some t → args[j]? = some v → Value.okWide Proofs.Tryz.prog W .any base t v := hval0
  haveI : Tabs W.heap.size W := ForecastResiduals_tabs hL
  have hW2 : DataW.Whole enc Proofs.Tryz.prog Proofs.Tryz.f4.params.toList Proofs.YtfakgoeoclfoaaaGreatDoor.Rows.forecastResidualsSpec.vars false W args.toList ds gs before := hW
  obtain ⟨p, q, hA0, hV, rfl, hfz, hnd⟩ := hW
  have hA : DataW.TrodAll enc Proofs.Tryz.prog W 0 (fun _ => true) true Proofs.Tryz.f4.params.toList args.toList ds p := hA0
  rw [Proofs.Tryz.params4] at hA hval
  obtain ⟨v0, vs0, d0, ds0, p0, q0, hargs, rfl, rfl, h0, r0⟩ := trodAll_cons hA
  obtain ⟨rfl, rfl, rfl⟩ := trodAll_nil r0
  obtain rfl : args = #[v0] := by cases args; simp_all
  obtain ⟨x0, e0, ok0⟩ := arg_slice Proofs.Tryz.underlying22 tread22 (hval 0 22 v0 rfl rfl) h0
  have hc := m_gridhallkeep4_ForecastResiduals_c (hp x0 ok0) e0 (St.begin W)
  refine hc.mono fun e W' h => ?_
  cases e with
  | returned v =>
    obtain ⟨H', M', hst, hphi⟩ := h
    obtain ⟨_, _, rfl⟩ := hphi
    exact ⟨_, rfl, law_post law_laid rfl rfl Proofs.Tryz.underlying4 (by kernel_rfl) hW2 (fun _ => rfl) hst.below⟩
  | _ => exact h.elim
theorem ForecastResiduals_law (hp : ∀ (x0 : (List Int)), ok x0 → m_gridhallkeep4_ForecastResiduals x0 = some true) : Proofs.YtfakgoeoclfoaaaGreatDoor.Rows.ForecastResidualsSaid :=
  OpenClaim.holds_of_wide 4 Proofs.Tryz.f4 rfl rfl rfl rfl rfl rfl rfl ⟨rfl, rfl, rfl, rfl, rfl⟩ rfl rfl rfl rfl rfl (by kernel_rfl) Proofs.Tryz.func4 (by kernel_rfl)
    (of_decide_eq_true (by kernel_rfl)) (by unfold Func.isWrapper; first | (rw [if_pos (by decide +kernel)]; kernel_rfl) | (rw [if_neg (by decide +kernel)]; exact ⟨rfl, rfl⟩))
    (fun os started H enc _ => ForecastResiduals_lifted hp os started H enc)
theorem ForecastExact_tabs {W : World} (h0 : laidMetH Proofs.Tryz.prog Proofs.YtfakgoeoclfoaaaGreatDoor.Rows.forecastExactRow.laid W) : Tabs W.heap.size W := by
  rw [MakeChecks.laidMetH_plain _ _ _ (by kernel_rfl)] at h0
  have t4 : Lib.TabIs Proofs.Tryz.prog W "math/bits.deBruijn32tab" .u8 gt4 := Lib.tabIs_of_head gn4 (by kernel_rfl : (Proofs.Tryz.prog.globals[4]?).map (·.type) = some 153) Proofs.Tryz.underlying153 Proofs.Tryz.underlying5 (by kernel_rfl) (by kernel_rfl) (show laidMet Proofs.Tryz.prog (("math/bits.deBruijn32tab", Lib.tabData .u8 gt4) :: _) W from h0)
  have h1 := laidMet.tail h0
  have t5 : Lib.TabIs Proofs.Tryz.prog W "math/bits.deBruijn64tab" .u8 gt5 := Lib.tabIs_of_head gn5 (by kernel_rfl : (Proofs.Tryz.prog.globals[5]?).map (·.type) = some 154) Proofs.Tryz.underlying154 Proofs.Tryz.underlying5 (by kernel_rfl) (by kernel_rfl) (show laidMet Proofs.Tryz.prog (("math/bits.deBruijn64tab", Lib.tabData .u8 gt5) :: _) W from h1)
  have h2 := laidMet.tail h1
  have t3 : Lib.TabIs Proofs.Tryz.prog W "internal/strconv.uint64pow10" .u64 gt3 := Lib.tabIs_of_head gn3 (by kernel_rfl : (Proofs.Tryz.prog.globals[3]?).map (·.type) = some 146) Proofs.Tryz.underlying146 Proofs.Tryz.underlying85 (by kernel_rfl) (by kernel_rfl) (show laidMet Proofs.Tryz.prog (("internal/strconv.uint64pow10", Lib.tabData .u64 gt3) :: _) W from h2)
  have h3 := laidMet.tail h2
  have star : "*" ++ "errors.errorString" = "*errors.errorString" := by decide
  have rowe : ∀ u, Proofs.Tryz.prog.typeName? 3 u = some "*errors.errorString" → u = 149 := fun u h => typeName_ptr_named (nm := "errors.errorString") (by rw [star]; kernel_rfl) (by kernel_rfl) (by decide) u (by rw [star]; exact h)
  obtain ⟨a2, s2, e2, -⟩ := laid_sentinel h3 gn2 (by kernel_rfl : (Proofs.Tryz.prog.globals[2]?).map (·.type) = some 97) Proofs.Tryz.underlying97 rowe Proofs.Tryz.underlying149 Proofs.Tryz.underlying151 rfl rfl Proofs.Tryz.underlying9 (by kernel_rfl) (by kernel_rfl)
  have h4 := laidMet.tail h3
  obtain ⟨a1, s1, e1, -⟩ := laid_sentinel h4 gn1 (by kernel_rfl : (Proofs.Tryz.prog.globals[1]?).map (·.type) = some 97) Proofs.Tryz.underlying97 rowe Proofs.Tryz.underlying149 Proofs.Tryz.underlying151 rfl rfl Proofs.Tryz.underlying9 (by kernel_rfl) (by kernel_rfl)
  exact { lt := var_lt gn5 t5, t4 := t4, t5 := t5, t3 := t3, e2 := ⟨_, _, e2⟩, e1 := ⟨_, _, e1⟩ }
set_option maxRecDepth 100000 in
theorem ForecastExact_lifted (hp : ∀ (x0 : Int) (x1 : Int) (x2 : Int) (x3 : Int), i64ok x0 → i64ok x1 → i64ok x2 → i64ok x3 → m_gridhallkeep4_ForecastExact x0 x1 x2 x3 = some true) (os : Os) (started : os.Started) (Hd : Type) (enc : TypeId × Value → Hd) :
    ReturnsInHanded {} Proofs.Tryz.checked os 5 .any (fun w args => (Proofs.YtfakgoeoclfoaaaGreatDoor.Rows.forecastExactSpec.pre enc Proofs.Tryz.prog Proofs.Tryz.f5 Proofs.YtfakgoeoclfoaaaGreatDoor.Rows.forecastExactRow.domain false w args ∧ laidMetH Proofs.Tryz.prog Proofs.YtfakgoeoclfoaaaGreatDoor.Rows.forecastExactRow.laid w) ∧ sizedMet enc Proofs.Tryz.prog Proofs.Tryz.f5 (OpenSpec.ofChange Proofs.YtfakgoeoclfoaaaGreatDoor.Rows.forecastExactSpec) false w args) (Proofs.YtfakgoeoclfoaaaGreatDoor.Rows.forecastExactSpec.post enc Proofs.Tryz.prog Proofs.Tryz.f5 false true false false) := by
  refine returnsInHanded_of_change_and (C := Proofs.Tryz.checked) (X := fun w _ => laidMetH Proofs.Tryz.prog Proofs.YtfakgoeoclfoaaaGreatDoor.Rows.forecastExactRow.laid w) (fun _ _ _ hh h => h.of_heap hh) law_own started (by kernel_rfl) Proofs.Tryz.func5
    (ChangeSpec.witness_shaped (enc := enc) (C := Proofs.Tryz.checked) (os := os) (X := fun w _ => laidMetH Proofs.Tryz.prog Proofs.YtfakgoeoclfoaaaGreatDoor.Rows.forecastExactRow.laid w) false (World.laidAll Proofs.Tryz.prog os Proofs.YtfakgoeoclfoaaaGreatDoor.Rows.forecastExactRow.laid) #[.int .i64 0, .int .i64 0, .int .i64 0, .int .i64 0] 8 (World.laidAll_os _ _ _)
      (World.shaped_of_ZipB (by kernel_rfl) (by kernel_rfl)) (by kernel_rfl) (by kernel_rfl) (by kernel_rfl)
      (by rw [MakeChecks.laidMetH_plain _ _ _ (by kernel_rfl)]; exact laidMet_laidAll _ (by kernel_rfl) (by kernel_rfl))) ?_
  intro W base args ds gs before hval0 hW hcnd _ hL _
  have hval : ∀ (j : Nat) t v, Proofs.Tryz.f5.params[j]? = some t → args[j]? = some v → Value.okWide Proofs.Tryz.prog W .any base t v := hval0
  haveI : Tabs W.heap.size W := ForecastExact_tabs hL
  have hW2 : DataW.Whole enc Proofs.Tryz.prog Proofs.Tryz.f5.params.toList Proofs.YtfakgoeoclfoaaaGreatDoor.Rows.forecastExactSpec.vars false W args.toList ds gs before := hW
  obtain ⟨p, q, hA0, hV, rfl, hfz, hnd⟩ := hW
  have hA : DataW.TrodAll enc Proofs.Tryz.prog W 0 (fun _ => true) true Proofs.Tryz.f5.params.toList args.toList ds p := hA0
  rw [Proofs.Tryz.params5] at hA hval
  obtain ⟨v0, vs0, d0, ds0, p0, q0, hargs, rfl, rfl, h0, r0⟩ := trodAll_cons hA
  obtain ⟨v1, vs1, d1, ds1, p1, q1, rfl, rfl, rfl, h1, r1⟩ := trodAll_cons r0
  obtain ⟨v2, vs2, d2, ds2, p2, q2, rfl, rfl, rfl, h2, r2⟩ := trodAll_cons r1
  obtain ⟨v3, vs3, d3, ds3, p3, q3, rfl, rfl, rfl, h3, r3⟩ := trodAll_cons r2
  obtain ⟨rfl, rfl, rfl⟩ := trodAll_nil r3
  obtain rfl : args = #[v0, v1, v2, v3] := by cases args; simp_all
  obtain ⟨x0, rfl, ok0⟩ := arg_int Proofs.Tryz.underlying3 (hval 0 3 v0 rfl rfl) h0
  obtain ⟨x1, rfl, ok1⟩ := arg_int Proofs.Tryz.underlying3 (hval 1 3 v1 rfl rfl) h1
  obtain ⟨x2, rfl, ok2⟩ := arg_int Proofs.Tryz.underlying3 (hval 2 3 v2 rfl rfl) h2
  obtain ⟨x3, rfl, ok3⟩ := arg_int Proofs.Tryz.underlying3 (hval 3 3 v3 rfl rfl) h3
  have hc := m_gridhallkeep4_ForecastExact_c (hp x0 x1 x2 x3 ok0 ok1 ok2 ok3)  (St.begin W)
  refine hc.mono fun e W' h => ?_
  cases e with
  | returned v =>
    obtain ⟨H', M', hst, hphi⟩ := h
    obtain ⟨_, _, rfl⟩ := hphi
    exact ⟨_, rfl, law_post law_laid rfl rfl Proofs.Tryz.underlying4 (by kernel_rfl) hW2 (fun _ => rfl) hst.below⟩
  | _ => exact h.elim
theorem ForecastExact_law (hp : ∀ (x0 : Int) (x1 : Int) (x2 : Int) (x3 : Int), i64ok x0 → i64ok x1 → i64ok x2 → i64ok x3 → m_gridhallkeep4_ForecastExact x0 x1 x2 x3 = some true) : Proofs.YtfakgoeoclfoaaaGreatDoor.Rows.ForecastExactSaid :=
  OpenClaim.holds_of_wide 5 Proofs.Tryz.f5 rfl rfl rfl rfl rfl rfl rfl ⟨rfl, rfl, rfl, rfl, rfl⟩ rfl rfl rfl rfl rfl (by kernel_rfl) Proofs.Tryz.func5 (by kernel_rfl)
    (of_decide_eq_true (by kernel_rfl)) (by unfold Func.isWrapper; first | (rw [if_pos (by decide +kernel)]; kernel_rfl) | (rw [if_neg (by decide +kernel)]; exact ⟨rfl, rfl⟩))
    (fun os started H enc _ => ForecastExact_lifted hp os started H enc)
theorem ForecastSmooths_tabs {W : World} (h0 : laidMetH Proofs.Tryz.prog Proofs.YtfakgoeoclfoaaaGreatDoor.Rows.forecastSmoothsRow.laid W) : Tabs W.heap.size W := by
  rw [MakeChecks.laidMetH_plain _ _ _ (by kernel_rfl)] at h0
  have t4 : Lib.TabIs Proofs.Tryz.prog W "math/bits.deBruijn32tab" .u8 gt4 := Lib.tabIs_of_head gn4 (by kernel_rfl : (Proofs.Tryz.prog.globals[4]?).map (·.type) = some 153) Proofs.Tryz.underlying153 Proofs.Tryz.underlying5 (by kernel_rfl) (by kernel_rfl) (show laidMet Proofs.Tryz.prog (("math/bits.deBruijn32tab", Lib.tabData .u8 gt4) :: _) W from h0)
  have h1 := laidMet.tail h0
  have t5 : Lib.TabIs Proofs.Tryz.prog W "math/bits.deBruijn64tab" .u8 gt5 := Lib.tabIs_of_head gn5 (by kernel_rfl : (Proofs.Tryz.prog.globals[5]?).map (·.type) = some 154) Proofs.Tryz.underlying154 Proofs.Tryz.underlying5 (by kernel_rfl) (by kernel_rfl) (show laidMet Proofs.Tryz.prog (("math/bits.deBruijn64tab", Lib.tabData .u8 gt5) :: _) W from h1)
  have h2 := laidMet.tail h1
  have t3 : Lib.TabIs Proofs.Tryz.prog W "internal/strconv.uint64pow10" .u64 gt3 := Lib.tabIs_of_head gn3 (by kernel_rfl : (Proofs.Tryz.prog.globals[3]?).map (·.type) = some 146) Proofs.Tryz.underlying146 Proofs.Tryz.underlying85 (by kernel_rfl) (by kernel_rfl) (show laidMet Proofs.Tryz.prog (("internal/strconv.uint64pow10", Lib.tabData .u64 gt3) :: _) W from h2)
  have h3 := laidMet.tail h2
  have star : "*" ++ "errors.errorString" = "*errors.errorString" := by decide
  have rowe : ∀ u, Proofs.Tryz.prog.typeName? 3 u = some "*errors.errorString" → u = 149 := fun u h => typeName_ptr_named (nm := "errors.errorString") (by rw [star]; kernel_rfl) (by kernel_rfl) (by decide) u (by rw [star]; exact h)
  obtain ⟨a2, s2, e2, -⟩ := laid_sentinel h3 gn2 (by kernel_rfl : (Proofs.Tryz.prog.globals[2]?).map (·.type) = some 97) Proofs.Tryz.underlying97 rowe Proofs.Tryz.underlying149 Proofs.Tryz.underlying151 rfl rfl Proofs.Tryz.underlying9 (by kernel_rfl) (by kernel_rfl)
  have h4 := laidMet.tail h3
  obtain ⟨a1, s1, e1, -⟩ := laid_sentinel h4 gn1 (by kernel_rfl : (Proofs.Tryz.prog.globals[1]?).map (·.type) = some 97) Proofs.Tryz.underlying97 rowe Proofs.Tryz.underlying149 Proofs.Tryz.underlying151 rfl rfl Proofs.Tryz.underlying9 (by kernel_rfl) (by kernel_rfl)
  exact { lt := var_lt gn5 t5, t4 := t4, t5 := t5, t3 := t3, e2 := ⟨_, _, e2⟩, e1 := ⟨_, _, e1⟩ }
set_option maxRecDepth 100000 in
theorem ForecastSmooths_lifted (hp : ∀ (x0 : (List Int)) (x1 : Int) (x2 : Int), ok x0 → i64ok x1 → i64ok x2 → m_gridhallkeep4_ForecastSmooths x0 x1 x2 = some true) (os : Os) (started : os.Started) (Hd : Type) (enc : TypeId × Value → Hd) :
    ReturnsInHanded {} Proofs.Tryz.checked os 6 .any (fun w args => (Proofs.YtfakgoeoclfoaaaGreatDoor.Rows.forecastSmoothsSpec.pre enc Proofs.Tryz.prog Proofs.Tryz.f6 Proofs.YtfakgoeoclfoaaaGreatDoor.Rows.forecastSmoothsRow.domain false w args ∧ laidMetH Proofs.Tryz.prog Proofs.YtfakgoeoclfoaaaGreatDoor.Rows.forecastSmoothsRow.laid w) ∧ sizedMet enc Proofs.Tryz.prog Proofs.Tryz.f6 (OpenSpec.ofChange Proofs.YtfakgoeoclfoaaaGreatDoor.Rows.forecastSmoothsSpec) false w args) (Proofs.YtfakgoeoclfoaaaGreatDoor.Rows.forecastSmoothsSpec.post enc Proofs.Tryz.prog Proofs.Tryz.f6 false true false false) := by
  refine returnsInHanded_of_change_and (C := Proofs.Tryz.checked) (X := fun w _ => laidMetH Proofs.Tryz.prog Proofs.YtfakgoeoclfoaaaGreatDoor.Rows.forecastSmoothsRow.laid w) (fun _ _ _ hh h => h.of_heap hh) law_own started (by kernel_rfl) Proofs.Tryz.func6
    (ChangeSpec.witness_shaped (enc := enc) (C := Proofs.Tryz.checked) (os := os) (X := fun w _ => laidMetH Proofs.Tryz.prog Proofs.YtfakgoeoclfoaaaGreatDoor.Rows.forecastSmoothsRow.laid w) false (World.laidAll Proofs.Tryz.prog os Proofs.YtfakgoeoclfoaaaGreatDoor.Rows.forecastSmoothsRow.laid) #[.slice none 0 0, .int .i64 0, .int .i64 0] 8 (World.laidAll_os _ _ _)
      (World.shaped_of_ZipB (by kernel_rfl) (by kernel_rfl)) (by kernel_rfl) (by kernel_rfl) (by kernel_rfl)
      (by rw [MakeChecks.laidMetH_plain _ _ _ (by kernel_rfl)]; exact laidMet_laidAll _ (by kernel_rfl) (by kernel_rfl))) ?_
  intro W base args ds gs before hval0 hW hcnd _ hL _
  have hval : ∀ (j : Nat) t v, Proofs.Tryz.f6.params[j]? = some t → args[j]? = some v → Value.okWide Proofs.Tryz.prog W .any base t v := hval0
  haveI : Tabs W.heap.size W := ForecastSmooths_tabs hL
  have hW2 : DataW.Whole enc Proofs.Tryz.prog Proofs.Tryz.f6.params.toList Proofs.YtfakgoeoclfoaaaGreatDoor.Rows.forecastSmoothsSpec.vars false W args.toList ds gs before := hW
  obtain ⟨p, q, hA0, hV, rfl, hfz, hnd⟩ := hW
  have hA : DataW.TrodAll enc Proofs.Tryz.prog W 0 (fun _ => true) true Proofs.Tryz.f6.params.toList args.toList ds p := hA0
  rw [Proofs.Tryz.params6] at hA hval
  obtain ⟨v0, vs0, d0, ds0, p0, q0, hargs, rfl, rfl, h0, r0⟩ := trodAll_cons hA
  obtain ⟨v1, vs1, d1, ds1, p1, q1, rfl, rfl, rfl, h1, r1⟩ := trodAll_cons r0
  obtain ⟨v2, vs2, d2, ds2, p2, q2, rfl, rfl, rfl, h2, r2⟩ := trodAll_cons r1
  obtain ⟨rfl, rfl, rfl⟩ := trodAll_nil r2
  obtain rfl : args = #[v0, v1, v2] := by cases args; simp_all
  obtain ⟨x0, e0, ok0⟩ := arg_slice Proofs.Tryz.underlying22 tread22 (hval 0 22 v0 rfl rfl) h0
  obtain ⟨x1, rfl, ok1⟩ := arg_int Proofs.Tryz.underlying3 (hval 1 3 v1 rfl rfl) h1
  obtain ⟨x2, rfl, ok2⟩ := arg_int Proofs.Tryz.underlying3 (hval 2 3 v2 rfl rfl) h2
  have hc := m_gridhallkeep4_ForecastSmooths_c (hp x0 x1 x2 ok0 ok1 ok2) e0 (St.begin W)
  refine hc.mono fun e W' h => ?_
  cases e with
  | returned v =>
    obtain ⟨H', M', hst, hphi⟩ := h
    obtain ⟨_, _, rfl⟩ := hphi
    exact ⟨_, rfl, law_post law_laid rfl rfl Proofs.Tryz.underlying4 (by kernel_rfl) hW2 (fun _ => rfl) hst.below⟩
  | _ => exact h.elim
theorem ForecastSmooths_law (hp : ∀ (x0 : (List Int)) (x1 : Int) (x2 : Int), ok x0 → i64ok x1 → i64ok x2 → m_gridhallkeep4_ForecastSmooths x0 x1 x2 = some true) : Proofs.YtfakgoeoclfoaaaGreatDoor.Rows.ForecastSmoothsSaid :=
  OpenClaim.holds_of_wide 6 Proofs.Tryz.f6 rfl rfl rfl rfl rfl rfl rfl ⟨rfl, rfl, rfl, rfl, rfl⟩ rfl rfl rfl rfl rfl (by kernel_rfl) Proofs.Tryz.func6 (by kernel_rfl)
    (of_decide_eq_true (by kernel_rfl)) (by unfold Func.isWrapper; first | (rw [if_pos (by decide +kernel)]; kernel_rfl) | (rw [if_neg (by decide +kernel)]; exact ⟨rfl, rfl⟩))
    (fun os started H enc _ => ForecastSmooths_lifted hp os started H enc)
end Go.Sim
