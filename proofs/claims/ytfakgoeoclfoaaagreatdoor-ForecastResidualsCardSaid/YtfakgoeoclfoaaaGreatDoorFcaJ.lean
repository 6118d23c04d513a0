/-
  Forecasts: adding a number to all values adds it to the mean and to each forecast; the residuals add up to 0, also when each is multiplied by its place; values on a line have no residuals, and are forecast exactly; the smoothed value is between the least and the greatest value: joined, with the tied cards. Conditions: none but those of the given rows (what the listed tables hold, tied to the program's text).
-/
import Derived.Test.YtfakgoeoclfoaaaGreatDoorLawL
import Derived.Test.YtfakgoeoclfoaaaGreatDoorFcaC
import Derived.Test.YtfakgoeoclfoaaaGreatDoorCards
import Derived.Test.YtfakgoeoclfoaaaGreatDoorTie
import Derived.SevenTiedAt
namespace Go.Proofs.YtfakgoeoclfoaaaGreatDoor
open Go Go.Sim
theorem forecastShifts_row : Rows.ForecastShiftsSaid := ForecastShifts_law fun l b k h hb hk => Shifts_of l b k h.2 hb hk
theorem forecastResiduals_row : Rows.ForecastResidualsSaid := ForecastResiduals_law fun l _ => Residuals_of l
theorem forecastExact_row : Rows.ForecastExactSaid := ForecastExact_law fun a b n k ha hb hn hk => Exact_of a b n k ha hb hn hk
theorem forecastSmooths_row : Rows.ForecastSmoothsSaid := ForecastSmooths_law fun l p q _ _ _ => Smooths_of l p q
theorem forecastShifts_card : Rows.ForecastShiftsCardSaid :=
  Claim7.holds_tied_plain_at .later [] [.data, .data, .data, .sentinel, .sentinel] true (true, Rows.forecastShiftsCard.stood.harness.2) true
    forecastShifts_row (fun _ h => by cases h) (by kernel_rfl) (fun _ h => by cases h) forecastShifts_row_tie rfl ⟨rfl, rfl⟩ (by kernel_rfl) rfl
    (fun f fn hf hfn => by
      obtain rfl : f = 3 := Option.some.inj ((show Tryz.prog.funcNamed Rows.forecastShiftsRow.func = some 3 by kernel_rfl).symm.trans hf) |>.symm
      obtain rfl : fn = Tryz.f3 := (Option.some.inj (Tryz.func3.symm.trans hfn)).symm
      exact ⟨by kernel_rfl, fun j t ht => by
        have hall : (Tryz.f3.params.toList.all fun u => !Tryz.prog.wantsStandIn u) = true := by kernel_rfl
        exact (show Tryz.prog.wantsStandIn t = false by simpa using List.all_eq_true.1 hall t (by simpa using Array.mem_of_getElem? ht))⟩)
    (by kernel_rfl)
theorem forecastResiduals_card : Rows.ForecastResidualsCardSaid :=
  Claim7.holds_tied_plain_at .later [] [.data, .data, .data, .sentinel, .sentinel] true (true, Rows.forecastResidualsCard.stood.harness.2) true
    forecastResiduals_row (fun _ h => by cases h) (by kernel_rfl) (fun _ h => by cases h) forecastResiduals_row_tie rfl ⟨rfl, rfl⟩ (by kernel_rfl) rfl
    (fun f fn hf hfn => by
      obtain rfl : f = 4 := Option.some.inj ((show Tryz.prog.funcNamed Rows.forecastResidualsRow.func = some 4 by kernel_rfl).symm.trans hf) |>.symm
      obtain rfl : fn = Tryz.f4 := (Option.some.inj (Tryz.func4.symm.trans hfn)).symm
      exact ⟨by kernel_rfl, fun j t ht => by
        have hall : (Tryz.f4.params.toList.all fun u => !Tryz.prog.wantsStandIn u) = true := by kernel_rfl
        exact (show Tryz.prog.wantsStandIn t = false by simpa using List.all_eq_true.1 hall t (by simpa using Array.mem_of_getElem? ht))⟩)
    (by kernel_rfl)
theorem forecastExact_card : Rows.ForecastExactCardSaid :=
  Claim7.holds_tied_plain_at .later [] [.data, .data, .data, .sentinel, .sentinel] true (true, Rows.forecastExactCard.stood.harness.2) true
    forecastExact_row (fun _ h => by cases h) (by kernel_rfl) (fun _ h => by cases h) forecastExact_row_tie rfl ⟨rfl, rfl⟩ (by kernel_rfl) rfl
    (fun f fn hf hfn => by
      obtain rfl : f = 5 := Option.some.inj ((show Tryz.prog.funcNamed Rows.forecastExactRow.func = some 5 by kernel_rfl).symm.trans hf) |>.symm
      obtain rfl : fn = Tryz.f5 := (Option.some.inj (Tryz.func5.symm.trans hfn)).symm
      exact ⟨by kernel_rfl, fun j t ht => by
        have hall : (Tryz.f5.params.toList.all fun u => !Tryz.prog.wantsStandIn u) = true := by kernel_rfl
        exact (show Tryz.prog.wantsStandIn t = false by simpa using List.all_eq_true.1 hall t (by simpa using Array.mem_of_getElem? ht))⟩)
    (by kernel_rfl)
theorem forecastSmooths_card : Rows.ForecastSmoothsCardSaid :=
  Claim7.holds_tied_plain_at .later [] [.data, .data, .data, .sentinel, .sentinel] true (true, Rows.forecastSmoothsCard.stood.harness.2) true
    forecastSmooths_row (fun _ h => by cases h) (by kernel_rfl) (fun _ h => by cases h) forecastSmooths_row_tie rfl ⟨rfl, rfl⟩ (by kernel_rfl) rfl
    (fun f fn hf hfn => by
      obtain rfl : f = 6 := Option.some.inj ((show Tryz.prog.funcNamed Rows.forecastSmoothsRow.func = some 6 by kernel_rfl).symm.trans hf) |>.symm
      obtain rfl : fn = Tryz.f6 := (Option.some.inj (Tryz.func6.symm.trans hfn)).symm
      exact ⟨by kernel_rfl, fun j t ht => by
        have hall : (Tryz.f6.params.toList.all fun u => !Tryz.prog.wantsStandIn u) = true := by kernel_rfl
        exact (show Tryz.prog.wantsStandIn t = false by simpa using List.all_eq_true.1 hall t (by simpa using Array.mem_of_getElem? ht))⟩)
    (by kernel_rfl)
end Go.Proofs.YtfakgoeoclfoaaaGreatDoor
