/-
  DERIVED. GIVEN WITH THE SEED: THE CARDS: each row of YtfakgoeoclfoaaaGreatDoorRows.lean that lists a variable, with what it lists TIED to the program's text (the seventh form; the later family's looks); each row that meets fmt, with fmt's text TOLD by the authors' own Lean function (tested against real Go, not proved from fmt's source: count such statements apart). THE CARD IS WHAT COUNTS. Prove the row's statement (the work); the ties are given (YtfakgoeoclfoaaaGreatDoorTie.lean); close each card by the builder's one call (the guide's Derived/Test/ToyasCard.lean, 'card_holds'). Laid BY PROGRAM, IN A SANDBOX (cutbox-door.mjs). By AI agents, Wed Nov 11 2026. No macro, syntax, notation, axiom, sorry.
-/
import Derived.Test.YtfakgoeoclfoaaaGreatDoorRows
import GoSem.ClaimSeven
namespace Go.Proofs.YtfakgoeoclfoaaaGreatDoor
namespace Rows

/-- THE TIED CARD OF 'gridhallkeep4.ForecastShifts'. -/
def forecastShiftsCard : Claim7 := { stood := { row := forecastShiftsRow, standIns := [], harness := (true, "771c2b141990b02f7437ac62ec40c07ddd34d141043249371ab71754bb102dad"), looks := true }, kinds := [], alts := [], laidByText := true, laidKinds := [.data, .data, .data, .sentinel, .sentinel], laidTests := true, laidLooks := .later }
def ForecastShiftsCardSaid : Prop := Claim7.holds Tryz.pinned (.plain (OpenSpec.ofChange forecastShiftsSpec)) forecastShiftsCard

/-- THE TIED CARD OF 'gridhallkeep4.ForecastResiduals'. -/
def forecastResidualsCard : Claim7 := { stood := { row := forecastResidualsRow, standIns := [], harness := (true, "771c2b141990b02f7437ac62ec40c07ddd34d141043249371ab71754bb102dad"), looks := true }, kinds := [], alts := [], laidByText := true, laidKinds := [.data, .data, .data, .sentinel, .sentinel], laidTests := true, laidLooks := .later }
def ForecastResidualsCardSaid : Prop := Claim7.holds Tryz.pinned (.plain (OpenSpec.ofChange forecastResidualsSpec)) forecastResidualsCard

/-- THE TIED CARD OF 'gridhallkeep4.ForecastExact'. -/
def forecastExactCard : Claim7 := { stood := { row := forecastExactRow, standIns := [], harness := (true, "771c2b141990b02f7437ac62ec40c07ddd34d141043249371ab71754bb102dad"), looks := true }, kinds := [], alts := [], laidByText := true, laidKinds := [.data, .data, .data, .sentinel, .sentinel], laidTests := true, laidLooks := .later }
def ForecastExactCardSaid : Prop := Claim7.holds Tryz.pinned (.plain (OpenSpec.ofChange forecastExactSpec)) forecastExactCard

/-- THE TIED CARD OF 'gridhallkeep4.ForecastSmooths'. -/
def forecastSmoothsCard : Claim7 := { stood := { row := forecastSmoothsRow, standIns := [], harness := (true, "771c2b141990b02f7437ac62ec40c07ddd34d141043249371ab71754bb102dad"), looks := true }, kinds := [], alts := [], laidByText := true, laidKinds := [.data, .data, .data, .sentinel, .sentinel], laidTests := true, laidLooks := .later }
def ForecastSmoothsCardSaid : Prop := Claim7.holds Tryz.pinned (.plain (OpenSpec.ofChange forecastSmoothsSpec)) forecastSmoothsCard

/-- THE SECOND FORM's CARD OF 'gridhallkeep4.ForecastShifts'. -/
def forecastShiftsUptoCard : Claim7 := { stood := { row := forecastShiftsUptoRow, standIns := [], harness := (true, "771c2b141990b02f7437ac62ec40c07ddd34d141043249371ab71754bb102dad"), looks := true }, kinds := [], alts := [], laidByText := true, laidKinds := [.data, .data, .data, .sentinel, .sentinel], laidTests := true, laidLooks := .later }
def ForecastShiftsUptoCardSaid : Prop := Claim7.holds Tryz.pinned (.plain (OpenSpec.upto forecastShiftsSpec)) forecastShiftsUptoCard

/-- THE SECOND FORM's CARD OF 'gridhallkeep4.ForecastResiduals'. -/
def forecastResidualsUptoCard : Claim7 := { stood := { row := forecastResidualsUptoRow, standIns := [], harness := (true, "771c2b141990b02f7437ac62ec40c07ddd34d141043249371ab71754bb102dad"), looks := true }, kinds := [], alts := [], laidByText := true, laidKinds := [.data, .data, .data, .sentinel, .sentinel], laidTests := true, laidLooks := .later }
def ForecastResidualsUptoCardSaid : Prop := Claim7.holds Tryz.pinned (.plain (OpenSpec.upto forecastResidualsSpec)) forecastResidualsUptoCard

/-- THE SECOND FORM's CARD OF 'gridhallkeep4.ForecastExact'. -/
def forecastExactUptoCard : Claim7 := { stood := { row := forecastExactUptoRow, standIns := [], harness := (true, "771c2b141990b02f7437ac62ec40c07ddd34d141043249371ab71754bb102dad"), looks := true }, kinds := [], alts := [], laidByText := true, laidKinds := [.data, .data, .data, .sentinel, .sentinel], laidTests := true, laidLooks := .later }
def ForecastExactUptoCardSaid : Prop := Claim7.holds Tryz.pinned (.plain (OpenSpec.upto forecastExactSpec)) forecastExactUptoCard

/-- THE SECOND FORM's CARD OF 'gridhallkeep4.ForecastSmooths'. -/
def forecastSmoothsUptoCard : Claim7 := { stood := { row := forecastSmoothsUptoRow, standIns := [], harness := (true, "771c2b141990b02f7437ac62ec40c07ddd34d141043249371ab71754bb102dad"), looks := true }, kinds := [], alts := [], laidByText := true, laidKinds := [.data, .data, .data, .sentinel, .sentinel], laidTests := true, laidLooks := .later }
def ForecastSmoothsUptoCardSaid : Prop := Claim7.holds Tryz.pinned (.plain (OpenSpec.upto forecastSmoothsSpec)) forecastSmoothsUptoCard
end Rows
end Go.Proofs.YtfakgoeoclfoaaaGreatDoor
