/-
  DERIVED. GIVEN WITH THE SEED: THE CARDS: each row of YtkpbgofhndmbnaaGreatDoorRows.lean that lists a variable, with what it lists TIED to the program's text (the seventh form; the later family's looks); each row that meets fmt, with fmt's text TOLD by the authors' own Lean function (tested against real Go, not proved from fmt's source: count such statements apart). THE CARD IS WHAT COUNTS. Prove the row's statement (the work); the ties are given (YtkpbgofhndmbnaaGreatDoorTie.lean); close each card by the builder's one call (the guide's Derived/Test/ToyasCard.lean, 'card_holds'). Laid BY PROGRAM, IN A SANDBOX (cutbox-door.mjs). By AI agents, Wed Nov 11 2026. No macro, syntax, notation, axiom, sorry.
-/
import Derived.Test.YtkpbgofhndmbnaaGreatDoorRows
import GoSem.ClaimSeven
namespace Go.Proofs.YtkpbgofhndmbnaaGreatDoor
namespace Rows

/-- THE TIED CARD OF 'gridhallkeep4.RoomHeld'. -/
def roomHeldCard : Claim7 := { stood := { row := roomHeldRow, standIns := [], harness := (true, "5188a40be97b4ef87a57824e6186b8e9b8d091404904e7ac337ac423ad92d37a"), looks := true }, kinds := [], alts := [], laidByText := true, laidKinds := [.data, .data, .data, .sentinel, .sentinel], laidTests := true, laidLooks := .later }
def RoomHeldCardSaid : Prop := Claim7.holds Tryz.pinned (.plain (OpenSpec.ofChange roomHeldSpec)) roomHeldCard

/-- THE TIED CARD OF 'gridhallkeep4.RoomLoads'. -/
def roomLoadsCard : Claim7 := { stood := { row := roomLoadsRow, standIns := [], harness := (true, "5188a40be97b4ef87a57824e6186b8e9b8d091404904e7ac337ac423ad92d37a"), looks := true }, kinds := [], alts := [], laidByText := true, laidKinds := [.data, .data, .data, .sentinel, .sentinel], laidTests := true, laidLooks := .later }
def RoomLoadsCardSaid : Prop := Claim7.holds Tryz.pinned (.plain (OpenSpec.ofChange roomLoadsSpec)) roomLoadsCard

/-- THE TIED CARD OF 'gridhallkeep4.RoomRatings'. -/
def roomRatingsCard : Claim7 := { stood := { row := roomRatingsRow, standIns := [], harness := (true, "5188a40be97b4ef87a57824e6186b8e9b8d091404904e7ac337ac423ad92d37a"), looks := true }, kinds := [], alts := [], laidByText := true, laidKinds := [.data, .data, .data, .sentinel, .sentinel], laidTests := true, laidLooks := .later }
def RoomRatingsCardSaid : Prop := Claim7.holds Tryz.pinned (.plain (OpenSpec.ofChange roomRatingsSpec)) roomRatingsCard

/-- THE TIED CARD OF 'gridhallkeep4.RoomRepeats'. -/
def roomRepeatsCard : Claim7 := { stood := { row := roomRepeatsRow, standIns := [], harness := (true, "5188a40be97b4ef87a57824e6186b8e9b8d091404904e7ac337ac423ad92d37a"), looks := true }, kinds := [], alts := [], laidByText := true, laidKinds := [.data, .data, .data, .sentinel, .sentinel], laidTests := true, laidLooks := .later }
def RoomRepeatsCardSaid : Prop := Claim7.holds Tryz.pinned (.plain (OpenSpec.ofChange roomRepeatsSpec)) roomRepeatsCard

/-- THE TIED CARD OF 'gridhallkeep4.RoomRefuses'. -/
def roomRefusesCard : Claim7 := { stood := { row := roomRefusesRow, standIns := [], harness := (true, "5188a40be97b4ef87a57824e6186b8e9b8d091404904e7ac337ac423ad92d37a"), looks := true }, kinds := [], alts := [], laidByText := true, laidKinds := [.data, .data, .data, .sentinel, .sentinel], laidTests := true, laidLooks := .later }
def RoomRefusesCardSaid : Prop := Claim7.holds Tryz.pinned (.plain (OpenSpec.ofChange roomRefusesSpec)) roomRefusesCard

/-- THE TIED CARD OF 'gridhallkeep4.RoomFlows'. -/
def roomFlowsCard : Claim7 := { stood := { row := roomFlowsRow, standIns := [], harness := (true, "5188a40be97b4ef87a57824e6186b8e9b8d091404904e7ac337ac423ad92d37a"), looks := true }, kinds := [], alts := [], laidByText := true, laidKinds := [.data, .data, .data, .sentinel, .sentinel], laidTests := true, laidLooks := .later }
def RoomFlowsCardSaid : Prop := Claim7.holds Tryz.pinned (.plain (OpenSpec.ofChange roomFlowsSpec)) roomFlowsCard

/-- THE SECOND FORM's CARD OF 'gridhallkeep4.RoomHeld'. -/
def roomHeldUptoCard : Claim7 := { stood := { row := roomHeldUptoRow, standIns := [], harness := (true, "5188a40be97b4ef87a57824e6186b8e9b8d091404904e7ac337ac423ad92d37a"), looks := true }, kinds := [], alts := [], laidByText := true, laidKinds := [.data, .data, .data, .sentinel, .sentinel], laidTests := true, laidLooks := .later }
def RoomHeldUptoCardSaid : Prop := Claim7.holds Tryz.pinned (.plain (OpenSpec.upto roomHeldSpec)) roomHeldUptoCard

/-- THE SECOND FORM's CARD OF 'gridhallkeep4.RoomLoads'. -/
def roomLoadsUptoCard : Claim7 := { stood := { row := roomLoadsUptoRow, standIns := [], harness := (true, "5188a40be97b4ef87a57824e6186b8e9b8d091404904e7ac337ac423ad92d37a"), looks := true }, kinds := [], alts := [], laidByText := true, laidKinds := [.data, .data, .data, .sentinel, .sentinel], laidTests := true, laidLooks := .later }
def RoomLoadsUptoCardSaid : Prop := Claim7.holds Tryz.pinned (.plain (OpenSpec.upto roomLoadsSpec)) roomLoadsUptoCard

/-- THE SECOND FORM's CARD OF 'gridhallkeep4.RoomRatings'. -/
def roomRatingsUptoCard : Claim7 := { stood := { row := roomRatingsUptoRow, standIns := [], harness := (true, "5188a40be97b4ef87a57824e6186b8e9b8d091404904e7ac337ac423ad92d37a"), looks := true }, kinds := [], alts := [], laidByText := true, laidKinds := [.data, .data, .data, .sentinel, .sentinel], laidTests := true, laidLooks := .later }
def RoomRatingsUptoCardSaid : Prop := Claim7.holds Tryz.pinned (.plain (OpenSpec.upto roomRatingsSpec)) roomRatingsUptoCard

/-- THE SECOND FORM's CARD OF 'gridhallkeep4.RoomRepeats'. -/
def roomRepeatsUptoCard : Claim7 := { stood := { row := roomRepeatsUptoRow, standIns := [], harness := (true, "5188a40be97b4ef87a57824e6186b8e9b8d091404904e7ac337ac423ad92d37a"), looks := true }, kinds := [], alts := [], laidByText := true, laidKinds := [.data, .data, .data, .sentinel, .sentinel], laidTests := true, laidLooks := .later }
def RoomRepeatsUptoCardSaid : Prop := Claim7.holds Tryz.pinned (.plain (OpenSpec.upto roomRepeatsSpec)) roomRepeatsUptoCard

/-- THE SECOND FORM's CARD OF 'gridhallkeep4.RoomRefuses'. -/
def roomRefusesUptoCard : Claim7 := { stood := { row := roomRefusesUptoRow, standIns := [], harness := (true, "5188a40be97b4ef87a57824e6186b8e9b8d091404904e7ac337ac423ad92d37a"), looks := true }, kinds := [], alts := [], laidByText := true, laidKinds := [.data, .data, .data, .sentinel, .sentinel], laidTests := true, laidLooks := .later }
def RoomRefusesUptoCardSaid : Prop := Claim7.holds Tryz.pinned (.plain (OpenSpec.upto roomRefusesSpec)) roomRefusesUptoCard

/-- THE SECOND FORM's CARD OF 'gridhallkeep4.RoomFlows'. -/
def roomFlowsUptoCard : Claim7 := { stood := { row := roomFlowsUptoRow, standIns := [], harness := (true, "5188a40be97b4ef87a57824e6186b8e9b8d091404904e7ac337ac423ad92d37a"), looks := true }, kinds := [], alts := [], laidByText := true, laidKinds := [.data, .data, .data, .sentinel, .sentinel], laidTests := true, laidLooks := .later }
def RoomFlowsUptoCardSaid : Prop := Claim7.holds Tryz.pinned (.plain (OpenSpec.upto roomFlowsSpec)) roomFlowsUptoCard
end Rows
end Go.Proofs.YtkpbgofhndmbnaaGreatDoor
