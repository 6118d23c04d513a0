/-
  DERIVED. GIVEN WITH THE SEED: THE CARDS: each row of YtcfeheigjjnpnaaGreatDoorRows.lean that lists a variable, with what it lists TIED to the program's text (the seventh form; the later family's looks); each row that meets fmt, with fmt's text TOLD by the authors' own Lean function (tested against real Go, not proved from fmt's source: count such statements apart). THE CARD IS WHAT COUNTS. Prove the row's statement (the work); the ties are given (YtcfeheigjjnpnaaGreatDoorTie.lean); close each card by the builder's one call (the guide's Derived/Test/ToyasCard.lean, 'card_holds'). Laid BY PROGRAM, IN A SANDBOX (cutbox-door.mjs). By AI agents, Wed Nov 11 2026. No macro, syntax, notation, axiom, sorry.
-/
import Derived.Test.YtcfeheigjjnpnaaGreatDoorRows
import GoSem.ClaimSeven
namespace Go.Proofs.YtcfeheigjjnpnaaGreatDoor
namespace Rows

/-- THE TIED CARD OF 'gridhallkeep4.RebuildRelieves'. -/
def rebuildRelievesCard : Claim7 := { stood := { row := rebuildRelievesRow, standIns := [], harness := (true, "6f2eec3deeea80a02377ea974eff80a201ff3ee7af672811b7be86a7f340f9ba"), looks := true }, kinds := [], alts := [], laidByText := true, laidKinds := [.data, .data, .data, .sentinel, .sentinel], laidTests := true, laidLooks := .later }
def RebuildRelievesCardSaid : Prop := Claim7.holds Tryz.pinned (.plain (OpenSpec.ofChange rebuildRelievesSpec)) rebuildRelievesCard

/-- THE TIED CARD OF 'gridhallkeep4.RebuildStates'. -/
def rebuildStatesCard : Claim7 := { stood := { row := rebuildStatesRow, standIns := [], harness := (true, "6f2eec3deeea80a02377ea974eff80a201ff3ee7af672811b7be86a7f340f9ba"), looks := true }, kinds := [], alts := [], laidByText := true, laidKinds := [.data, .data, .data, .sentinel, .sentinel], laidTests := true, laidLooks := .later }
def RebuildStatesCardSaid : Prop := Claim7.holds Tryz.pinned (.plain (OpenSpec.ofChange rebuildStatesSpec)) rebuildStatesCard

/-- THE TIED CARD OF 'gridhallkeep4.RebuildPlans'. -/
def rebuildPlansCard : Claim7 := { stood := { row := rebuildPlansRow, standIns := [], harness := (true, "6f2eec3deeea80a02377ea974eff80a201ff3ee7af672811b7be86a7f340f9ba"), looks := true }, kinds := [], alts := [], laidByText := true, laidKinds := [.data, .data, .data, .sentinel, .sentinel], laidTests := true, laidLooks := .later }
def RebuildPlansCardSaid : Prop := Claim7.holds Tryz.pinned (.plain (OpenSpec.ofChange rebuildPlansSpec)) rebuildPlansCard

/-- THE SECOND FORM's CARD OF 'gridhallkeep4.RebuildRelieves'. -/
def rebuildRelievesUptoCard : Claim7 := { stood := { row := rebuildRelievesUptoRow, standIns := [], harness := (true, "6f2eec3deeea80a02377ea974eff80a201ff3ee7af672811b7be86a7f340f9ba"), looks := true }, kinds := [], alts := [], laidByText := true, laidKinds := [.data, .data, .data, .sentinel, .sentinel], laidTests := true, laidLooks := .later }
def RebuildRelievesUptoCardSaid : Prop := Claim7.holds Tryz.pinned (.plain (OpenSpec.upto rebuildRelievesSpec)) rebuildRelievesUptoCard

/-- THE SECOND FORM's CARD OF 'gridhallkeep4.RebuildStates'. -/
def rebuildStatesUptoCard : Claim7 := { stood := { row := rebuildStatesUptoRow, standIns := [], harness := (true, "6f2eec3deeea80a02377ea974eff80a201ff3ee7af672811b7be86a7f340f9ba"), looks := true }, kinds := [], alts := [], laidByText := true, laidKinds := [.data, .data, .data, .sentinel, .sentinel], laidTests := true, laidLooks := .later }
def RebuildStatesUptoCardSaid : Prop := Claim7.holds Tryz.pinned (.plain (OpenSpec.upto rebuildStatesSpec)) rebuildStatesUptoCard

/-- THE SECOND FORM's CARD OF 'gridhallkeep4.RebuildPlans'. -/
def rebuildPlansUptoCard : Claim7 := { stood := { row := rebuildPlansUptoRow, standIns := [], harness := (true, "6f2eec3deeea80a02377ea974eff80a201ff3ee7af672811b7be86a7f340f9ba"), looks := true }, kinds := [], alts := [], laidByText := true, laidKinds := [.data, .data, .data, .sentinel, .sentinel], laidTests := true, laidLooks := .later }
def RebuildPlansUptoCardSaid : Prop := Claim7.holds Tryz.pinned (.plain (OpenSpec.upto rebuildPlansSpec)) rebuildPlansUptoCard
end Rows
end Go.Proofs.YtcfeheigjjnpnaaGreatDoor
