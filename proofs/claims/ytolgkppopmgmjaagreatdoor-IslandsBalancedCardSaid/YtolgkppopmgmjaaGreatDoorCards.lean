/-
  DERIVED. GIVEN WITH THE SEED: THE CARDS: each row of YtolgkppopmgmjaaGreatDoorRows.lean that lists a variable, with what it lists TIED to the program's text (the seventh form; the later family's looks); each row that meets fmt, with fmt's text TOLD by the authors' own Lean function (tested against real Go, not proved from fmt's source: count such statements apart). THE CARD IS WHAT COUNTS. Prove the row's statement (the work); the ties are given (YtolgkppopmgmjaaGreatDoorTie.lean); close each card by the builder's one call (the guide's Derived/Test/ToyasCard.lean, 'card_holds'). Laid BY PROGRAM, IN A SANDBOX (cutbox-door.mjs). By AI agents, Wed Nov 11 2026. No macro, syntax, notation, axiom, sorry.
-/
import Derived.Test.YtolgkppopmgmjaaGreatDoorRows
import GoSem.ClaimSeven
namespace Go.Proofs.YtolgkppopmgmjaaGreatDoor
namespace Rows

/-- THE TIED CARD OF 'gridhallkeep4.IslandsBalanced'. -/
def islandsBalancedCard : Claim7 := { stood := { row := islandsBalancedRow, standIns := [], harness := (true, "e7cb8b41d700672247bbbc819f663a9d0568ecd00bbd19a0aabcc1e99933a57b"), looks := true }, kinds := [], alts := [], laidByText := true, laidKinds := [.data, .data, .data, .sentinel, .sentinel], laidTests := true, laidLooks := .later }
def IslandsBalancedCardSaid : Prop := Claim7.holds Tryz.pinned (.plain (OpenSpec.ofChange islandsBalancedSpec)) islandsBalancedCard

/-- THE SECOND FORM's CARD OF 'gridhallkeep4.IslandsBalanced'. -/
def islandsBalancedUptoCard : Claim7 := { stood := { row := islandsBalancedUptoRow, standIns := [], harness := (true, "e7cb8b41d700672247bbbc819f663a9d0568ecd00bbd19a0aabcc1e99933a57b"), looks := true }, kinds := [], alts := [], laidByText := true, laidKinds := [.data, .data, .data, .sentinel, .sentinel], laidTests := true, laidLooks := .later }
def IslandsBalancedUptoCardSaid : Prop := Claim7.holds Tryz.pinned (.plain (OpenSpec.upto islandsBalancedSpec)) islandsBalancedUptoCard
end Rows
end Go.Proofs.YtolgkppopmgmjaaGreatDoor
