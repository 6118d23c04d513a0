/-
  DERIVED. GIVEN WITH THE SEED: THE CARDS: each row of YtoghilnkfnpcoaaGreatDoorRows.lean that lists a variable, with what it lists TIED to the program's text (the seventh form; the later family's looks); each row that meets fmt, with fmt's text TOLD by the authors' own Lean function (tested against real Go, not proved from fmt's source: count such statements apart). THE CARD IS WHAT COUNTS. Prove the row's statement (the work); the ties are given (YtoghilnkfnpcoaaGreatDoorTie.lean); close each card by the builder's one call (the guide's Derived/Test/ToyasCard.lean, 'card_holds'). Laid BY PROGRAM, IN A SANDBOX (cutbox-door.mjs). By AI agents, Wed Nov 11 2026. No macro, syntax, notation, axiom, sorry.
-/
import Derived.Test.YtoghilnkfnpcoaaGreatDoorRows
import GoSem.ClaimSeven
namespace Go.Proofs.YtoghilnkfnpcoaaGreatDoor
namespace Rows

/-- THE TIED CARD OF 'gridhalltop.TopAlarms'. -/
def topAlarmsCard : Claim7 := { stood := { row := topAlarmsRow, standIns := [], harness := (true, "d54e09eda36210ff56224e3a0ed26f0829b37b5f1e9fb33f3e1faf06519ca857"), looks := true }, kinds := [], alts := [], laidByText := true, laidKinds := [.data, .data, .data, .sentinel, .sentinel], laidTests := true, laidLooks := .later }
def TopAlarmsCardSaid : Prop := Claim7.holds Tryz.pinned (.plain (OpenSpec.ofChange topAlarmsSpec)) topAlarmsCard

/-- THE SECOND FORM's CARD OF 'gridhalltop.TopAlarms'. -/
def topAlarmsUptoCard : Claim7 := { stood := { row := topAlarmsUptoRow, standIns := [], harness := (true, "d54e09eda36210ff56224e3a0ed26f0829b37b5f1e9fb33f3e1faf06519ca857"), looks := true }, kinds := [], alts := [], laidByText := true, laidKinds := [.data, .data, .data, .sentinel, .sentinel], laidTests := true, laidLooks := .later }
def TopAlarmsUptoCardSaid : Prop := Claim7.holds Tryz.pinned (.plain (OpenSpec.upto topAlarmsSpec)) topAlarmsUptoCard
end Rows
end Go.Proofs.YtoghilnkfnpcoaaGreatDoor
