/-
  DERIVED. GIVEN WITH THE SEED: THE CARDS: each row of YtpapfdodclhffaaGreatDoorRows.lean that lists a variable, with what it lists TIED to the program's text (the seventh form; the later family's looks); each row that meets fmt, with fmt's text TOLD by the authors' own Lean function (tested against real Go, not proved from fmt's source: count such statements apart). THE CARD IS WHAT COUNTS. Prove the row's statement (the work); the ties are given (YtpapfdodclhffaaGreatDoorTie.lean); close each card by the builder's one call (the guide's Derived/Test/ToyasCard.lean, 'card_holds'). Laid BY PROGRAM, IN A SANDBOX (cutbox-door.mjs). By AI agents, Wed Nov 11 2026. No macro, syntax, notation, axiom, sorry.
-/
import Derived.Test.YtpapfdodclhffaaGreatDoorRows
import GoSem.ClaimSeven
namespace Go.Proofs.YtpapfdodclhffaaGreatDoor
namespace Rows

/-- THE TIED CARD OF 'gridhalltop.TopTakeover'. -/
def topTakeoverCard : Claim7 := { stood := { row := topTakeoverRow, standIns := [], harness := (true, "8591cc47ba93e46fd74afef26a75a7aa00ed6b7344e8162ee54c95964712dfbd"), looks := true }, kinds := [], alts := [], laidByText := true, laidKinds := [.data, .data, .data, .sentinel, .sentinel], laidTests := true, laidLooks := .later }
def TopTakeoverCardSaid : Prop := Claim7.holds Tryz.pinned (.plain (OpenSpec.ofChange topTakeoverSpec)) topTakeoverCard

/-- THE TIED CARD OF 'gridhallkeep4.SecondSame'. -/
def secondSameCard : Claim7 := { stood := { row := secondSameRow, standIns := [], harness := (true, "8591cc47ba93e46fd74afef26a75a7aa00ed6b7344e8162ee54c95964712dfbd"), looks := true }, kinds := [], alts := [], laidByText := true, laidKinds := [.data, .data, .data, .sentinel, .sentinel], laidTests := true, laidLooks := .later }
def SecondSameCardSaid : Prop := Claim7.holds Tryz.pinned (.plain (OpenSpec.ofChange secondSameSpec)) secondSameCard

/-- THE TIED CARD OF 'gridhallkeep4.SecondSettles'. -/
def secondSettlesCard : Claim7 := { stood := { row := secondSettlesRow, standIns := [], harness := (true, "8591cc47ba93e46fd74afef26a75a7aa00ed6b7344e8162ee54c95964712dfbd"), looks := true }, kinds := [], alts := [], laidByText := true, laidKinds := [.data, .data, .data, .sentinel, .sentinel], laidTests := true, laidLooks := .later }
def SecondSettlesCardSaid : Prop := Claim7.holds Tryz.pinned (.plain (OpenSpec.ofChange secondSettlesSpec)) secondSettlesCard

/-- THE TIED CARD OF 'gridhallkeep4.SecondKeeps'. -/
def secondKeepsCard : Claim7 := { stood := { row := secondKeepsRow, standIns := [], harness := (true, "8591cc47ba93e46fd74afef26a75a7aa00ed6b7344e8162ee54c95964712dfbd"), looks := true }, kinds := [], alts := [], laidByText := true, laidKinds := [.data, .data, .data, .sentinel, .sentinel], laidTests := true, laidLooks := .later }
def SecondKeepsCardSaid : Prop := Claim7.holds Tryz.pinned (.plain (OpenSpec.ofChange secondKeepsSpec)) secondKeepsCard

/-- THE SECOND FORM's CARD OF 'gridhalltop.TopTakeover'. -/
def topTakeoverUptoCard : Claim7 := { stood := { row := topTakeoverUptoRow, standIns := [], harness := (true, "8591cc47ba93e46fd74afef26a75a7aa00ed6b7344e8162ee54c95964712dfbd"), looks := true }, kinds := [], alts := [], laidByText := true, laidKinds := [.data, .data, .data, .sentinel, .sentinel], laidTests := true, laidLooks := .later }
def TopTakeoverUptoCardSaid : Prop := Claim7.holds Tryz.pinned (.plain (OpenSpec.upto topTakeoverSpec)) topTakeoverUptoCard

/-- THE SECOND FORM's CARD OF 'gridhallkeep4.SecondSame'. -/
def secondSameUptoCard : Claim7 := { stood := { row := secondSameUptoRow, standIns := [], harness := (true, "8591cc47ba93e46fd74afef26a75a7aa00ed6b7344e8162ee54c95964712dfbd"), looks := true }, kinds := [], alts := [], laidByText := true, laidKinds := [.data, .data, .data, .sentinel, .sentinel], laidTests := true, laidLooks := .later }
def SecondSameUptoCardSaid : Prop := Claim7.holds Tryz.pinned (.plain (OpenSpec.upto secondSameSpec)) secondSameUptoCard

/-- THE SECOND FORM's CARD OF 'gridhallkeep4.SecondSettles'. -/
def secondSettlesUptoCard : Claim7 := { stood := { row := secondSettlesUptoRow, standIns := [], harness := (true, "8591cc47ba93e46fd74afef26a75a7aa00ed6b7344e8162ee54c95964712dfbd"), looks := true }, kinds := [], alts := [], laidByText := true, laidKinds := [.data, .data, .data, .sentinel, .sentinel], laidTests := true, laidLooks := .later }
def SecondSettlesUptoCardSaid : Prop := Claim7.holds Tryz.pinned (.plain (OpenSpec.upto secondSettlesSpec)) secondSettlesUptoCard

/-- THE SECOND FORM's CARD OF 'gridhallkeep4.SecondKeeps'. -/
def secondKeepsUptoCard : Claim7 := { stood := { row := secondKeepsUptoRow, standIns := [], harness := (true, "8591cc47ba93e46fd74afef26a75a7aa00ed6b7344e8162ee54c95964712dfbd"), looks := true }, kinds := [], alts := [], laidByText := true, laidKinds := [.data, .data, .data, .sentinel, .sentinel], laidTests := true, laidLooks := .later }
def SecondKeepsUptoCardSaid : Prop := Claim7.holds Tryz.pinned (.plain (OpenSpec.upto secondKeepsSpec)) secondKeepsUptoCard
end Rows
end Go.Proofs.YtpapfdodclhffaaGreatDoor
