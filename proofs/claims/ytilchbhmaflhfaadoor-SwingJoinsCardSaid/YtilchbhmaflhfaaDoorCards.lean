/-
  DERIVED. GIVEN WITH THE SEED: THE CARDS: each row of YtilchbhmaflhfaaDoorRows.lean that lists a variable, with what it lists TIED to the program's text (the seventh form; the later family's looks); each row that meets fmt, with fmt's text TOLD by the authors' own Lean function (tested against real Go, not proved from fmt's source: count such statements apart). THE CARD IS WHAT COUNTS. Prove the row's statement (the work); the ties are given (YtilchbhmaflhfaaDoorTie.lean); close each card by the builder's one call (the guide's Derived/Test/ToyasCard.lean, 'card_holds'). Laid BY PROGRAM, IN A SANDBOX (cutbox-door.mjs). By AI agents, Wed Nov 11 2026. No macro, syntax, notation, axiom, sorry.
-/
import Derived.Test.YtilchbhmaflhfaaDoorRows
import GoSem.ClaimSeven
namespace Go.Proofs.YtilchbhmaflhfaaDoor
namespace Rows

/-- THE TIED CARD OF 'gridhallkeep4.SwingSteady'. -/
def swingSteadyCard : Claim7 := { stood := { row := swingSteadyRow, standIns := [], harness := (true, "ddf354c580df3c7b0994f2b53d172c053ea0ccaed7786de827a1b108dbfb68f6"), looks := true }, kinds := [], alts := [], laidByText := true, laidKinds := [.data, .data, .data, .sentinel, .sentinel], laidTests := true, laidLooks := .later }
def SwingSteadyCardSaid : Prop := Claim7.holds Tryd.pinned (.plain (OpenSpec.ofChange swingSteadySpec)) swingSteadyCard

/-- THE TIED CARD OF 'gridhallkeep4.SwingMomentum'. -/
def swingMomentumCard : Claim7 := { stood := { row := swingMomentumRow, standIns := [], harness := (true, "ddf354c580df3c7b0994f2b53d172c053ea0ccaed7786de827a1b108dbfb68f6"), looks := true }, kinds := [], alts := [], laidByText := true, laidKinds := [.data, .data, .data, .sentinel, .sentinel], laidTests := true, laidLooks := .later }
def SwingMomentumCardSaid : Prop := Claim7.holds Tryd.pinned (.plain (OpenSpec.ofChange swingMomentumSpec)) swingMomentumCard

/-- THE TIED CARD OF 'gridhallkeep4.SwingNearer'. -/
def swingNearerCard : Claim7 := { stood := { row := swingNearerRow, standIns := [], harness := (true, "ddf354c580df3c7b0994f2b53d172c053ea0ccaed7786de827a1b108dbfb68f6"), looks := true }, kinds := [], alts := [], laidByText := true, laidKinds := [.data, .data, .data, .sentinel, .sentinel], laidTests := true, laidLooks := .later }
def SwingNearerCardSaid : Prop := Claim7.holds Tryd.pinned (.plain (OpenSpec.ofChange swingNearerSpec)) swingNearerCard

/-- THE TIED CARD OF 'gridhallkeep4.SwingJoins'. -/
def swingJoinsCard : Claim7 := { stood := { row := swingJoinsRow, standIns := [], harness := (true, "ddf354c580df3c7b0994f2b53d172c053ea0ccaed7786de827a1b108dbfb68f6"), looks := true }, kinds := [], alts := [], laidByText := true, laidKinds := [.data, .data, .data, .sentinel, .sentinel], laidTests := true, laidLooks := .later }
def SwingJoinsCardSaid : Prop := Claim7.holds Tryd.pinned (.plain (OpenSpec.ofChange swingJoinsSpec)) swingJoinsCard

/-- THE TIED CARD OF 'gridhallkeep4.SwingParts'. -/
def swingPartsCard : Claim7 := { stood := { row := swingPartsRow, standIns := [], harness := (true, "ddf354c580df3c7b0994f2b53d172c053ea0ccaed7786de827a1b108dbfb68f6"), looks := true }, kinds := [], alts := [], laidByText := true, laidKinds := [.data, .data, .data, .sentinel, .sentinel], laidTests := true, laidLooks := .later }
def SwingPartsCardSaid : Prop := Claim7.holds Tryd.pinned (.plain (OpenSpec.ofChange swingPartsSpec)) swingPartsCard

/-- THE SECOND FORM's CARD OF 'gridhallkeep4.SwingSteady'. -/
def swingSteadyUptoCard : Claim7 := { stood := { row := swingSteadyUptoRow, standIns := [], harness := (true, "ddf354c580df3c7b0994f2b53d172c053ea0ccaed7786de827a1b108dbfb68f6"), looks := true }, kinds := [], alts := [], laidByText := true, laidKinds := [.data, .data, .data, .sentinel, .sentinel], laidTests := true, laidLooks := .later }
def SwingSteadyUptoCardSaid : Prop := Claim7.holds Tryd.pinned (.plain (OpenSpec.upto swingSteadySpec)) swingSteadyUptoCard

/-- THE SECOND FORM's CARD OF 'gridhallkeep4.SwingMomentum'. -/
def swingMomentumUptoCard : Claim7 := { stood := { row := swingMomentumUptoRow, standIns := [], harness := (true, "ddf354c580df3c7b0994f2b53d172c053ea0ccaed7786de827a1b108dbfb68f6"), looks := true }, kinds := [], alts := [], laidByText := true, laidKinds := [.data, .data, .data, .sentinel, .sentinel], laidTests := true, laidLooks := .later }
def SwingMomentumUptoCardSaid : Prop := Claim7.holds Tryd.pinned (.plain (OpenSpec.upto swingMomentumSpec)) swingMomentumUptoCard

/-- THE SECOND FORM's CARD OF 'gridhallkeep4.SwingNearer'. -/
def swingNearerUptoCard : Claim7 := { stood := { row := swingNearerUptoRow, standIns := [], harness := (true, "ddf354c580df3c7b0994f2b53d172c053ea0ccaed7786de827a1b108dbfb68f6"), looks := true }, kinds := [], alts := [], laidByText := true, laidKinds := [.data, .data, .data, .sentinel, .sentinel], laidTests := true, laidLooks := .later }
def SwingNearerUptoCardSaid : Prop := Claim7.holds Tryd.pinned (.plain (OpenSpec.upto swingNearerSpec)) swingNearerUptoCard

/-- THE SECOND FORM's CARD OF 'gridhallkeep4.SwingJoins'. -/
def swingJoinsUptoCard : Claim7 := { stood := { row := swingJoinsUptoRow, standIns := [], harness := (true, "ddf354c580df3c7b0994f2b53d172c053ea0ccaed7786de827a1b108dbfb68f6"), looks := true }, kinds := [], alts := [], laidByText := true, laidKinds := [.data, .data, .data, .sentinel, .sentinel], laidTests := true, laidLooks := .later }
def SwingJoinsUptoCardSaid : Prop := Claim7.holds Tryd.pinned (.plain (OpenSpec.upto swingJoinsSpec)) swingJoinsUptoCard

/-- THE SECOND FORM's CARD OF 'gridhallkeep4.SwingParts'. -/
def swingPartsUptoCard : Claim7 := { stood := { row := swingPartsUptoRow, standIns := [], harness := (true, "ddf354c580df3c7b0994f2b53d172c053ea0ccaed7786de827a1b108dbfb68f6"), looks := true }, kinds := [], alts := [], laidByText := true, laidKinds := [.data, .data, .data, .sentinel, .sentinel], laidTests := true, laidLooks := .later }
def SwingPartsUptoCardSaid : Prop := Claim7.holds Tryd.pinned (.plain (OpenSpec.upto swingPartsSpec)) swingPartsUptoCard
end Rows
end Go.Proofs.YtilchbhmaflhfaaDoor
