/-
  DERIVED. GIVEN WITH THE SEED: THE CARDS: each row of YtbgeolhghncnbaaDoorRows.lean that lists a variable, with what it lists TIED to the program's text (the seventh form; the later family's looks); each row that meets fmt, with fmt's text TOLD by the authors' own Lean function (tested against real Go, not proved from fmt's source: count such statements apart). THE CARD IS WHAT COUNTS. Prove the row's statement (the work); the ties are given (YtbgeolhghncnbaaDoorTie.lean); close each card by the builder's one call (the guide's Derived/Test/ToyasCard.lean, 'card_holds'). Laid BY PROGRAM, IN A SANDBOX (cutbox-door.mjs). By AI agents, Wed Nov 11 2026. No macro, syntax, notation, axiom, sorry.
-/
import Derived.Test.YtbgeolhghncnbaaDoorRows
import GoSem.ClaimSeven
namespace Go.Proofs.YtbgeolhghncnbaaDoor
namespace Rows

/-- THE TIED CARD OF 'gridhallkeep4.ArchiveParts'. -/
def archivePartsCard : Claim7 := { stood := { row := archivePartsRow, standIns := [], harness := (true, "61f0c4c63da8a5a908c85e6b9e01ecba9eeb78182d077f16b070de26faa25eb7"), looks := false }, kinds := [], alts := [], laidByText := true, laidKinds := [.data, .data, .data], laidTests := true, laidLooks := .later }
def ArchivePartsCardSaid : Prop := Claim7.holds Tryd.pinned (.plain (OpenSpec.ofChange archivePartsSpec)) archivePartsCard

/-- THE TIED CARD OF 'gridhallkeep4.InterlockNot'. -/
def interlockNotCard : Claim7 := { stood := { row := interlockNotRow, standIns := [], harness := (true, "61f0c4c63da8a5a908c85e6b9e01ecba9eeb78182d077f16b070de26faa25eb7"), looks := false }, kinds := [], alts := [], laidByText := true, laidKinds := [.data, .pinned], laidTests := true, laidLooks := .later }
def InterlockNotCardSaid : Prop := Claim7.holds Tryd.pinned (.plain (OpenSpec.ofChange interlockNotSpec)) interlockNotCard

/-- THE TIED CARD OF 'gridhallkeep4.InterlockSets'. -/
def interlockSetsCard : Claim7 := { stood := { row := interlockSetsRow, standIns := [], harness := (true, "61f0c4c63da8a5a908c85e6b9e01ecba9eeb78182d077f16b070de26faa25eb7"), looks := false }, kinds := [], alts := [], laidByText := true, laidKinds := [.data, .pinned], laidTests := true, laidLooks := .later }
def InterlockSetsCardSaid : Prop := Claim7.holds Tryd.pinned (.plain (OpenSpec.ofChange interlockSetsSpec)) interlockSetsCard

/-- THE TIED CARD OF 'gridhallkeep4.InterlockMore'. -/
def interlockMoreCard : Claim7 := { stood := { row := interlockMoreRow, standIns := [], harness := (true, "61f0c4c63da8a5a908c85e6b9e01ecba9eeb78182d077f16b070de26faa25eb7"), looks := false }, kinds := [], alts := [], laidByText := true, laidKinds := [.data, .pinned], laidTests := true, laidLooks := .later }
def InterlockMoreCardSaid : Prop := Claim7.holds Tryd.pinned (.plain (OpenSpec.ofChange interlockMoreSpec)) interlockMoreCard

/-- THE SECOND FORM's CARD OF 'gridhallkeep4.ArchiveParts'. -/
def archivePartsUptoCard : Claim7 := { stood := { row := archivePartsUptoRow, standIns := [], harness := (true, "61f0c4c63da8a5a908c85e6b9e01ecba9eeb78182d077f16b070de26faa25eb7"), looks := false }, kinds := [], alts := [], laidByText := true, laidKinds := [.data, .data, .data], laidTests := true, laidLooks := .later }
def ArchivePartsUptoCardSaid : Prop := Claim7.holds Tryd.pinned (.plain (OpenSpec.upto archivePartsSpec)) archivePartsUptoCard

/-- THE SECOND FORM's CARD OF 'gridhallkeep4.InterlockNot'. -/
def interlockNotUptoCard : Claim7 := { stood := { row := interlockNotUptoRow, standIns := [], harness := (true, "61f0c4c63da8a5a908c85e6b9e01ecba9eeb78182d077f16b070de26faa25eb7"), looks := false }, kinds := [], alts := [], laidByText := true, laidKinds := [.data, .pinned], laidTests := true, laidLooks := .later }
def InterlockNotUptoCardSaid : Prop := Claim7.holds Tryd.pinned (.plain (OpenSpec.upto interlockNotSpec)) interlockNotUptoCard

/-- THE SECOND FORM's CARD OF 'gridhallkeep4.InterlockSets'. -/
def interlockSetsUptoCard : Claim7 := { stood := { row := interlockSetsUptoRow, standIns := [], harness := (true, "61f0c4c63da8a5a908c85e6b9e01ecba9eeb78182d077f16b070de26faa25eb7"), looks := false }, kinds := [], alts := [], laidByText := true, laidKinds := [.data, .pinned], laidTests := true, laidLooks := .later }
def InterlockSetsUptoCardSaid : Prop := Claim7.holds Tryd.pinned (.plain (OpenSpec.upto interlockSetsSpec)) interlockSetsUptoCard

/-- THE SECOND FORM's CARD OF 'gridhallkeep4.InterlockMore'. -/
def interlockMoreUptoCard : Claim7 := { stood := { row := interlockMoreUptoRow, standIns := [], harness := (true, "61f0c4c63da8a5a908c85e6b9e01ecba9eeb78182d077f16b070de26faa25eb7"), looks := false }, kinds := [], alts := [], laidByText := true, laidKinds := [.data, .pinned], laidTests := true, laidLooks := .later }
def InterlockMoreUptoCardSaid : Prop := Claim7.holds Tryd.pinned (.plain (OpenSpec.upto interlockMoreSpec)) interlockMoreUptoCard
end Rows
end Go.Proofs.YtbgeolhghncnbaaDoor
