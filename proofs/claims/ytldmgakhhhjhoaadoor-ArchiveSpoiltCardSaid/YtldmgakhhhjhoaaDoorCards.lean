/-
  DERIVED. GIVEN WITH THE SEED: THE CARDS: each row of YtldmgakhhhjhoaaDoorRows.lean that lists a variable, with what it lists TIED to the program's text (the seventh form; the later family's looks); each row that meets fmt, with fmt's text TOLD by the authors' own Lean function (tested against real Go, not proved from fmt's source: count such statements apart). THE CARD IS WHAT COUNTS. Prove the row's statement (the work); the ties are given (YtldmgakhhhjhoaaDoorTie.lean); close each card by the builder's one call (the guide's Derived/Test/ToyasCard.lean, 'card_holds'). Laid BY PROGRAM, IN A SANDBOX (cutbox-door.mjs). By AI agents, Wed Nov 11 2026. No macro, syntax, notation, axiom, sorry.
-/
import Derived.Test.YtldmgakhhhjhoaaDoorRows
import GoSem.ClaimSeven
namespace Go.Proofs.YtldmgakhhhjhoaaDoor
namespace Rows

/-- THE TIED CARD OF 'gridhallkeep4.ArchiveParts'. -/
def archivePartsCard : Claim7 := { stood := { row := archivePartsRow, standIns := [], harness := (true, "eca5abaceefc1617aa641c9f0709315a97e057b8c81b1a3bc48cbcc6552f853b"), looks := true }, kinds := [], alts := [], laidByText := true, laidKinds := [.data, .data, .data], laidTests := true, laidLooks := .later }
def ArchivePartsCardSaid : Prop := Claim7.holds Tryd.pinned (.plain (OpenSpec.ofChange archivePartsSpec)) archivePartsCard

/-- THE TIED CARD OF 'gridhallkeep4.ArchiveContinues'. -/
def archiveContinuesCard : Claim7 := { stood := { row := archiveContinuesRow, standIns := [], harness := (true, "eca5abaceefc1617aa641c9f0709315a97e057b8c81b1a3bc48cbcc6552f853b"), looks := true }, kinds := [], alts := [], laidByText := true, laidKinds := [.data, .data, .data, .data, .sentinel, .sentinel, .pinned], laidTests := true, laidLooks := .later }
def ArchiveContinuesCardSaid : Prop := Claim7.holds Tryd.pinned (.plain (OpenSpec.ofChange archiveContinuesSpec)) archiveContinuesCard

/-- THE TIED CARD OF 'gridhallkeep4.ArchiveSpoilt'. -/
def archiveSpoiltCard : Claim7 := { stood := { row := archiveSpoiltRow, standIns := [], harness := (true, "eca5abaceefc1617aa641c9f0709315a97e057b8c81b1a3bc48cbcc6552f853b"), looks := true }, kinds := [], alts := [], laidByText := true, laidKinds := [.data, .data, .data, .data, .sentinel, .sentinel, .pinned], laidTests := true, laidLooks := .later }
def ArchiveSpoiltCardSaid : Prop := Claim7.holds Tryd.pinned (.plain (OpenSpec.ofChange archiveSpoiltSpec)) archiveSpoiltCard

/-- THE TIED CARD OF 'gridhallkeep4.ArchiveTorn'. -/
def archiveTornCard : Claim7 := { stood := { row := archiveTornRow, standIns := [], harness := (true, "eca5abaceefc1617aa641c9f0709315a97e057b8c81b1a3bc48cbcc6552f853b"), looks := true }, kinds := [], alts := [], laidByText := true, laidKinds := [.data, .data, .data, .data, .sentinel, .sentinel, .pinned], laidTests := true, laidLooks := .later }
def ArchiveTornCardSaid : Prop := Claim7.holds Tryd.pinned (.plain (OpenSpec.ofChange archiveTornSpec)) archiveTornCard

/-- THE SECOND FORM's CARD OF 'gridhallkeep4.ArchiveParts'. -/
def archivePartsUptoCard : Claim7 := { stood := { row := archivePartsUptoRow, standIns := [], harness := (true, "eca5abaceefc1617aa641c9f0709315a97e057b8c81b1a3bc48cbcc6552f853b"), looks := true }, kinds := [], alts := [], laidByText := true, laidKinds := [.data, .data, .data], laidTests := true, laidLooks := .later }
def ArchivePartsUptoCardSaid : Prop := Claim7.holds Tryd.pinned (.plain (OpenSpec.upto archivePartsSpec)) archivePartsUptoCard

/-- THE SECOND FORM's CARD OF 'gridhallkeep4.ArchiveContinues'. -/
def archiveContinuesUptoCard : Claim7 := { stood := { row := archiveContinuesUptoRow, standIns := [], harness := (true, "eca5abaceefc1617aa641c9f0709315a97e057b8c81b1a3bc48cbcc6552f853b"), looks := true }, kinds := [], alts := [], laidByText := true, laidKinds := [.data, .data, .data, .data, .sentinel, .sentinel, .pinned], laidTests := true, laidLooks := .later }
def ArchiveContinuesUptoCardSaid : Prop := Claim7.holds Tryd.pinned (.plain (OpenSpec.upto archiveContinuesSpec)) archiveContinuesUptoCard

/-- THE SECOND FORM's CARD OF 'gridhallkeep4.ArchiveSpoilt'. -/
def archiveSpoiltUptoCard : Claim7 := { stood := { row := archiveSpoiltUptoRow, standIns := [], harness := (true, "eca5abaceefc1617aa641c9f0709315a97e057b8c81b1a3bc48cbcc6552f853b"), looks := true }, kinds := [], alts := [], laidByText := true, laidKinds := [.data, .data, .data, .data, .sentinel, .sentinel, .pinned], laidTests := true, laidLooks := .later }
def ArchiveSpoiltUptoCardSaid : Prop := Claim7.holds Tryd.pinned (.plain (OpenSpec.upto archiveSpoiltSpec)) archiveSpoiltUptoCard

/-- THE SECOND FORM's CARD OF 'gridhallkeep4.ArchiveTorn'. -/
def archiveTornUptoCard : Claim7 := { stood := { row := archiveTornUptoRow, standIns := [], harness := (true, "eca5abaceefc1617aa641c9f0709315a97e057b8c81b1a3bc48cbcc6552f853b"), looks := true }, kinds := [], alts := [], laidByText := true, laidKinds := [.data, .data, .data, .data, .sentinel, .sentinel, .pinned], laidTests := true, laidLooks := .later }
def ArchiveTornUptoCardSaid : Prop := Claim7.holds Tryd.pinned (.plain (OpenSpec.upto archiveTornSpec)) archiveTornUptoCard
end Rows
end Go.Proofs.YtldmgakhhhjhoaaDoor
