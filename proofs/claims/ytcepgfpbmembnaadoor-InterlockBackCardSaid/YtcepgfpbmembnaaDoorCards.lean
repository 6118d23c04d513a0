/-
  DERIVED. GIVEN WITH THE SEED: THE CARDS: each row of YtcepgfpbmembnaaDoorRows.lean that lists a variable, with what it lists TIED to the program's text (the seventh form; the later family's looks); each row that meets fmt, with fmt's text TOLD by the authors' own Lean function (tested against real Go, not proved from fmt's source: count such statements apart). THE CARD IS WHAT COUNTS. Prove the row's statement (the work); the ties are given (YtcepgfpbmembnaaDoorTie.lean); close each card by the builder's one call (the guide's Derived/Test/ToyasCard.lean, 'card_holds'). Laid BY PROGRAM, IN A SANDBOX (cutbox-door.mjs). By AI agents, Wed Nov 11 2026. No macro, syntax, notation, axiom, sorry.
-/
import Derived.Test.YtcepgfpbmembnaaDoorRows
import GoSem.ClaimSeven
namespace Go.Proofs.YtcepgfpbmembnaaDoor
namespace Rows

/-- THE TIED CARD OF 'gridhallkeep4.InterlockBack'. -/
def interlockBackCard : Claim7 := { stood := { row := interlockBackRow, standIns := [], harness := (true, "076a5ffa22b055915710858768e4a9ea2309ef56c1220b46c92ff51134727463"), looks := false }, kinds := [], alts := [], laidByText := true, laidKinds := [.data, .pinned], laidTests := true, laidLooks := .later }
def InterlockBackCardSaid : Prop := Claim7.holds Tryd.pinned (.plain (OpenSpec.ofChange interlockBackSpec)) interlockBackCard

/-- THE SECOND FORM's CARD OF 'gridhallkeep4.InterlockBack'. -/
def interlockBackUptoCard : Claim7 := { stood := { row := interlockBackUptoRow, standIns := [], harness := (true, "076a5ffa22b055915710858768e4a9ea2309ef56c1220b46c92ff51134727463"), looks := false }, kinds := [], alts := [], laidByText := true, laidKinds := [.data, .pinned], laidTests := true, laidLooks := .later }
def InterlockBackUptoCardSaid : Prop := Claim7.holds Tryd.pinned (.plain (OpenSpec.upto interlockBackSpec)) interlockBackUptoCard
end Rows
end Go.Proofs.YtcepgfpbmembnaaDoor
