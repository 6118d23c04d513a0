/-
  The archive of a room, as text and recovered, gives a new room the same state: joined, with the tied card. Conditions: none but those of the given rows (what the listed tables hold, tied to the program's text).
-/
import Derived.Test.YtmdikieloiajeaaGreatDoorCards
import Derived.Test.YtmdikieloiajeaaGreatDoorTie
import Derived.SevenTiedAt
import Derived.Test.YtmdikieloiajeaaGreatDoorSqLTjY
import Derived.Test.YtmdikieloiajeaaGreatDoorSqF3
namespace Go.Sim
set_option linter.unusedVariables false
theorem PL {n : aD} (h : ok n) : qL n :=
 ⟨h.1.2, fun x hx => (h.2.1.2 x hx).1, fun x hx => (h.2.2.1.2 x hx).1, fun x hx => (h.2.2.2.1.2 x hx).1, fun x hx => (h.2.2.2.2.1.2 x hx).1, fun x hx => (h.2.2.2.2.2.2 x hx).1⟩
theorem PO {s : cK} (h : ok s) : E6 s :=
 ⟨PL h.1, fun r hr => ⟨(h.2.2 r hr).2.1, fun x hx => ((h.2.2 r hr).2.2.2 x hx).2.1⟩⟩
theorem Qu {l : List aE} (h : ok l) : ∀ e ∈ l, DP e := fun e he => ⟨(h.2 e he).2.1, (h.2 e he).2.2.1⟩
end Go.Sim
namespace Go.Proofs.YtmdikieloiajeaaGreatDoor
open Go Go.Sim
theorem Dd : Rows.TopReplaySaid := C6 fun s l h0 h1 => BJ s (PO h0) l (Qu h1)
theorem topReplay_card : Rows.TopReplayCardSaid :=
 Claim7.holds_tied_plain_at .later [] [.data, .data, .data, .data, .sentinel, .sentinel, .pinned] true (true, Rows.topReplayCard.stood.harness.2) true
  Dd (fun _ h => by cases h) (by kernel_rfl) (fun _ h => by cases h) topReplay_row_tie rfl ⟨rfl, rfl⟩ (by kernel_rfl) rfl
  (fun f fn hf hfn => by
   obtain rfl : f = 3 := Option.some.inj ((show Tryz.prog.funcNamed Rows.topReplayRow.func = some 3 by kernel_rfl).symm.trans hf) |>.symm
   obtain rfl : fn = Tryz.f3 := (Option.some.inj (Tryz.func3.symm.trans hfn)).symm;exact ⟨by kernel_rfl, fun j t ht => by
    have hall : (Tryz.f3.params.toList.all fun u => !Tryz.prog.wantsStandIn u) = true := by kernel_rfl
    exact (show Tryz.prog.wantsStandIn t = false by simpa using List.all_eq_true.1 hall t (by simpa using Array.mem_of_getElem? ht))⟩)
  (by kernel_rfl)
end Go.Proofs.YtmdikieloiajeaaGreatDoor
