/-
  The state of a network with some loads is accepted, and the branches over their limits are those whose flows say so: joined, with the tied card. Conditions: none but those of the given rows (what the listed tables hold, tied to the program's text).
-/
import Derived.Test.YtcfeheigjjnpnaaGreatDoorCards
import Derived.Test.YtcfeheigjjnpnaaGreatDoorTie
import Derived.SevenTiedAt
import Derived.Test.YtcfeheigjjnpnaaGreatDoorSqC5
import Derived.Test.YtcfeheigjjnpnaaGreatDoorSqF2
namespace Go.Sim
set_option linter.unusedVariables false
theorem FT {n : aD} (h : ok n) : oh n :=
 ⟨h.1.2, fun x hx => (h.2.1.2 x hx).1, fun x hx => (h.2.2.1.2 x hx).1, fun x hx => (h.2.2.2.1.2 x hx).1, fun x hx => (h.2.2.2.2.1.2 x hx).1, fun x hx => (h.2.2.2.2.2.2 x hx).1⟩
end Go.Sim
namespace Go.Proofs.YtcfeheigjjnpnaaGreatDoor
open Go Go.Sim
theorem tU : Rows.RebuildStatesSaid := tk fun n set h _ => sX n (FT h) set
theorem rebuildStates_card : Rows.RebuildStatesCardSaid :=
 Claim7.holds_tied_plain_at .later [] [.data, .data, .data, .sentinel, .sentinel] true (true, Rows.rebuildStatesCard.stood.harness.2) true
  tU (fun _ h => by cases h) (by kernel_rfl) (fun _ h => by cases h) rebuildStates_row_tie rfl ⟨rfl, rfl⟩ (by kernel_rfl) rfl
  (fun f fn hf hfn => by
   obtain rfl : f = 4 := Option.some.inj ((show Tryz.prog.funcNamed Rows.rebuildStatesRow.func = some 4 by kernel_rfl).symm.trans hf) |>.symm
   obtain rfl : fn = Tryz.f4 := (Option.some.inj (Tryz.func4.symm.trans hfn)).symm;exact ⟨by kernel_rfl, fun j t ht => by
    have hall : (Tryz.f4.params.toList.all fun u => !Tryz.prog.wantsStandIn u) = true := by kernel_rfl
    exact (show Tryz.prog.wantsStandIn t = false by simpa using List.all_eq_true.1 hall t (by simpa using Array.mem_of_getElem? ht))⟩)
  (by kernel_rfl)
end Go.Proofs.YtcfeheigjjnpnaaGreatDoor
