/-
  The injections of islands are balanced, so that there is a state, and it is accepted: joined, with the tied card. Conditions: none but those of the given rows (what the listed tables hold, tied to the program's text).
-/
import Derived.Test.YtolgkppopmgmjaaGreatDoorCards
import Derived.Test.YtolgkppopmgmjaaGreatDoorTie
import Derived.SevenTiedAt
import Derived.Test.YtolgkppopmgmjaaGreatDoorSqC5
import Derived.Test.YtolgkppopmgmjaaGreatDoorSqF2
namespace Go.Sim
set_option linter.unusedVariables false
theorem DP {n : aJ} (h : ok n) : oZ n :=
 ⟨h.1.2, fun x hx => (h.2.1.2 x hx).1, fun x hx => (h.2.2.1.2 x hx).1, fun x hx => (h.2.2.2.1.2 x hx).1, fun x hx => (h.2.2.2.2.1.2 x hx).1, fun x hx => (h.2.2.2.2.2.2 x hx).1⟩
end Go.Sim
namespace Go.Proofs.YtolgkppopmgmjaaGreatDoor
open Go Go.Sim
theorem q9 : Rows.IslandsBalancedSaid := q6 fun n h => qq n (DP h)
theorem islandsBalanced_card : Rows.IslandsBalancedCardSaid :=
 Claim7.holds_tied_plain_at .later [] [.data, .data, .data, .sentinel, .sentinel] true (true, Rows.islandsBalancedCard.stood.harness.2) true
  q9 (fun _ h => by cases h) (by kernel_rfl) (fun _ h => by cases h) islandsBalanced_row_tie rfl ⟨rfl, rfl⟩ (by kernel_rfl) rfl
  (fun f fn hf hfn => by
   obtain rfl : f = 3 := Option.some.inj ((show Tryz.prog.funcNamed Rows.islandsBalancedRow.func = some 3 by kernel_rfl).symm.trans hf) |>.symm
   obtain rfl : fn = Tryz.f3 := (Option.some.inj (Tryz.func3.symm.trans hfn)).symm
   exact ⟨by kernel_rfl, fun j t ht => by
    have hall : (Tryz.f3.params.toList.all fun u => !Tryz.prog.wantsStandIn u) = true := by kernel_rfl
    exact (show Tryz.prog.wantsStandIn t = false by simpa using List.all_eq_true.1 hall t (by simpa using Array.mem_of_getElem? ht))⟩)
  (by kernel_rfl)
end Go.Proofs.YtolgkppopmgmjaaGreatDoor
