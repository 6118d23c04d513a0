/-
  A switch that is held is not operated: joined, with the tied card. Conditions: none but those of the given rows (what the listed tables hold, tied to the program's text).
-/
import Derived.Test.YtkpbgofhndmbnaaGreatDoorCards
import Derived.Test.YtkpbgofhndmbnaaGreatDoorTie
import Derived.SevenTiedAt
import Derived.Test.YtkpbgofhndmbnaaGreatDoorSqC5
import Derived.Test.YtkpbgofhndmbnaaGreatDoorSqF3
namespace Go.Sim
set_option linter.unusedVariables false
theorem MU {n : aD} (h : ok n) : oL n :=
 ⟨h.1.2, fun x hx => (h.2.1.2 x hx).1, fun x hx => (h.2.2.1.2 x hx).1, fun x hx => (h.2.2.2.1.2 x hx).1, fun x hx => (h.2.2.2.2.1.2 x hx).1, fun x hx => (h.2.2.2.2.2.2 x hx).1⟩
theorem MY {s : cI} (h : ok s) : Bn s :=
 ⟨MU h.1, fun r hr => ⟨(h.2.2 r hr).2.1, fun x hx => ((h.2.2 r hr).2.2.2 x hx).2.1⟩⟩
theorem NM {l : List aI} (h : ok l) : ∀ e ∈ l, CV e := fun e he => ⟨(h.2 e he).2.1, (h.2 e he).2.2.1⟩
end Go.Sim
namespace Go.Proofs.YtkpbgofhndmbnaaGreatDoor
open Go Go.Sim
theorem CF : Rows.RoomHeldSaid := BP fun s l k h0 h1 h2 => Ba s (MY h0) l (NM h1) k
theorem roomHeld_card : Rows.RoomHeldCardSaid :=
 Claim7.holds_tied_plain_at .later [] [.data, .data, .data, .sentinel, .sentinel] true (true, Rows.roomHeldCard.stood.harness.2) true
  CF (fun _ h => by cases h) (by kernel_rfl) (fun _ h => by cases h) roomHeld_row_tie rfl ⟨rfl, rfl⟩ (by kernel_rfl) rfl
  (fun f fn hf hfn => by
   obtain rfl : f = 3 := Option.some.inj ((show Tryz.prog.funcNamed Rows.roomHeldRow.func = some 3 by kernel_rfl).symm.trans hf) |>.symm
   obtain rfl : fn = Tryz.f3 := (Option.some.inj (Tryz.func3.symm.trans hfn)).symm;exact ⟨by kernel_rfl, fun j t ht => by
    have hall : (Tryz.f3.params.toList.all fun u => !Tryz.prog.wantsStandIn u) = true := by kernel_rfl
    exact (show Tryz.prog.wantsStandIn t = false by simpa using List.all_eq_true.1 hall t (by simpa using Array.mem_of_getElem? ht))⟩)
  (by kernel_rfl)
end Go.Proofs.YtkpbgofhndmbnaaGreatDoor
