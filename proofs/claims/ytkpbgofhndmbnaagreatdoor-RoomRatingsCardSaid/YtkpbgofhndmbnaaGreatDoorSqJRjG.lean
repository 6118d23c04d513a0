/-
  If the rating of a branch is exceeded and it still carries more than its limit, the room says so, and then no set of loads that could be switched off would help: joined, with the tied card. Conditions: none but those of the given rows (what the listed tables hold, tied to the program's text).
-/
import Derived.Test.YtkpbgofhndmbnaaGreatDoorCards
import Derived.Test.YtkpbgofhndmbnaaGreatDoorTie
import Derived.SevenTiedAt
import Derived.Test.YtkpbgofhndmbnaaGreatDoorSqLRjG
import Derived.Test.YtkpbgofhndmbnaaGreatDoorSqF3
namespace Go.Sim
set_option linter.unusedVariables false
theorem Kl {n : aE} (h : ok n) : pG n :=
 ⟨h.1.2, fun x hx => (h.2.1.2 x hx).1, fun x hx => (h.2.2.1.2 x hx).1, fun x hx => (h.2.2.2.1.2 x hx).1, fun x hx => (h.2.2.2.2.1.2 x hx).1, fun x hx => (h.2.2.2.2.2.2 x hx).1⟩
theorem KJ {s : aX} (h : ok s) : vX s :=
 ⟨Kl h.1, fun r hr => ⟨(h.2.2 r hr).2.1, fun x hx => ((h.2.2 r hr).2.2.2 x hx).2.1⟩⟩
theorem Nf {l : List aB} (h : ok l) : ∀ e ∈ l, yB e := fun e he => ⟨(h.2 e he).2.1, (h.2 e he).2.2.1⟩
end Go.Sim
namespace Go.Proofs.YtkpbgofhndmbnaaGreatDoor
open Go Go.Sim
theorem Az : Rows.RoomRatingsSaid := Ap fun s l h0 h1 => zJ s (KJ h0) l (Nf h1)
theorem roomRatings_card : Rows.RoomRatingsCardSaid :=
 Claim7.holds_tied_plain_at .later [] [.data, .data, .data, .sentinel, .sentinel] true (true, Rows.roomRatingsCard.stood.harness.2) true
  Az (fun _ h => by cases h) (by kernel_rfl) (fun _ h => by cases h) roomRatings_row_tie rfl ⟨rfl, rfl⟩ (by kernel_rfl) rfl
  (fun f fn hf hfn => by
   obtain rfl : f = 5 := Option.some.inj ((show Tryz.prog.funcNamed Rows.roomRatingsRow.func = some 5 by kernel_rfl).symm.trans hf) |>.symm
   obtain rfl : fn = Tryz.f5 := (Option.some.inj (Tryz.func5.symm.trans hfn)).symm;exact ⟨by kernel_rfl, fun j t ht => by
    have hall : (Tryz.f5.params.toList.all fun u => !Tryz.prog.wantsStandIn u) = true := by kernel_rfl
    exact (show Tryz.prog.wantsStandIn t = false by simpa using List.all_eq_true.1 hall t (by simpa using Array.mem_of_getElem? ht))⟩)
  (by kernel_rfl)
end Go.Proofs.YtkpbgofhndmbnaaGreatDoor
