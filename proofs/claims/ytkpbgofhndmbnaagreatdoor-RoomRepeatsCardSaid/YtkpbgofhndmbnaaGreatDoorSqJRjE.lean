/-
  The events of a room's log that the room did not add itself lead to the same log: joined, with the tied card. Conditions: none but those of the given rows (what the listed tables hold, tied to the program's text).
-/
import Derived.Test.YtkpbgofhndmbnaaGreatDoorCards
import Derived.Test.YtkpbgofhndmbnaaGreatDoorTie
import Derived.SevenTiedAt
import Derived.Test.YtkpbgofhndmbnaaGreatDoorSqLRjE
import Derived.Test.YtkpbgofhndmbnaaGreatDoorSqF3
namespace Go.Sim
set_option linter.unusedVariables false
theorem Kl {n : aE} (h : ok n) : pG n :=
 ⟨h.1.2, fun x hx => (h.2.1.2 x hx).1, fun x hx => (h.2.2.1.2 x hx).1, fun x hx => (h.2.2.2.1.2 x hx).1, fun x hx => (h.2.2.2.2.1.2 x hx).1, fun x hx => (h.2.2.2.2.2.2 x hx).1⟩
theorem KJ {s : aX} (h : ok s) : vX s :=
 ⟨Kl h.1, fun r hr => ⟨(h.2.2 r hr).2.1, fun x hx => ((h.2.2 r hr).2.2.2 x hx).2.1⟩⟩
theorem Nf {l : List aB} (h : ok l) : ∀ e ∈ l, yB e := fun e he => ⟨(h.2 e he).2.1, (h.2 e he).2.2.1⟩
end Go.Sim
namespace Go.Proofs.YtkpbgofhndmbnaaGreatDoor
open Go Go.Sim
theorem AA : Rows.RoomRepeatsSaid := Aq fun s l h0 h1 => zL s (KJ h0) l (Nf h1)
theorem roomRepeats_card : Rows.RoomRepeatsCardSaid :=
 Claim7.holds_tied_plain_at .later [] [.data, .data, .data, .sentinel, .sentinel] true (true, Rows.roomRepeatsCard.stood.harness.2) true
  AA (fun _ h => by cases h) (by kernel_rfl) (fun _ h => by cases h) roomRepeats_row_tie rfl ⟨rfl, rfl⟩ (by kernel_rfl) rfl
  (fun f fn hf hfn => by
   obtain rfl : f = 6 := Option.some.inj ((show Tryz.prog.funcNamed Rows.roomRepeatsRow.func = some 6 by kernel_rfl).symm.trans hf) |>.symm
   obtain rfl : fn = Tryz.f6 := (Option.some.inj (Tryz.func6.symm.trans hfn)).symm;exact ⟨by kernel_rfl, fun j t ht => by
    have hall : (Tryz.f6.params.toList.all fun u => !Tryz.prog.wantsStandIn u) = true := by kernel_rfl
    exact (show Tryz.prog.wantsStandIn t = false by simpa using List.all_eq_true.1 hall t (by simpa using Array.mem_of_getElem? ht))⟩)
  (by kernel_rfl)
end Go.Proofs.YtkpbgofhndmbnaaGreatDoor
