/-
  An event that a room refuses changes nothing: joined, with the tied card. Conditions: none but those of the given rows (what the listed tables hold, tied to the program's text).
-/
import Derived.Test.YtkpbgofhndmbnaaGreatDoorCards
import Derived.Test.YtkpbgofhndmbnaaGreatDoorTie
import Derived.SevenTiedAt
import Derived.Test.YtkpbgofhndmbnaaGreatDoorSqLRjX
import Derived.Test.YtkpbgofhndmbnaaGreatDoorSqF3
namespace Go.Sim
set_option linter.unusedVariables false
theorem Fe {n : aD} (h : ok n) : pD n :=
 ⟨h.1.2, fun x hx => (h.2.1.2 x hx).1, fun x hx => (h.2.2.1.2 x hx).1, fun x hx => (h.2.2.2.1.2 x hx).1, fun x hx => (h.2.2.2.2.1.2 x hx).1, fun x hx => (h.2.2.2.2.2.2 x hx).1⟩
theorem Fw {s : aX} (h : ok s) : w7 s :=
 ⟨Fe h.1, fun r hr => ⟨(h.2.2 r hr).2.1, fun x hx => ((h.2.2 r hr).2.2.2 x hx).2.1⟩⟩
theorem JX {l : List aE} (h : ok l) : ∀ e ∈ l, zW e := fun e he => ⟨(h.2 e he).2.1, (h.2 e he).2.2.1⟩
end Go.Sim
namespace Go.Proofs.YtkpbgofhndmbnaaGreatDoor
open Go Go.Sim
theorem AV : Rows.RoomRefusesSaid := AM fun s l h0 h1 => z_ s (Fw h0) l (JX h1)
theorem roomRefuses_card : Rows.RoomRefusesCardSaid :=
 Claim7.holds_tied_plain_at .later [] [.data, .data, .data, .sentinel, .sentinel] true (true, Rows.roomRefusesCard.stood.harness.2) true
  AV (fun _ h => by cases h) (by kernel_rfl) (fun _ h => by cases h) roomRefuses_row_tie rfl ⟨rfl, rfl⟩ (by kernel_rfl) rfl
  (fun f fn hf hfn => by
   obtain rfl : f = 7 := Option.some.inj ((show Tryz.prog.funcNamed Rows.roomRefusesRow.func = some 7 by kernel_rfl).symm.trans hf) |>.symm
   obtain rfl : fn = Tryz.f7 := (Option.some.inj (Tryz.func7.symm.trans hfn)).symm;exact ⟨by kernel_rfl, fun j t ht => by
    have hall : (Tryz.f7.params.toList.all fun u => !Tryz.prog.wantsStandIn u) = true := by kernel_rfl
    exact (show Tryz.prog.wantsStandIn t = false by simpa using List.all_eq_true.1 hall t (by simpa using Array.mem_of_getElem? ht))⟩)
  (by kernel_rfl)
end Go.Proofs.YtkpbgofhndmbnaaGreatDoor
