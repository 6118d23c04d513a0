/-
  Whatever operators do, each island of a room is balanced, and no branch whose rating is exceeded carries more than its limit, unless switching off any set of loads would not help: joined, with the tied card. Conditions: none but those of the given rows (what the listed tables hold, tied to the program's text).
-/
import Derived.Test.YthomhaphclgbcaaGreatDoorCards
import Derived.Test.YthomhaphclgbcaaGreatDoorTie
import Derived.SevenTiedAt
import Derived.Test.YthomhaphclgbcaaGreatDoorSqLTjR
import Derived.Test.YthomhaphclgbcaaGreatDoorSqF3
namespace Go.Sim
set_option linter.unusedVariables false
theorem M5 {n : aD} (h : ok n) : px n :=
 ⟨h.1.2, fun x hx => (h.2.1.2 x hx).1, fun x hx => (h.2.2.1.2 x hx).1, fun x hx => (h.2.2.2.1.2 x hx).1, fun x hx => (h.2.2.2.2.1.2 x hx).1, fun x hx => (h.2.2.2.2.2.2 x hx).1⟩
theorem M8 {s : cH} (h : ok s) : CZ s :=
 ⟨M5 h.1, fun r hr => ⟨(h.2.2 r hr).2.1, fun x hx => ((h.2.2 r hr).2.2.2 x hx).2.1⟩⟩
theorem NS {l : List aH} (h : ok l) : ∀ e ∈ l, CW e := fun e he => ⟨(h.2 e he).2.1, (h.2 e he).2.2.1⟩
end Go.Sim
namespace Go.Proofs.YthomhaphclgbcaaGreatDoor
open Go Go.Sim
theorem DY : Rows.TopRoomSaid := C1 fun s l h0 h1 => BS s (M8 h0) l (NS h1)
theorem topRoom_card : Rows.TopRoomCardSaid :=
 Claim7.holds_tied_plain_at .later [] [.data, .data, .data, .sentinel, .sentinel] true (true, Rows.topRoomCard.stood.harness.2) true
  DY (fun _ h => by cases h) (by kernel_rfl) (fun _ h => by cases h) topRoom_row_tie rfl ⟨rfl, rfl⟩ (by kernel_rfl) rfl
  (fun f fn hf hfn => by
   obtain rfl : f = 3 := Option.some.inj ((show Tryz.prog.funcNamed Rows.topRoomRow.func = some 3 by kernel_rfl).symm.trans hf) |>.symm
   obtain rfl : fn = Tryz.f3 := (Option.some.inj (Tryz.func3.symm.trans hfn)).symm;exact ⟨by kernel_rfl, fun j t ht => by
    have hall : (Tryz.f3.params.toList.all fun u => !Tryz.prog.wantsStandIn u) = true := by kernel_rfl
    exact (show Tryz.prog.wantsStandIn t = false by simpa using List.all_eq_true.1 hall t (by simpa using Array.mem_of_getElem? ht))⟩)
  (by kernel_rfl)
end Go.Proofs.YthomhaphclgbcaaGreatDoor
