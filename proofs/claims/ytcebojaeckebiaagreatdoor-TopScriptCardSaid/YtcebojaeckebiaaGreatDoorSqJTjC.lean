/-
  A script of commands and its events lead a room to the same: joined, with the tied card. Conditions: none but those of the given rows (what the listed tables hold, tied to the program's text).
-/
import Derived.Test.YtcebojaeckebiaaGreatDoorCards
import Derived.Test.YtcebojaeckebiaaGreatDoorTie
import Derived.SevenTiedAt
import Derived.Test.YtcebojaeckebiaaGreatDoorSqLTjC
import Derived.Test.YtcebojaeckebiaaGreatDoorSqF3
namespace Go.Sim
set_option linter.unusedVariables false
theorem Pb {n : aF} (h : ok n) : qp n :=
 ⟨h.1.2, fun x hx => (h.2.1.2 x hx).1, fun x hx => (h.2.2.1.2 x hx).1, fun x hx => (h.2.2.2.1.2 x hx).1, fun x hx => (h.2.2.2.2.1.2 x hx).1, fun x hx => (h.2.2.2.2.2.2 x hx).1⟩
theorem Pg {s : cM} (h : ok s) : EP s :=
 ⟨Pb h.1, fun r hr => ⟨(h.2.2 r hr).2.1, fun x hx => ((h.2.2 r hr).2.2.2 x hx).2.1⟩⟩
theorem OY {l : List aV} (h : ok l) : ∀ c ∈ l, c.iB.size ≤ maxLen ∧ c.Name.size ≤ maxLen := fun e he => ⟨(h.2 e he).1, (h.2 e he).2.1⟩
end Go.Sim
namespace Go.Proofs.YtcebojaeckebiaaGreatDoor
open Go Go.Sim
theorem C9 : Rows.TopScriptSaid := C2 fun s l h0 h1 => Bz s (Pg h0) l (OY h1)
theorem topScript_card : Rows.TopScriptCardSaid :=
 Claim7.holds_tied_plain_at .later [] [.data, .data, .data, .data, .sentinel, .sentinel, .pinned] true (true, Rows.topScriptCard.stood.harness.2) true
  C9 (fun _ h => by cases h) (by kernel_rfl) (fun _ h => by cases h) topScript_row_tie rfl ⟨rfl, rfl⟩ (by kernel_rfl) rfl
  (fun f fn hf hfn => by
   obtain rfl : f = 3 := Option.some.inj ((show Tryz.prog.funcNamed Rows.topScriptRow.func = some 3 by kernel_rfl).symm.trans hf) |>.symm
   obtain rfl : fn = Tryz.f3 := (Option.some.inj (Tryz.func3.symm.trans hfn)).symm;exact ⟨by kernel_rfl, fun j t ht => by
    have hall : (Tryz.f3.params.toList.all fun u => !Tryz.prog.wantsStandIn u) = true := by kernel_rfl
    exact (show Tryz.prog.wantsStandIn t = false by simpa using List.all_eq_true.1 hall t (by simpa using Array.mem_of_getElem? ht))⟩)
  (by kernel_rfl)
end Go.Proofs.YtcebojaeckebiaaGreatDoor
