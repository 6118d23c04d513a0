/-
  A command is parsed as it was printed, and printed as it was parsed: joined, with the tied card. Conditions: none but those of the given row (what the listed tables hold, tied to the program's text).
-/
import Derived.Test.YtlcjellgoicajaaDoorLawC
import Derived.Test.YtlcjellgoicajaaDoorBakQ
import Derived.Test.YtlcjellgoicajaaDoorCards
import Derived.Test.YtlcjellgoicajaaDoorTie
import Derived.SevenTiedAt
namespace Go.Proofs.YtlcjellgoicajaaDoor
open Go Go.Sim
theorem consoleBack_row : Rows.ConsoleBackSaid := ConsoleBack_law fun _ _ o0 _ => ConsoleBack_of _ _ o0.1 o0.2.1
theorem consoleBack_card : Rows.ConsoleBackCardSaid :=
  Claim7.holds_tied_plain_at .later [] [.data, .data, .data, .data, .sentinel, .sentinel, .pinned] true (true, Rows.consoleBackCard.stood.harness.2) true
    consoleBack_row (fun _ h => by cases h) (by kernel_rfl) (fun _ h => by cases h) consoleBack_row_tie rfl ⟨rfl, rfl⟩ (by kernel_rfl) rfl
    (fun f fn hf hfn => by
      obtain rfl : f = 3 := Option.some.inj ((show Tryd.prog.funcNamed Rows.consoleBackRow.func = some 3 by kernel_rfl).symm.trans hf) |>.symm
      obtain rfl : fn = Tryd.f3 := (Option.some.inj (Tryd.func3.symm.trans hfn)).symm
      exact ⟨by kernel_rfl, fun j t ht => by
        have hall : (Tryd.f3.params.toList.all fun u => !Tryd.prog.wantsStandIn u) = true := by kernel_rfl
        exact (show Tryd.prog.wantsStandIn t = false by simpa using List.all_eq_true.1 hall t (by simpa using Array.mem_of_getElem? ht))⟩)
    (by kernel_rfl)
end Go.Proofs.YtlcjellgoicajaaDoor
