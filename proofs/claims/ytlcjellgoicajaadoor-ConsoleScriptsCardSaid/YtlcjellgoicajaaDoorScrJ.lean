/-
  The events of a script are its commands, at the times that the waits give: joined, with the tied card. Conditions: none but those of the given row (what the listed tables hold, tied to the program's text).
-/
import Derived.Test.YtlcjellgoicajaaDoorLawC
import Derived.Test.YtlcjellgoicajaaDoorScrP
import Derived.Test.YtlcjellgoicajaaDoorCards
import Derived.Test.YtlcjellgoicajaaDoorTie
import Derived.SevenTiedAt
namespace Go.Proofs.YtlcjellgoicajaaDoor
open Go Go.Sim
theorem consoleScripts_row : Rows.ConsoleScriptsSaid := ConsoleScripts_law fun _ _ o0 _ => ConsoleScripts_of _ _ (fun c hc => ⟨(o0.2 c hc).1, (o0.2 c hc).2.1⟩)
theorem consoleScripts_card : Rows.ConsoleScriptsCardSaid :=
  Claim7.holds_tied_plain_at .later [] [.data, .data, .data, .data, .sentinel, .sentinel, .pinned] true (true, Rows.consoleScriptsCard.stood.harness.2) true
    consoleScripts_row (fun _ h => by cases h) (by kernel_rfl) (fun _ h => by cases h) consoleScripts_row_tie rfl ⟨rfl, rfl⟩ (by kernel_rfl) rfl
    (fun f fn hf hfn => by
      obtain rfl : f = 4 := Option.some.inj ((show Tryd.prog.funcNamed Rows.consoleScriptsRow.func = some 4 by kernel_rfl).symm.trans hf) |>.symm
      obtain rfl : fn = Tryd.f4 := (Option.some.inj (Tryd.func4.symm.trans hfn)).symm
      exact ⟨by kernel_rfl, fun j t ht => by
        have hall : (Tryd.f4.params.toList.all fun u => !Tryd.prog.wantsStandIn u) = true := by kernel_rfl
        exact (show Tryd.prog.wantsStandIn t = false by simpa using List.all_eq_true.1 hall t (by simpa using Array.mem_of_getElem? ht))⟩)
    (by kernel_rfl)
end Go.Proofs.YtlcjellgoicajaaDoor
