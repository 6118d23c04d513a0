/-
  Of a text that was cut anywhere exactly the events with complete lines are recovered, and their digest: joined, with the tied card. Conditions: none but those of the given row (what the listed tables hold, tied to the program's text).
-/
import Derived.Test.YtldmgakhhhjhoaaDoorLawR
import Derived.Test.YtldmgakhhhjhoaaDoorAryC
import Derived.Test.YtldmgakhhhjhoaaDoorCards
import Derived.Test.YtldmgakhhhjhoaaDoorTie
import Derived.SevenTiedAt
namespace Go.Sim
theorem evsz {l : List Ev} (h : ok l) : ∀ e ∈ l, EvSz e := fun e he => ⟨(h.2 e he).2.1, (h.2 e he).2.2.1⟩
end Go.Sim
namespace Go.Proofs.YtldmgakhhhjhoaaDoor
open Go Go.Sim
theorem archiveTorn_row : Rows.ArchiveTornSaid := ArchiveTorn_law fun _ _ o0 _ => ArchiveTorn_of _ _ (evsz o0)
theorem archiveTorn_card : Rows.ArchiveTornCardSaid :=
  Claim7.holds_tied_plain_at .later [] [.data, .data, .data, .data, .sentinel, .sentinel, .pinned] true (true, Rows.archiveTornCard.stood.harness.2) true
    archiveTorn_row (fun _ h => by cases h) (by kernel_rfl) (fun _ h => by cases h) archiveTorn_row_tie rfl ⟨rfl, rfl⟩ (by kernel_rfl) rfl
    (fun f fn hf hfn => by
      obtain rfl : f = 6 := Option.some.inj ((show Tryd.prog.funcNamed Rows.archiveTornRow.func = some 6 by kernel_rfl).symm.trans hf) |>.symm
      obtain rfl : fn = Tryd.f6 := (Option.some.inj (Tryd.func6.symm.trans hfn)).symm
      exact ⟨by kernel_rfl, fun j t ht => by
        have hall : (Tryd.f6.params.toList.all fun u => !Tryd.prog.wantsStandIn u) = true := by kernel_rfl
        exact (show Tryd.prog.wantsStandIn t = false by simpa using List.all_eq_true.1 hall t (by simpa using Array.mem_of_getElem? ht))⟩)
    (by kernel_rfl)
end Go.Proofs.YtldmgakhhhjhoaaDoor
