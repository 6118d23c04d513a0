/-
  After one byte was changed, the events of the lines before it are recovered: joined, with the tied card. Conditions: none but those of the given row (what the listed tables hold, tied to the program's text).
-/
import Derived.Test.YtldmgakhhhjhoaaDoorLawS
import Derived.Test.YtldmgakhhhjhoaaDoorAspC
import Derived.Test.YtldmgakhhhjhoaaDoorCards
import Derived.Test.YtldmgakhhhjhoaaDoorTie
import Derived.SevenTiedAt
namespace Go.Sim
theorem evsz {l : List Ev} (h : ok l) : ∀ e ∈ l, EvSz e := fun e he => ⟨(h.2 e he).2.1, (h.2 e he).2.2.1⟩
end Go.Sim
namespace Go.Proofs.YtldmgakhhhjhoaaDoor
open Go Go.Sim
theorem archiveSpoilt_row : Rows.ArchiveSpoiltSaid := ArchiveSpoilt_law fun _ _ _ o0 _ o2 => ArchiveSpoilt_of _ _ _ (evsz o0) o2
theorem archiveSpoilt_card : Rows.ArchiveSpoiltCardSaid :=
  Claim7.holds_tied_plain_at .later [] [.data, .data, .data, .data, .sentinel, .sentinel, .pinned] true (true, Rows.archiveSpoiltCard.stood.harness.2) true
    archiveSpoilt_row (fun _ h => by cases h) (by kernel_rfl) (fun _ h => by cases h) archiveSpoilt_row_tie rfl ⟨rfl, rfl⟩ (by kernel_rfl) rfl
    (fun f fn hf hfn => by
      obtain rfl : f = 5 := Option.some.inj ((show Tryd.prog.funcNamed Rows.archiveSpoiltRow.func = some 5 by kernel_rfl).symm.trans hf) |>.symm
      obtain rfl : fn = Tryd.f5 := (Option.some.inj (Tryd.func5.symm.trans hfn)).symm
      exact ⟨by kernel_rfl, fun j t ht => by
        have hall : (Tryd.f5.params.toList.all fun u => !Tryd.prog.wantsStandIn u) = true := by kernel_rfl
        exact (show Tryd.prog.wantsStandIn t = false by simpa using List.all_eq_true.1 hall t (by simpa using Array.mem_of_getElem? ht))⟩)
    (by kernel_rfl)
end Go.Proofs.YtldmgakhhhjhoaaDoor
