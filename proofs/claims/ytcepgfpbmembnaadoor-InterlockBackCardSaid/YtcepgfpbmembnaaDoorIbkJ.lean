/-
  Rules are parsed as they were printed; what was parsed, printed and parsed again is the same: joined, with the tied card. Conditions: none but those of the given row (what the listed tables hold, tied to the program's text).
-/
import Derived.Test.YtcepgfpbmembnaaDoorLawB
import Derived.Test.YtcepgfpbmembnaaDoorIbkI
import Derived.Test.YtcepgfpbmembnaaDoorCards
import Derived.Test.YtcepgfpbmembnaaDoorTie
import Derived.SevenTiedAt
namespace Go.Sim
theorem fact_true : m_gridhallkeep4_interlockFact = some true := by kernel_rfl
theorem rulesz {l : List Rule} (h : ok l) : ∀ r ∈ l, RuleSz r := fun r hr => ⟨(h.2 r hr).2.1, fun x hx => ((h.2 r hr).2.2.2 x hx).2.1⟩
end Go.Sim
namespace Go.Proofs.YtcepgfpbmembnaaDoor
open Go Go.Sim
theorem interlockBack_row : Rows.InterlockBackSaid := InterlockBack_law fun _ _ o0 _ => InterlockBack_of fact_true _ _ (rulesz o0)
theorem interlockBack_card : Rows.InterlockBackCardSaid :=
  Claim7.holds_tied_plain_at .later [] [.data, .pinned] true (true, Rows.interlockBackCard.stood.harness.2) false
    interlockBack_row (fun _ h => by cases h) (by kernel_rfl) (fun _ h => by cases h) interlockBack_row_tie rfl ⟨rfl, rfl⟩ (by kernel_rfl) rfl
    (fun f fn hf hfn => by
      obtain rfl : f = 3 := Option.some.inj ((show Tryd.prog.funcNamed Rows.interlockBackRow.func = some 3 by kernel_rfl).symm.trans hf) |>.symm
      obtain rfl : fn = Tryd.f3 := (Option.some.inj (Tryd.func3.symm.trans hfn)).symm
      exact ⟨by kernel_rfl, fun j t ht => by
        have hall : (Tryd.f3.params.toList.all fun u => !Tryd.prog.wantsStandIn u) = true := by kernel_rfl
        exact (show Tryd.prog.wantsStandIn t = false by simpa using List.all_eq_true.1 hall t (by simpa using Array.mem_of_getElem? ht))⟩)
    (by kernel_rfl)
end Go.Proofs.YtcepgfpbmembnaaDoor
