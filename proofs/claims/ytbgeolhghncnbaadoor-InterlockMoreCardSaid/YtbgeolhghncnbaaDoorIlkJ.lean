/-
  Exactly one of a condition and its negation forbids an operation; an operation changes one switch, and the opposite one takes it back; with further rules everything that was forbidden still is: joined, with the tied cards. Conditions: none but those of the given rows (what the listed tables hold, tied to the program's text).
-/
import Derived.Test.YtbgeolhghncnbaaDoorLawK
import Derived.Test.YtbgeolhghncnbaaDoorIlkR
import Derived.Test.YtbgeolhghncnbaaDoorCards
import Derived.Test.YtbgeolhghncnbaaDoorTie
import Derived.SevenTiedAt
namespace Go.Sim
set_option linter.unusedVariables false
set_option linter.unusedSimpArgs false
theorem rlsz {l : List Rule} (h : ok l) : ∀ r ∈ l, RuleSz r := fun r hr => ⟨(h.2 r hr).2.1, fun x hx => ((h.2 r hr).2.2.2 x hx).2.1⟩
theorem rsz {r : Rule} (h : ok r) : RuleSz r := ⟨h.2.1, fun x hx => (h.2.2.2 x hx).2.1⟩
theorem swsz {l : List Sw} (h : ok l) : ∀ x ∈ l, x.Name.size ≤ maxLen := fun x hx => (h.2 x hx).1
end Go.Sim
namespace Go.Proofs.YtbgeolhghncnbaaDoor
open Go Go.Sim
theorem interlockNot_row : Rows.InterlockNotSaid := InterlockNot_law fun _ _ o0 o1 _ z => InterlockNot_of _ _ (rsz o0) (swsz o1) z
theorem interlockSets_row : Rows.InterlockSetsSaid := InterlockSets_law fun _ _ _ o0 _ => InterlockSets_of _ _ _ (swsz o0)
theorem interlockMore_row : Rows.InterlockMoreSaid := InterlockMore_law fun _ _ _ _ _ o0 o1 o2 _ z0 z1 _ => InterlockMore_of _ _ _ _ _ (rlsz o0) (rlsz o1) (swsz o2) z0 z1
theorem interlockNot_card : Rows.InterlockNotCardSaid :=
  Claim7.holds_tied_plain_at .later [] [.data, .pinned] true (true, Rows.interlockNotCard.stood.harness.2) false
    interlockNot_row (fun _ h => by cases h) (by kernel_rfl) (fun _ h => by cases h) interlockNot_row_tie rfl ⟨rfl, rfl⟩ (by kernel_rfl) rfl
    (fun f fn hf hfn => by
      obtain rfl : f = 4 := Option.some.inj ((show Tryd.prog.funcNamed Rows.interlockNotRow.func = some 4 by kernel_rfl).symm.trans hf) |>.symm
      obtain rfl : fn = Tryd.f4 := (Option.some.inj (Tryd.func4.symm.trans hfn)).symm
      exact ⟨by kernel_rfl, fun j t ht => by
        have hall : (Tryd.f4.params.toList.all fun u => !Tryd.prog.wantsStandIn u) = true := by kernel_rfl
        exact (show Tryd.prog.wantsStandIn t = false by simpa using List.all_eq_true.1 hall t (by simpa using Array.mem_of_getElem? ht))⟩)
    (by kernel_rfl)
theorem interlockSets_card : Rows.InterlockSetsCardSaid :=
  Claim7.holds_tied_plain_at .later [] [.data, .pinned] true (true, Rows.interlockSetsCard.stood.harness.2) false
    interlockSets_row (fun _ h => by cases h) (by kernel_rfl) (fun _ h => by cases h) interlockSets_row_tie rfl ⟨rfl, rfl⟩ (by kernel_rfl) rfl
    (fun f fn hf hfn => by
      obtain rfl : f = 5 := Option.some.inj ((show Tryd.prog.funcNamed Rows.interlockSetsRow.func = some 5 by kernel_rfl).symm.trans hf) |>.symm
      obtain rfl : fn = Tryd.f5 := (Option.some.inj (Tryd.func5.symm.trans hfn)).symm
      exact ⟨by kernel_rfl, fun j t ht => by
        have hall : (Tryd.f5.params.toList.all fun u => !Tryd.prog.wantsStandIn u) = true := by kernel_rfl
        exact (show Tryd.prog.wantsStandIn t = false by simpa using List.all_eq_true.1 hall t (by simpa using Array.mem_of_getElem? ht))⟩)
    (by kernel_rfl)
theorem interlockMore_card : Rows.InterlockMoreCardSaid :=
  Claim7.holds_tied_plain_at .later [] [.data, .pinned] true (true, Rows.interlockMoreCard.stood.harness.2) false
    interlockMore_row (fun _ h => by cases h) (by kernel_rfl) (fun _ h => by cases h) interlockMore_row_tie rfl ⟨rfl, rfl⟩ (by kernel_rfl) rfl
    (fun f fn hf hfn => by
      obtain rfl : f = 6 := Option.some.inj ((show Tryd.prog.funcNamed Rows.interlockMoreRow.func = some 6 by kernel_rfl).symm.trans hf) |>.symm
      obtain rfl : fn = Tryd.f6 := (Option.some.inj (Tryd.func6.symm.trans hfn)).symm
      exact ⟨by kernel_rfl, fun j t ht => by
        have hall : (Tryd.f6.params.toList.all fun u => !Tryd.prog.wantsStandIn u) = true := by kernel_rfl
        exact (show Tryd.prog.wantsStandIn t = false by simpa using List.all_eq_true.1 hall t (by simpa using Array.mem_of_getElem? ht))⟩)
    (by kernel_rfl)
end Go.Proofs.YtbgeolhghncnbaaDoor
