/-
  The frequency of islands: at the steady frequency a step changes nothing; a step changes the momentum by the excess, and reduces the distance from the steady frequency in a ratio; islands that are joined keep their momentum and excess; a run can be made in two parts: joined, with the tied cards. Conditions: none but those of the given rows (what the listed tables hold, tied to the program's text).
-/
import Derived.Test.YtilchbhmaflhfaaDoorLawL
import Derived.Test.YtilchbhmaflhfaaDoorSwgB
import Derived.Test.YtilchbhmaflhfaaDoorCards
import Derived.Test.YtilchbhmaflhfaaDoorTie
import Derived.SevenTiedAt
namespace Go.Sim
theorem si_size {x : SI} (h : ok x) : x.Frequency.size ≤ maxLen := h.2.2.2.2
end Go.Sim
namespace Go.Proofs.YtilchbhmaflhfaaDoor
open Go Go.Sim
theorem swingSteady_row : Rows.SwingSteadySaid := SwingSteady_law fun x h => Steady_of x (si_size h)
theorem swingMomentum_row : Rows.SwingMomentumSaid := SwingMomentum_law fun x h => Momentum_of x (si_size h)
theorem swingNearer_row : Rows.SwingNearerSaid := SwingNearer_law fun x h => Nearer_of x (si_size h)
theorem swingJoins_row : Rows.SwingJoinsSaid := SwingJoins_law fun a b h k => Joins_of a b (si_size h) (si_size k)
theorem swingParts_row : Rows.SwingPartsSaid := SwingParts_law fun x m n h hm hn => Parts_of x m n (si_size h) hm hn
theorem swingSteady_card : Rows.SwingSteadyCardSaid :=
  Claim7.holds_tied_plain_at .later [] [.data, .data, .data, .sentinel, .sentinel] true (true, Rows.swingSteadyCard.stood.harness.2) true
    swingSteady_row (fun _ h => by cases h) (by kernel_rfl) (fun _ h => by cases h) swingSteady_row_tie rfl ⟨rfl, rfl⟩ (by kernel_rfl) rfl
    (fun f fn hf hfn => by
      obtain rfl : f = 3 := Option.some.inj ((show Tryd.prog.funcNamed Rows.swingSteadyRow.func = some 3 by kernel_rfl).symm.trans hf) |>.symm
      obtain rfl : fn = Tryd.f3 := (Option.some.inj (Tryd.func3.symm.trans hfn)).symm
      exact ⟨by kernel_rfl, fun j t ht => by
        have hall : (Tryd.f3.params.toList.all fun u => !Tryd.prog.wantsStandIn u) = true := by kernel_rfl
        exact (show Tryd.prog.wantsStandIn t = false by simpa using List.all_eq_true.1 hall t (by simpa using Array.mem_of_getElem? ht))⟩)
    (by kernel_rfl)
theorem swingMomentum_card : Rows.SwingMomentumCardSaid :=
  Claim7.holds_tied_plain_at .later [] [.data, .data, .data, .sentinel, .sentinel] true (true, Rows.swingMomentumCard.stood.harness.2) true
    swingMomentum_row (fun _ h => by cases h) (by kernel_rfl) (fun _ h => by cases h) swingMomentum_row_tie rfl ⟨rfl, rfl⟩ (by kernel_rfl) rfl
    (fun f fn hf hfn => by
      obtain rfl : f = 4 := Option.some.inj ((show Tryd.prog.funcNamed Rows.swingMomentumRow.func = some 4 by kernel_rfl).symm.trans hf) |>.symm
      obtain rfl : fn = Tryd.f4 := (Option.some.inj (Tryd.func4.symm.trans hfn)).symm
      exact ⟨by kernel_rfl, fun j t ht => by
        have hall : (Tryd.f4.params.toList.all fun u => !Tryd.prog.wantsStandIn u) = true := by kernel_rfl
        exact (show Tryd.prog.wantsStandIn t = false by simpa using List.all_eq_true.1 hall t (by simpa using Array.mem_of_getElem? ht))⟩)
    (by kernel_rfl)
theorem swingNearer_card : Rows.SwingNearerCardSaid :=
  Claim7.holds_tied_plain_at .later [] [.data, .data, .data, .sentinel, .sentinel] true (true, Rows.swingNearerCard.stood.harness.2) true
    swingNearer_row (fun _ h => by cases h) (by kernel_rfl) (fun _ h => by cases h) swingNearer_row_tie rfl ⟨rfl, rfl⟩ (by kernel_rfl) rfl
    (fun f fn hf hfn => by
      obtain rfl : f = 5 := Option.some.inj ((show Tryd.prog.funcNamed Rows.swingNearerRow.func = some 5 by kernel_rfl).symm.trans hf) |>.symm
      obtain rfl : fn = Tryd.f5 := (Option.some.inj (Tryd.func5.symm.trans hfn)).symm
      exact ⟨by kernel_rfl, fun j t ht => by
        have hall : (Tryd.f5.params.toList.all fun u => !Tryd.prog.wantsStandIn u) = true := by kernel_rfl
        exact (show Tryd.prog.wantsStandIn t = false by simpa using List.all_eq_true.1 hall t (by simpa using Array.mem_of_getElem? ht))⟩)
    (by kernel_rfl)
theorem swingJoins_card : Rows.SwingJoinsCardSaid :=
  Claim7.holds_tied_plain_at .later [] [.data, .data, .data, .sentinel, .sentinel] true (true, Rows.swingJoinsCard.stood.harness.2) true
    swingJoins_row (fun _ h => by cases h) (by kernel_rfl) (fun _ h => by cases h) swingJoins_row_tie rfl ⟨rfl, rfl⟩ (by kernel_rfl) rfl
    (fun f fn hf hfn => by
      obtain rfl : f = 6 := Option.some.inj ((show Tryd.prog.funcNamed Rows.swingJoinsRow.func = some 6 by kernel_rfl).symm.trans hf) |>.symm
      obtain rfl : fn = Tryd.f6 := (Option.some.inj (Tryd.func6.symm.trans hfn)).symm
      exact ⟨by kernel_rfl, fun j t ht => by
        have hall : (Tryd.f6.params.toList.all fun u => !Tryd.prog.wantsStandIn u) = true := by kernel_rfl
        exact (show Tryd.prog.wantsStandIn t = false by simpa using List.all_eq_true.1 hall t (by simpa using Array.mem_of_getElem? ht))⟩)
    (by kernel_rfl)
theorem swingParts_card : Rows.SwingPartsCardSaid :=
  Claim7.holds_tied_plain_at .later [] [.data, .data, .data, .sentinel, .sentinel] true (true, Rows.swingPartsCard.stood.harness.2) true
    swingParts_row (fun _ h => by cases h) (by kernel_rfl) (fun _ h => by cases h) swingParts_row_tie rfl ⟨rfl, rfl⟩ (by kernel_rfl) rfl
    (fun f fn hf hfn => by
      obtain rfl : f = 7 := Option.some.inj ((show Tryd.prog.funcNamed Rows.swingPartsRow.func = some 7 by kernel_rfl).symm.trans hf) |>.symm
      obtain rfl : fn = Tryd.f7 := (Option.some.inj (Tryd.func7.symm.trans hfn)).symm
      exact ⟨by kernel_rfl, fun j t ht => by
        have hall : (Tryd.f7.params.toList.all fun u => !Tryd.prog.wantsStandIn u) = true := by kernel_rfl
        exact (show Tryd.prog.wantsStandIn t = false by simpa using List.all_eq_true.1 hall t (by simpa using Array.mem_of_getElem? ht))⟩)
    (by kernel_rfl)
end Go.Proofs.YtilchbhmaflhfaaDoor
