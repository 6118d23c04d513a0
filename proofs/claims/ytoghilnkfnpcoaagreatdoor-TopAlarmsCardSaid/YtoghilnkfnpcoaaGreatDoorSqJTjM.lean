/-
  Of the alarms for branches over their limits and islands without balance, all are explained by causes that are active: joined, with the tied card. Conditions: none but those of the given rows (what the listed tables hold, tied to the program's text).
-/
import Derived.Test.YtoghilnkfnpcoaaGreatDoorCards
import Derived.Test.YtoghilnkfnpcoaaGreatDoorTie
import Derived.SevenTiedAt
import Derived.Test.YtoghilnkfnpcoaaGreatDoorSqLTjM
import Derived.Test.YtoghilnkfnpcoaaGreatDoorSqF2
namespace Go.Sim
set_option linter.unusedVariables false
theorem LW {n : aG} (h : ok n) : ua n :=
 ⟨h.1.2, fun x hx => (h.2.1.2 x hx).1, fun x hx => (h.2.2.1.2 x hx).1, fun x hx => (h.2.2.2.1.2 x hx).1, fun x hx => (h.2.2.2.2.1.2 x hx).1, fun x hx => (h.2.2.2.2.2.2 x hx).1⟩
theorem MI {l : List aF} (h : ok l) : IZ l := fun c hc => ⟨(h.2 c hc).1, (h.2 c hc).2⟩
end Go.Sim
namespace Go.Proofs.YtoghilnkfnpcoaaGreatDoor
open Go Go.Sim
theorem AW : Rows.TopAlarmsSaid := AR fun cs n k h0 h1 _=> zJ cs (MI h0) n (LW h1) k
theorem topAlarms_card : Rows.TopAlarmsCardSaid :=
 Claim7.holds_tied_plain_at .later [] [.data, .data, .data, .sentinel, .sentinel] true (true, Rows.topAlarmsCard.stood.harness.2) true
  AW (fun _ h => by cases h) (by kernel_rfl) (fun _ h => by cases h) topAlarms_row_tie rfl ⟨rfl, rfl⟩ (by kernel_rfl) rfl
  (fun f fn hf hfn => by
   obtain rfl : f = 3 := Option.some.inj ((show Tryz.prog.funcNamed Rows.topAlarmsRow.func = some 3 by kernel_rfl).symm.trans hf) |>.symm
   obtain rfl : fn = Tryz.f3 := (Option.some.inj (Tryz.func3.symm.trans hfn)).symm;exact ⟨by kernel_rfl, fun j t ht => by
    have hall : (Tryz.f3.params.toList.all fun u => !Tryz.prog.wantsStandIn u) = true := by kernel_rfl
    exact (show Tryz.prog.wantsStandIn t = false by simpa using List.all_eq_true.1 hall t (by simpa using Array.mem_of_getElem? ht))⟩)
  (by kernel_rfl)
end Go.Proofs.YtoghilnkfnpcoaaGreatDoor
