/-
  After the relief no branch carries more than its limit, and with fewer loads switched off some branch does, or the network is not balanced: joined, with the tied card. Conditions: none but those of the given rows (what the listed tables hold, tied to the program's text).
-/
import Derived.Test.YtcfeheigjjnpnaaGreatDoorCards
import Derived.Test.YtcfeheigjjnpnaaGreatDoorTie
import Derived.SevenTiedAt
import Derived.Test.YtcfeheigjjnpnaaGreatDoorSqC5
import Derived.Test.YtcfeheigjjnpnaaGreatDoorSqF2
namespace Go.Sim
set_option linter.unusedVariables false
theorem F7 {n : aC} (h : ok n) : mE n :=
 ⟨h.1.2, fun x hx => (h.2.1.2 x hx).1, fun x hx => (h.2.2.1.2 x hx).1, fun x hx => (h.2.2.2.1.2 x hx).1, fun x hx => (h.2.2.2.2.1.2 x hx).1, fun x hx => (h.2.2.2.2.2.2 x hx).1⟩
end Go.Sim
namespace Go.Proofs.YtcfeheigjjnpnaaGreatDoor
open Go Go.Sim
theorem sX : Rows.RebuildRelievesSaid := sP fun n h => rY n (F7 h)
theorem rebuildRelieves_card : Rows.RebuildRelievesCardSaid :=
 Claim7.holds_tied_plain_at .later [] [.data, .data, .data, .sentinel, .sentinel] true (true, Rows.rebuildRelievesCard.stood.harness.2) true
  sX (fun _ h => by cases h) (by kernel_rfl) (fun _ h => by cases h) rebuildRelieves_row_tie rfl ⟨rfl, rfl⟩ (by kernel_rfl) rfl
  (fun f fn hf hfn => by
   obtain rfl : f = 3 := Option.some.inj ((show Tryz.prog.funcNamed Rows.rebuildRelievesRow.func = some 3 by kernel_rfl).symm.trans hf) |>.symm
   obtain rfl : fn = Tryz.f3 := (Option.some.inj (Tryz.func3.symm.trans hfn)).symm;exact ⟨by kernel_rfl, fun j t ht => by
    have hall : (Tryz.f3.params.toList.all fun u => !Tryz.prog.wantsStandIn u) = true := by kernel_rfl
    exact (show Tryz.prog.wantsStandIn t = false by simpa using List.all_eq_true.1 hall t (by simpa using Array.mem_of_getElem? ht))⟩)
  (by kernel_rfl)
end Go.Proofs.YtcfeheigjjnpnaaGreatDoor
