/-
  After everything has been sent again and delivered in order, both rooms are the same: joined, with the tied card. Conditions: none but those of the given rows (what the listed tables hold, tied to the program's text).
-/
import Derived.Test.YtpapfdodclhffaaGreatDoorCards
import Derived.Test.YtpapfdodclhffaaGreatDoorTie
import Derived.SevenTiedAt
import Derived.Test.YtpapfdodclhffaaGreatDoorSqLTjW
import Derived.Test.YtpapfdodclhffaaGreatDoorSqFTjW
namespace Go.Sim
set_option linter.unusedVariables false
theorem DA {n : aG} (h : ok n) : pU n :=
 ⟨h.1.2, fun x hx => (h.2.1.2 x hx).1, fun x hx => (h.2.2.1.2 x hx).1, fun x hx => (h.2.2.2.1.2 x hx).1, fun x hx => (h.2.2.2.2.1.2 x hx).1, fun x hx => (h.2.2.2.2.2.2 x hx).1⟩
theorem DT {s : aN} (h : ok s) : wc s :=
 ⟨DA h.1, fun r hr => ⟨(h.2.2 r hr).2.1, fun x hx => ((h.2.2 r hr).2.2.2 x hx).2.1⟩⟩
theorem HF {l : List aB} (h : ok l) : ∀ e ∈ l, xv e := fun e he => ⟨(h.2 e he).2.1, (h.2 e he).2.2.1⟩
end Go.Sim
namespace Go.Proofs.YtpapfdodclhffaaGreatDoor
open Go Go.Sim
theorem Bc : Rows.SecondSettlesSaid := AK fun s l c h0 h1 _ => Ad s (DT h0) l (HF h1) c
theorem secondSettles_card : Rows.SecondSettlesCardSaid :=
 Claim7.holds_tied_plain_at .later [] [.data, .data, .data, .sentinel, .sentinel] true (true, Rows.secondSettlesCard.stood.harness.2) true
  Bc (fun _ h => by cases h) (by kernel_rfl) (fun _ h => by cases h) secondSettles_row_tie rfl ⟨rfl, rfl⟩ (by kernel_rfl) rfl
  (fun f fn hf hfn => by
   obtain rfl : f = 5 := Option.some.inj ((show Tryz.prog.funcNamed Rows.secondSettlesRow.func = some 5 by kernel_rfl).symm.trans hf) |>.symm
   obtain rfl : fn = Tryz.f5 := (Option.some.inj (Tryz.func5.symm.trans hfn)).symm;exact ⟨by kernel_rfl, fun j t ht => by
    have hall : (Tryz.f5.params.toList.all fun u => !Tryz.prog.wantsStandIn u) = true := by kernel_rfl
    exact (show Tryz.prog.wantsStandIn t = false by simpa using List.all_eq_true.1 hall t (by simpa using Array.mem_of_getElem? ht))⟩)
  (by kernel_rfl)
end Go.Proofs.YtpapfdodclhffaaGreatDoor
