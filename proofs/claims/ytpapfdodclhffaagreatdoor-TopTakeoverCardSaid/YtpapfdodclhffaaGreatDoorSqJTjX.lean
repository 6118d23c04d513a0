/-
  After a takeover, all events that were acknowledged are those of the new primary room, and a new room that performs its events has its digest: joined, with the tied card. Conditions: none but those of the given rows (what the listed tables hold, tied to the program's text).
-/
import Derived.Test.YtpapfdodclhffaaGreatDoorCards
import Derived.Test.YtpapfdodclhffaaGreatDoorTie
import Derived.SevenTiedAt
import Derived.Test.YtpapfdodclhffaaGreatDoorSqLTjX
import Derived.Test.YtpapfdodclhffaaGreatDoorSqFTjX
namespace Go.Sim
set_option linter.unusedVariables false
theorem DA {n : aG} (h : ok n) : pU n :=
 ⟨h.1.2, fun x hx => (h.2.1.2 x hx).1, fun x hx => (h.2.2.1.2 x hx).1, fun x hx => (h.2.2.2.1.2 x hx).1, fun x hx => (h.2.2.2.2.1.2 x hx).1, fun x hx => (h.2.2.2.2.2.2 x hx).1⟩
theorem DT {s : aN} (h : ok s) : wc s :=
 ⟨DA h.1, fun r hr => ⟨(h.2.2 r hr).2.1, fun x hx => ((h.2.2 r hr).2.2.2 x hx).2.1⟩⟩
theorem HF {l : List aB} (h : ok l) : ∀ e ∈ l, xv e := fun e he => ⟨(h.2 e he).2.1, (h.2 e he).2.2.1⟩
end Go.Sim
namespace Go.Proofs.YtpapfdodclhffaaGreatDoor
open Go Go.Sim
theorem Ci : Rows.TopTakeoverSaid := B7 fun s l c h0 h1 _ => Bm s (DT h0) l (HF h1) c
theorem topTakeover_card : Rows.TopTakeoverCardSaid :=
 Claim7.holds_tied_plain_at .later [] [.data, .data, .data, .sentinel, .sentinel] true (true, Rows.topTakeoverCard.stood.harness.2) true
  Ci (fun _ h => by cases h) (by kernel_rfl) (fun _ h => by cases h) topTakeover_row_tie rfl ⟨rfl, rfl⟩ (by kernel_rfl) rfl
  (fun f fn hf hfn => by
   obtain rfl : f = 3 := Option.some.inj ((show Tryz.prog.funcNamed Rows.topTakeoverRow.func = some 3 by kernel_rfl).symm.trans hf) |>.symm
   obtain rfl : fn = Tryz.f3 := (Option.some.inj (Tryz.func3.symm.trans hfn)).symm;exact ⟨by kernel_rfl, fun j t ht => by
    have hall : (Tryz.f3.params.toList.all fun u => !Tryz.prog.wantsStandIn u) = true := by kernel_rfl
    exact (show Tryz.prog.wantsStandIn t = false by simpa using List.all_eq_true.1 hall t (by simpa using Array.mem_of_getElem? ht))⟩)
  (by kernel_rfl)
end Go.Proofs.YtpapfdodclhffaaGreatDoor
