/-
  When the second room has performed all events, its log has the digest of that of the primary room: joined, with the tied card. Conditions: none but those of the given rows (what the listed tables hold, tied to the program's text).
-/
import Derived.Test.YtpapfdodclhffaaGreatDoorCards
import Derived.Test.YtpapfdodclhffaaGreatDoorTie
import Derived.SevenTiedAt
import Derived.Test.YtpapfdodclhffaaGreatDoorSqLTjV
import Derived.Test.YtpapfdodclhffaaGreatDoorSqFTjV
namespace Go.Sim
set_option linter.unusedVariables false
theorem DA {n : aG} (h : ok n) : pU n :=
 ⟨h.1.2, fun x hx => (h.2.1.2 x hx).1, fun x hx => (h.2.2.1.2 x hx).1, fun x hx => (h.2.2.2.1.2 x hx).1, fun x hx => (h.2.2.2.2.1.2 x hx).1, fun x hx => (h.2.2.2.2.2.2 x hx).1⟩
theorem DT {s : aN} (h : ok s) : wc s :=
 ⟨DA h.1, fun r hr => ⟨(h.2.2 r hr).2.1, fun x hx => ((h.2.2 r hr).2.2.2 x hx).2.1⟩⟩
theorem HF {l : List aB} (h : ok l) : ∀ e ∈ l, xv e := fun e he => ⟨(h.2 e he).2.1, (h.2 e he).2.2.1⟩
end Go.Sim
namespace Go.Proofs.YtpapfdodclhffaaGreatDoor
open Go Go.Sim
theorem DR : Rows.SecondSameSaid := CP fun s l c h0 h1 _ => B5 s (DT h0) l (HF h1) c
theorem secondSame_card : Rows.SecondSameCardSaid :=
 Claim7.holds_tied_plain_at .later [] [.data, .data, .data, .sentinel, .sentinel] true (true, Rows.secondSameCard.stood.harness.2) true
  DR (fun _ h => by cases h) (by kernel_rfl) (fun _ h => by cases h) secondSame_row_tie rfl ⟨rfl, rfl⟩ (by kernel_rfl) rfl
  (fun f fn hf hfn => by
   obtain rfl : f = 4 := Option.some.inj ((show Tryz.prog.funcNamed Rows.secondSameRow.func = some 4 by kernel_rfl).symm.trans hf) |>.symm
   obtain rfl : fn = Tryz.f4 := (Option.some.inj (Tryz.func4.symm.trans hfn)).symm;exact ⟨by kernel_rfl, fun j t ht => by
    have hall : (Tryz.f4.params.toList.all fun u => !Tryz.prog.wantsStandIn u) = true := by kernel_rfl
    exact (show Tryz.prog.wantsStandIn t = false by simpa using List.all_eq_true.1 hall t (by simpa using Array.mem_of_getElem? ht))⟩)
  (by kernel_rfl)
end Go.Proofs.YtpapfdodclhffaaGreatDoor
