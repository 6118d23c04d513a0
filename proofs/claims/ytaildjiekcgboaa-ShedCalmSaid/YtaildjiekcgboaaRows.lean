/-
  No cell of these rows narrows 'for every input' (looked for: loops, veiled, ifaces, maps, wideKeys, modest, calm, conditions, laid).
  DERIVED. THE GIVEN ROWS OF THIS SEAT. 6 by the template 'for every input the law returns true; each argument reads behind the call as it read before'; 0 by the template 'total and deterministic' (their statements: YtaildjiekcgboaaTotals.lean).
  GIVEN WITH THE SEED: the statements are not yours to turn. If you find one false, say at which input.
  Laid BY PROGRAM, IN A SANDBOX (cutbox-rows.mjs): the forced cells as the released guide's own fill.sh prints them over the translation 32f0914869bbde5a… (all of the seat's roots in one cut). By AI agents, Wed Nov 11 2026. No macro, syntax, notation, axiom, sorry.
-/
import Derived.Test.YtaildjiekcgboaaChecked
import GoSem.Claim
import GoSem.ClaimJoined
import GoSem.ClaimMapViews
import Derived.JoinedTies
import Derived.KernelRfl
namespace Go.Proofs.Ytaildjiekcgboaa
/- THE CELL 'sum', in the pinned program and in every row, IS THE sha256 OF THE DUMP (.gsa) THAT YtaildjiekcgboaaProg.lean LOADS. Nothing in Lean hashes anything: it is a label: what it is worth is what the hold of that sum in a sandbox is worth. -/
noncomputable def Try.pinned : Pinned := { name := "ytaildjiekcgboaa", sum := "32f0914869bbde5a2ed4a10fa5fcc46ec19936dc7f53aa8139ecc820076049d3", checked := Try.checked }
namespace Rows
def none {H : Type} : Left H := { results := [], args := [] }

/-- 'gridhallkeep4.GovernorFalls': WHATEVER THE INPUT: true; the input reads as it did. -/
def governorFallsSpec : ChangeSpec := { name := "governorFalls", fn := fun _ => fun
  | [d1, d2, d3] => { results := [.lit (.bool true)], args := [d1, d2, d3] }
  | _ => none }
def governorFallsRow : OpenClaim := { program := "ytaildjiekcgboaa", sum := "32f0914869bbde5a2ed4a10fa5fcc46ec19936dc7f53aa8139ecc820076049d3", func := "gridhall/gridhallkeep4.GovernorFalls", spec := "governorFalls", apart := false }
def GovernorFallsSaid : Prop := governorFallsRow.holds Try.pinned (OpenSpec.ofChange governorFallsSpec)

/-- ITS FALSE NEIGHBOUR: 'it returns false'. Refute it at one input. -/
def governorFallsWrong : ChangeSpec := { name := "governorFalls", fn := fun _ => fun
  | [d1, d2, d3] => { results := [.lit (.bool false)], args := [d1, d2, d3] }
  | _ => none }
def GovernorFallsWrongFalsely : Prop := governorFallsRow.holds Try.pinned (OpenSpec.ofChange governorFallsWrong)

/-- 'gridhallkeep4.GovernorTotals': WHATEVER THE INPUT: true; the input reads as it did. -/
def governorTotalsSpec : ChangeSpec := { name := "governorTotals", fn := fun _ => fun
  | [d1, d2] => { results := [.lit (.bool true)], args := [d1, d2] }
  | _ => none }
def governorTotalsRow : OpenClaim := { program := "ytaildjiekcgboaa", sum := "32f0914869bbde5a2ed4a10fa5fcc46ec19936dc7f53aa8139ecc820076049d3", func := "gridhall/gridhallkeep4.GovernorTotals", spec := "governorTotals", apart := false }
def GovernorTotalsSaid : Prop := governorTotalsRow.holds Try.pinned (OpenSpec.ofChange governorTotalsSpec)

/-- ITS FALSE NEIGHBOUR: 'it returns false'. Refute it at one input. -/
def governorTotalsWrong : ChangeSpec := { name := "governorTotals", fn := fun _ => fun
  | [d1, d2] => { results := [.lit (.bool false)], args := [d1, d2] }
  | _ => none }
def GovernorTotalsWrongFalsely : Prop := governorTotalsRow.holds Try.pinned (OpenSpec.ofChange governorTotalsWrong)

/-- 'gridhallkeep4.GovernorSettles': WHATEVER THE INPUT: true; the input reads as it did. -/
def governorSettlesSpec : ChangeSpec := { name := "governorSettles", fn := fun _ => fun
  | [d1, d2] => { results := [.lit (.bool true)], args := [d1, d2] }
  | _ => none }
def governorSettlesRow : OpenClaim := { program := "ytaildjiekcgboaa", sum := "32f0914869bbde5a2ed4a10fa5fcc46ec19936dc7f53aa8139ecc820076049d3", func := "gridhall/gridhallkeep4.GovernorSettles", spec := "governorSettles", apart := false }
def GovernorSettlesSaid : Prop := governorSettlesRow.holds Try.pinned (OpenSpec.ofChange governorSettlesSpec)

/-- ITS FALSE NEIGHBOUR: 'it returns false'. Refute it at one input. -/
def governorSettlesWrong : ChangeSpec := { name := "governorSettles", fn := fun _ => fun
  | [d1, d2] => { results := [.lit (.bool false)], args := [d1, d2] }
  | _ => none }
def GovernorSettlesWrongFalsely : Prop := governorSettlesRow.holds Try.pinned (OpenSpec.ofChange governorSettlesWrong)

/-- 'gridhallkeep4.GovernorReaches': WHATEVER THE INPUT: true; the input reads as it did. -/
def governorReachesSpec : ChangeSpec := { name := "governorReaches", fn := fun _ => fun
  | [d1, d2, d3] => { results := [.lit (.bool true)], args := [d1, d2, d3] }
  | _ => none }
def governorReachesRow : OpenClaim := { program := "ytaildjiekcgboaa", sum := "32f0914869bbde5a2ed4a10fa5fcc46ec19936dc7f53aa8139ecc820076049d3", func := "gridhall/gridhallkeep4.GovernorReaches", spec := "governorReaches", apart := false }
def GovernorReachesSaid : Prop := governorReachesRow.holds Try.pinned (OpenSpec.ofChange governorReachesSpec)

/-- ITS FALSE NEIGHBOUR: 'it returns false'. Refute it at one input. -/
def governorReachesWrong : ChangeSpec := { name := "governorReaches", fn := fun _ => fun
  | [d1, d2, d3] => { results := [.lit (.bool false)], args := [d1, d2, d3] }
  | _ => none }
def GovernorReachesWrongFalsely : Prop := governorReachesRow.holds Try.pinned (OpenSpec.ofChange governorReachesWrong)

/-- 'gridhallkeep4.ShedCalm': WHATEVER THE INPUT: true; the input reads as it did. -/
def shedCalmSpec : ChangeSpec := { name := "shedCalm", fn := fun _ => fun
  | [d1, d2] => { results := [.lit (.bool true)], args := [d1, d2] }
  | _ => none }
def shedCalmRow : OpenClaim := { program := "ytaildjiekcgboaa", sum := "32f0914869bbde5a2ed4a10fa5fcc46ec19936dc7f53aa8139ecc820076049d3", func := "gridhall/gridhallkeep4.ShedCalm", spec := "shedCalm", apart := false }
def ShedCalmSaid : Prop := shedCalmRow.holds Try.pinned (OpenSpec.ofChange shedCalmSpec)

/-- ITS FALSE NEIGHBOUR: 'it returns false'. Refute it at one input. -/
def shedCalmWrong : ChangeSpec := { name := "shedCalm", fn := fun _ => fun
  | [d1, d2] => { results := [.lit (.bool false)], args := [d1, d2] }
  | _ => none }
def ShedCalmWrongFalsely : Prop := shedCalmRow.holds Try.pinned (OpenSpec.ofChange shedCalmWrong)

/-- 'gridhallkeep4.ShedBack': WHATEVER THE INPUT: true; the input reads as it did. -/
def shedBackSpec : ChangeSpec := { name := "shedBack", fn := fun _ => fun
  | [d1, d2] => { results := [.lit (.bool true)], args := [d1, d2] }
  | _ => none }
def shedBackRow : OpenClaim := { program := "ytaildjiekcgboaa", sum := "32f0914869bbde5a2ed4a10fa5fcc46ec19936dc7f53aa8139ecc820076049d3", func := "gridhall/gridhallkeep4.ShedBack", spec := "shedBack", apart := false }
def ShedBackSaid : Prop := shedBackRow.holds Try.pinned (OpenSpec.ofChange shedBackSpec)

/-- ITS FALSE NEIGHBOUR: 'it returns false'. Refute it at one input. -/
def shedBackWrong : ChangeSpec := { name := "shedBack", fn := fun _ => fun
  | [d1, d2] => { results := [.lit (.bool false)], args := [d1, d2] }
  | _ => none }
def ShedBackWrongFalsely : Prop := shedBackRow.holds Try.pinned (OpenSpec.ofChange shedBackWrong)

/- THE SECOND FORM. 'bulk': how many values and letters a reading holds, each counted each time it is reached (what is shared counts as often as it is met; a slice's spare places count too). A statement '..UptoSaid' is the law's where the arguments, and the package variables that the reading takes, are together of bulk at most 1048576: NARROWER than '..Said'. Prove '..Said' where nothing that the law and all that it calls make is longer than what came in: it says more and counts as full. Else prove '..UptoSaid'. A law counts once. -/
mutual
def uptoBulk {H : Type} : DataW H → Nat
  | .lit (.string bytes) => bytes.length + 1
  | .lit _ => 1
  | .nil => 1
  | .ptr d => uptoBulk d + 1
  | .slice elems spare => uptoBulkAll elems + uptoBulkAll spare + 1
  | .agg parts => uptoBulkAll parts + 1
  | .iface _ d => uptoBulk d + 1
  | .map entries => uptoBulkEntries entries + 1
  | .held _ => 1
def uptoBulkAll {H : Type} : List (DataW H) → Nat
  | [] => 0
  | d :: r => uptoBulk d + uptoBulkAll r
def uptoBulkEntries {H : Type} : List (Lit × DataW H) → Nat
  | [] => 0
  | x :: r => uptoBulkEntry x + uptoBulkEntries r
def uptoBulkEntry {H : Type} : Lit × DataW H → Nat
  | (.string bytes, d) => bytes.length + uptoBulk d + 1
  | (_, d) => uptoBulk d + 1
 end
def uptoSmall : (H : Type) → List (DataW H) → Bool := fun _ ds => decide (uptoBulkAll ds ≤ 1048576)
def OpenSpec.upto (s : _root_.Go.ChangeSpec) : _root_.Go.OpenSpec := { _root_.Go.OpenSpec.ofChange s with cond := some uptoSmall }

/-- 'gridhallkeep4.GovernorFalls', WHERE WHAT IT READS IS OF BULK AT MOST 1048576: true; the input reads as it did. -/
def governorFallsUptoRow : OpenClaim := { program := "ytaildjiekcgboaa", sum := "32f0914869bbde5a2ed4a10fa5fcc46ec19936dc7f53aa8139ecc820076049d3", func := "gridhall/gridhallkeep4.GovernorFalls", spec := "governorFalls", apart := false, narrowed := true }
def GovernorFallsUptoSaid : Prop := governorFallsUptoRow.holds Try.pinned (OpenSpec.upto governorFallsSpec)

/-- 'gridhallkeep4.GovernorTotals', WHERE WHAT IT READS IS OF BULK AT MOST 1048576: true; the input reads as it did. -/
def governorTotalsUptoRow : OpenClaim := { program := "ytaildjiekcgboaa", sum := "32f0914869bbde5a2ed4a10fa5fcc46ec19936dc7f53aa8139ecc820076049d3", func := "gridhall/gridhallkeep4.GovernorTotals", spec := "governorTotals", apart := false, narrowed := true }
def GovernorTotalsUptoSaid : Prop := governorTotalsUptoRow.holds Try.pinned (OpenSpec.upto governorTotalsSpec)

/-- 'gridhallkeep4.GovernorSettles', WHERE WHAT IT READS IS OF BULK AT MOST 1048576: true; the input reads as it did. -/
def governorSettlesUptoRow : OpenClaim := { program := "ytaildjiekcgboaa", sum := "32f0914869bbde5a2ed4a10fa5fcc46ec19936dc7f53aa8139ecc820076049d3", func := "gridhall/gridhallkeep4.GovernorSettles", spec := "governorSettles", apart := false, narrowed := true }
def GovernorSettlesUptoSaid : Prop := governorSettlesUptoRow.holds Try.pinned (OpenSpec.upto governorSettlesSpec)

/-- 'gridhallkeep4.GovernorReaches', WHERE WHAT IT READS IS OF BULK AT MOST 1048576: true; the input reads as it did. -/
def governorReachesUptoRow : OpenClaim := { program := "ytaildjiekcgboaa", sum := "32f0914869bbde5a2ed4a10fa5fcc46ec19936dc7f53aa8139ecc820076049d3", func := "gridhall/gridhallkeep4.GovernorReaches", spec := "governorReaches", apart := false, narrowed := true }
def GovernorReachesUptoSaid : Prop := governorReachesUptoRow.holds Try.pinned (OpenSpec.upto governorReachesSpec)

/-- 'gridhallkeep4.ShedCalm', WHERE WHAT IT READS IS OF BULK AT MOST 1048576: true; the input reads as it did. -/
def shedCalmUptoRow : OpenClaim := { program := "ytaildjiekcgboaa", sum := "32f0914869bbde5a2ed4a10fa5fcc46ec19936dc7f53aa8139ecc820076049d3", func := "gridhall/gridhallkeep4.ShedCalm", spec := "shedCalm", apart := false, narrowed := true }
def ShedCalmUptoSaid : Prop := shedCalmUptoRow.holds Try.pinned (OpenSpec.upto shedCalmSpec)

/-- 'gridhallkeep4.ShedBack', WHERE WHAT IT READS IS OF BULK AT MOST 1048576: true; the input reads as it did. -/
def shedBackUptoRow : OpenClaim := { program := "ytaildjiekcgboaa", sum := "32f0914869bbde5a2ed4a10fa5fcc46ec19936dc7f53aa8139ecc820076049d3", func := "gridhall/gridhallkeep4.ShedBack", spec := "shedBack", apart := false, narrowed := true }
def ShedBackUptoSaid : Prop := shedBackUptoRow.holds Try.pinned (OpenSpec.upto shedBackSpec)

end Rows
end Go.Proofs.Ytaildjiekcgboaa
