/-
  An island falls apart without a branch exactly if its two nodes are in different islands then. Conditions: none.
-/
import Derived.Test.YtcaoghdfkomjeaaLawK
import Derived.Test.YtcaoghdfkomjeaaIslF
namespace Go.Sim
set_option linter.unusedVariables false
theorem netsz2 {n : S_api_Network} (h : ok n) : NetSz n :=
  ⟨h.1.2, fun x hx => (h.2.1.2 x hx).1, fun x hx => (h.2.2.1.2 x hx).1, fun x hx => (h.2.2.2.1.2 x hx).1, fun x hx => (h.2.2.2.2.1.2 x hx).1, fun x hx => (h.2.2.2.2.2.2 x hx).1⟩
end Go.Sim
namespace Go.Proofs.Ytcaoghdfkomjeaa
open Go.Sim
theorem islandsSplits_proved : Rows.IslandsSplitsSaid := IslandsSplits_law fun x y o _ => IslandsSplits_true x y (netsz2 o)
end Go.Proofs.Ytcaoghdfkomjeaa
