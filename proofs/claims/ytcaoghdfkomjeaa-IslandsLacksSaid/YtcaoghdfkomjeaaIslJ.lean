/-
  Each generator supplies nothing or what it can, and together what is demanded; where an island lacks power, its demand cannot be supplied. Conditions: none.
-/
import Derived.Test.YtcaoghdfkomjeaaLawI
import Derived.Test.YtcaoghdfkomjeaaIslS
namespace Go.Sim
set_option linter.unusedVariables false
theorem netsz {n : S_api_Network} (h : ok n) : NetSz n :=
  ⟨h.1.2, fun x hx => (h.2.1.2 x hx).1, fun x hx => (h.2.2.1.2 x hx).1, fun x hx => (h.2.2.2.1.2 x hx).1, fun x hx => (h.2.2.2.2.1.2 x hx).1, fun x hx => (h.2.2.2.2.2.2 x hx).1⟩
end Go.Sim
namespace Go.Proofs.Ytcaoghdfkomjeaa
open Go.Sim
theorem islandsShares_proved : Rows.IslandsSharesSaid := IslandsShares_law fun x o => IslandsShares_true x (netsz o)
theorem islandsLacks_proved : Rows.IslandsLacksSaid := IslandsLacks_law fun x o => IslandsLacks_true x (netsz o)
end Go.Proofs.Ytcaoghdfkomjeaa
