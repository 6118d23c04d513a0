/-
  A plan is verified and ends where a source is; a step that closes nothing joins nothing. Conditions: none.
-/
import Derived.Test.YtfmhkgnbceoclaaLawB
import Derived.Test.YtfmhkgnbceoclaaBstK
namespace Go.Sim
set_option linter.unusedVariables false
theorem netsz {n : S_api_Network} (h : ok n) : NetSz n :=
  ⟨h.1.2, fun x hx => (h.2.1.2 x hx).1, fun x hx => (h.2.2.1.2 x hx).1, fun x hx => (h.2.2.2.1.2 x hx).1, fun x hx => (h.2.2.2.2.1.2 x hx).1, fun x hx => (h.2.2.2.2.2.2 x hx).1⟩
end Go.Sim
namespace Go.Proofs.Ytfmhkgnbceoclaa
open Go.Sim
theorem blackstartLess_proved : Rows.BlackstartLessSaid := BlackstartLess_law fun x0 x1 x2 o _ _ => BlackstartLess_true x0 x1 x2 (netsz o)
theorem blackstartPlans_proved : Rows.BlackstartPlansSaid := BlackstartPlans_law fun x0 x1 o _ => BlackstartPlans_true x0 x1 (netsz o)
end Go.Proofs.Ytfmhkgnbceoclaa
