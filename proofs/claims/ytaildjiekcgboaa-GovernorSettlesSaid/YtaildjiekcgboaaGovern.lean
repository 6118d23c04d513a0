/-
  The four governor laws: joined.
-/
import Derived.Test.YtaildjiekcgboaaLawA
import Derived.Test.YtaildjiekcgboaaGovQ
namespace Go.Proofs.Ytaildjiekcgboaa
open Go.Sim
theorem governorFalls_proved : Rows.GovernorFallsSaid := GovernorFalls_law fun x0 x1 x2 _ _ _ => GovernorFalls_true x0 x1 x2
theorem governorTotals_proved : Rows.GovernorTotalsSaid := GovernorTotals_law fun x0 x1 _ _ => GovernorTotals_true x0 x1
theorem governorSettles_proved : Rows.GovernorSettlesSaid := GovernorSettles_law fun x0 x1 _ _ => GovernorSettles_true x0 x1
theorem governorReaches_proved : Rows.GovernorReachesSaid := GovernorReaches_law fun x0 x1 x2 _ _ _ => GovernorReaches_true x0 x1 x2
end Go.Proofs.Ytaildjiekcgboaa
