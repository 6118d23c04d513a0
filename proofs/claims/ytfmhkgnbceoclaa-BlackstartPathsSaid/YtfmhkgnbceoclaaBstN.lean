/-
  A path joins what it is between and needs each of its switches. Conditions: none.
-/
import Derived.Test.YtfmhkgnbceoclaaBstM
import Derived.Test.YtfmhkgnbceoclaaBstL
namespace Go.Proofs.Ytfmhkgnbceoclaa
open Go.Sim
theorem blackstartPaths_proved : Rows.BlackstartPathsSaid := BlackstartPaths_law fun x0 x1 x2 o _ _ => BlackstartPaths_true x0 x1 x2 (netsz o)
end Go.Proofs.Ytfmhkgnbceoclaa
