/-
  The verbs that begin with a text are those of all verbs that do. Conditions: none.
-/
import Derived.Test.YthcolhlbmcbdjaaLawC
import Derived.Test.YthcolhlbmcbdjaaVrbP
namespace Go.Proofs.Ythcolhlbmcbdjaa
open Go.Sim
theorem consoleCompletes_proved : Rows.ConsoleCompletesSaid := ConsoleCompletes_law fun x _ => ConsoleCompletes_true x
end Go.Proofs.Ythcolhlbmcbdjaa
