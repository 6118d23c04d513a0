/-
  Collecting is the same, whatever the workers, as taking by one hand. Conditions: none.
-/
import Derived.Test.YticgbjeijocojaaMg24
set_option linter.unusedVariables false
set_option linter.unusedSimpArgs false
namespace Go.Proofs.Yticgbjeijocojaa
open Go.Sim
theorem secondCollects_proved : Rows.SecondCollectsSaid := SecondCollects_law fun x y o _ => SecondCollects_true x y (fun l hl => fun m hm => ((o.2 l hl).2 m hm).1)
end Go.Proofs.Yticgbjeijocojaa
