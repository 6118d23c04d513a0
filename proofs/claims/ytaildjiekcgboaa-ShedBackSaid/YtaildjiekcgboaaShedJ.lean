/-
  The two shedding laws: joined.
-/
import Derived.Test.YtaildjiekcgboaaLawS
import Derived.Test.YtaildjiekcgboaaShedT
namespace Go.Proofs.Ytaildjiekcgboaa
open Go.Sim
theorem shedCalm_proved : Rows.ShedCalmSaid := ShedCalm_law fun x0 x1 o0 _ => ShedCalm_true x0 x1 fun x hx y hy => ((o0.2 x hx).2.2).2 y hy
theorem shedBack_proved : Rows.ShedBackSaid := ShedBack_law fun x0 x1 o0 _ => ShedBack_true x0 x1 fun x hx y hy => ((o0.2 x hx).2.2).2 y hy
end Go.Proofs.Ytaildjiekcgboaa
