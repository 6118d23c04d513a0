/-
  When all permits have been given back, no device is held; the numbers of permits increase. Conditions: none.
-/
import Derived.Test.YtogalpcheddenaaLawP
import Derived.Test.YtogalpcheddenaaPermP
namespace Go.Proofs.Ytogalpcheddenaa
open Go.Sim
theorem permitGone_proved : Rows.PermitGoneSaid := PermitGone_law fun x y o1 o2 => PermitGone_true x y o1.2 o2.2
end Go.Proofs.Ytogalpcheddenaa
