/-
  A value that is old at a time is old at each later one, and its value stays; the order in which messages come does not matter, nor does a copy. Conditions: none.
-/
import Derived.Test.YthcolhlbmcbdjaaLawT
import Derived.Test.YthcolhlbmcbdjaaTelQ
namespace Go.Sim
set_option linter.unusedVariables false
theorem mssz {l : List Msg} (h : ok l) : MsSz l := fun m hm => (h.2 m hm).1
end Go.Sim
namespace Go.Proofs.Ythcolhlbmcbdjaa
open Go.Sim
theorem telemetryAges_proved : Rows.TelemetryAgesSaid := TelemetryAges_law fun x y z w _ o _ _ => TelemetryAges_true x y z w (mssz o)
theorem telemetryOrder_proved : Rows.TelemetryOrderSaid := TelemetryOrder_law fun x y o _ => TelemetryOrder_true x y (mssz o)
end Go.Proofs.Ythcolhlbmcbdjaa
