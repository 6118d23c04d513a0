/-
  What explains an alarm directly has causes that are causes of the alarm, too; every active alarm has a cause, and each cause is explained by itself alone. Conditions: none.
-/
import Derived.Test.YtdlnfdpbfjcoiaaLawA
import Derived.Test.YtdlnfdpbfjcoiaaAlmQ
namespace Go.Sim
set_option linter.unusedVariables false
theorem czsz {l : List Cz} (h : ok l) : CzSz l := fun c hc => ⟨(h.2 c hc).1, (h.2 c hc).2⟩
theorem basz {l : List BA} (h : ok l) : BaSz l := fun x hx => h.2 x hx
end Go.Sim
namespace Go.Proofs.Ytdlnfdpbfjcoiaa
open Go.Sim
theorem alarmDirect_proved : Rows.AlarmDirectSaid := AlarmDirect_law fun x y z o1 o2 _ => AlarmDirect_true x y z (czsz o1) (basz o2)
theorem alarmCovered_proved : Rows.AlarmCoveredSaid := AlarmCovered_law fun x y o1 o2 => AlarmCovered_true x y (czsz o1) (basz o2)
end Go.Proofs.Ytdlnfdpbfjcoiaa
