/-
  A board shows the causes of its alarms, and Clear and Ack change one alarm. Conditions: none.
-/
import Derived.Test.YtnfkndhlceiicaaLawB
import Derived.Test.YtnfkndhlceiicaaBrdS
namespace Go.Sim
set_option linter.unusedVariables false
theorem czsz {l : List Cz} (h : ok l) : CzSz l := fun c hc => ⟨(h.2 c hc).1, (h.2 c hc).2⟩
theorem basz {l : List BA} (h : ok l) : BaSz l := fun x hx => h.2 x hx
end Go.Sim
namespace Go.Proofs.Ytnfkndhlceiicaa
open Go.Sim
theorem alarmBoards_proved : Rows.AlarmBoardsSaid := AlarmBoards_law fun x y z o1 o2 _ => AlarmBoards_true x y z (czsz o1) (basz o2)
end Go.Proofs.Ytnfkndhlceiicaa
