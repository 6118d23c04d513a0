/-
  Switching orders: joined.
-/
import Derived.Test.YtppfglcmgkjgkaaLawO
import Derived.Test.YtppfglcmgkjgkaaOrdT
namespace Go.Sim
set_option linter.unusedVariables false
theorem rlsz {l : List Rule} (h : ok l) : RlSz l := fun r hr => ⟨(h.2 r hr).2.1, fun x hx => ((h.2 r hr).2.2.2 x hx).2.1⟩
theorem swsz {l : List Sw} (h : ok l) : SwSz l := fun x hx => (h.2 x hx).1
end Go.Sim
namespace Go.Proofs.Ytppfglcmgkjgkaa
open Go.Sim
theorem orderThrough_proved : Rows.OrderThroughSaid := OrderThrough_law fun _ _ _ _ _ o0 o1 o2 o3 _ => OrderThrough_true _ _ _ _ _ (rlsz o0) (swsz o1) (swsz o2) (swsz o3)
theorem orderHeld_proved : Rows.OrderHeldSaid := OrderHeld_law fun _ _ _ _ o0 o1 o2 _ => OrderHeld_true _ _ _ _ (rlsz o0) (swsz o1) (swsz o2)
end Go.Proofs.Ytppfglcmgkjgkaa
