/-
  Switching orders: joined.
-/
import Derived.Test.YtppfglcmgkjgkaaLawO
import Derived.Test.YtppfglcmgkjgkaaOrdU
namespace Go.Sim
set_option linter.unusedVariables false
theorem rlsz2 {l : List Rule} (h : ok l) : RlSz l := fun r hr => ⟨(h.2 r hr).2.1, fun x hx => ((h.2 r hr).2.2.2 x hx).2.1⟩
theorem swsz2 {l : List Sw} (h : ok l) : SwSz l := fun x hx => (h.2 x hx).1
end Go.Sim
namespace Go.Proofs.Ytppfglcmgkjgkaa
open Go.Sim
theorem orderSafe_proved : Rows.OrderSafeSaid := OrderSafe_law fun _ _ _ _ o0 o1 o2 _ => OrderSafe_true _ _ _ _ (rlsz2 o0) (swsz2 o1) (swsz2 o2)
theorem orderReach_proved : Rows.OrderReachSaid := OrderReach_law fun _ _ _ o0 o1 _ => OrderReach_true _ _ _ (rlsz2 o0) (swsz2 o1)
end Go.Proofs.Ytppfglcmgkjgkaa
