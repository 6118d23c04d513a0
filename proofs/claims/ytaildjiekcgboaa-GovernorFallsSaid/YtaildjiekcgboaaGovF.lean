/-
  The governor's worked example, by computing.
-/
import Derived.Test.YtaildjiekcgboaaModA
import Derived.KernelRfl
namespace Go.Sim
open Go
theorem governorFact_true : m_gridhallkeep4_governorFact = some true := by kernel_rfl
theorem forI_cons {α σ R : Type} (body : Nat → α → σ → (σ → Option R) → Option R) (K : σ → Option R) (k : Nat) (y : α) (l : List α) (s : σ) :
    forI body K k (y :: l) s = body k y s (fun s => forI body K (k + 1) l s) := rfl
theorem forN_succ {σ R : Type} (body : Nat → σ → (σ → Option R) → Option R) (K : σ → Option R) (n k : Nat) (s : σ) :
    forN body K (n + 1) k s = body k s (fun s => forN body K n (k + 1) s) := rfl
theorem loopF_succ {σ R : Type} (body : σ → (σ → Option R) → Option R) (n : Nat) (s : σ) :
    loopF body (n + 1) s = body s (fun s => loopF body n s) := rfl
theorem FUEL_ge : 1000000000000 ≤ FUEL := by unfold FUEL; omega
end Go.Sim
