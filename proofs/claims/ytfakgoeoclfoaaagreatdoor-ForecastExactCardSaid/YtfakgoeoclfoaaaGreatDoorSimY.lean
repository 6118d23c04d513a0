/-
  More rules for models; the order of texts.
-/
import Derived.Test.YtfakgoeoclfoaaaGreatDoorSimX
import Derived.Test.YtfakgoeoclfoaaaGreatDoorSimW
namespace Go.Sim
open Go Go.RowKit
set_option linter.unusedVariables false
set_option linter.unusedSimpArgs false
set_option linter.unusedSectionVars false
set_option linter.unnecessarySimpa false

/-- A loop that looks at each element: what is known of those seen. -/
theorem Gd.seen {R α σ : Type} {Q : R → Prop} {body : Nat → α → σ → (σ → Option R) → Option R} {k : σ → Option R} {l : List α} (I : List α → σ → Prop)
    (hb : ∀ i y s n pre, (∃ post, l = pre ++ y :: post) → I pre s → (∀ s', I (pre ++ [y]) s' → Gd (n s') Q) → Gd (body i y s n) Q) (hk : ∀ s, I l s → Gd (k s) Q) (s : σ) (hs : I [] s) : Gd (Sim.forI body k 0 l s) Q := by
  have key : ∀ (ys pre : List α) (i : Nat) (s : σ), l = pre ++ ys → I pre s → Gd (Sim.forI body k i ys s) Q := by
    intro ys
    induction ys with
    | nil => intro pre i s hl hs; rw [List.append_nil] at hl; subst hl; exact hk s hs
    | cons y ys ih =>
      intro pre i s hl hs
      exact hb i y s _ pre ⟨ys, hl⟩ hs (fun s' hs' => ih (pre ++ [y]) (i + 1) s' (by rw [hl]; simp) hs')
  exact key l [] 0 s rfl hs
end Go.Sim
