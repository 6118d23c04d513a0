/-
  What the contracts of Go's library are proved with.
-/
import Derived.Test.YtfakgoeoclfoaaaGreatDoorSimU
import Derived.Lib.AppendZeros
namespace Go.Sim
open Go Go.RowKit
set_option linter.unusedVariables false
set_option linter.unusedSimpArgs false
set_option linter.unusedSectionVars false
set_option linter.unnecessarySimpa false

theorem RdS.shape {α : Type} [Rep α] {H : Hp} {v : Value} {xs : List α} (h : RdS H v xs) : ∃ o n c, v = .slice o n c := by
  obtain ⟨a, c, rfl, _⟩ := h.len; exact ⟨_, _, _, rfl⟩
theorem RdS.isNil {α : Type} [Rep α] {H : Hp} {n c : Nat} {xs : List α} (h : RdS H (.slice none n c) xs) : xs = [] := by
  rcases h with ⟨_, h⟩ | ⟨b, off, cap, arr, T, fz, h, _⟩
  · exact h
  · cases h

/-- Nil just if empty. -/
def NilE {α : Type} (v : Value) (l : List α) : Prop := (∃ n c, v = .slice none n c ∧ l = []) ∨ (∃ a n c, v = .slice (some a) n c ∧ l ≠ [])
theorem NilE.nil {α : Type} : NilE (.slice none 0 0) ([] : List α) := .inl ⟨_, _, rfl, rfl⟩
section
variable {x : Cx} {ops : Array Oper} {Q : Post} {rest : List Oper} {H : Hp} {M M' : List Res} {L L' : Env}
variable {d : Nat} {ty : TypeId} {pos : String} {aft : Array Edge} {g : Option (Nat × Bool)}

end
end Go.Sim
