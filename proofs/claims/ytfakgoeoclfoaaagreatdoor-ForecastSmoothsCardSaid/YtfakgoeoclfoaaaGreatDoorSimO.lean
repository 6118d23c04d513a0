/-
  Owned rows: appending to a full slice that only is read; slice literals that are owned.
-/
import Derived.Test.YtfakgoeoclfoaaaGreatDoorSimN
namespace Go.Sim
open Go Go.RowKit
set_option linter.unusedVariables false
set_option linter.unusedSimpArgs false
set_option linter.unusedSectionVars false
set_option linter.unnecessarySimpa false

/-- A part of a list: from l to h. -/
def slc {α : Type} (xs : List α) (l h : Nat) : List α := (xs.drop l).take (h - l)
theorem Rw.room {α : Type} [Rep α] {H : Hp} {v : Value} {xs : List Value} {l : List α} (h : Rw H v xs l) {k : Nat} {e : α} (he : l[k]? = some e) {o m : Nat} (hb : Nat.ble (o + m) (Rep.sz α) = true) : k * Rep.sz α + o + m ≤ xs.length := by
  have hk : k < l.length := (List.getElem?_eq_some_iff.1 he).1
  have hkk : (k + 1) * Rep.sz α ≤ l.length * Rep.sz α := Nat.mul_le_mul_right _ hk
  have hb' : o + m ≤ Rep.sz α := by simpa [Nat.ble_eq] using hb
  rw [h.rd.len]
  rw [Nat.add_mul, Nat.one_mul] at hkk
  omega
theorem row_ad0 (a : Addr) (i : Nat) : a.add i = a.add (i + 0) := rfl
section
variable {x : Cx} {ops : Array Oper} {Q : Post} {rest : List Oper} {H : Hp} {M M' : List Res} {L L' : Env}
variable {d : Nat} {ty : TypeId} {pos : String} {aft : Array Edge} {g : Option (Nat × Bool)}

/-- A slice literal without elements. -/
theorem W_build0 (α : Type) [Rep α] {T e : TypeId}
    (hg : gd ops L ⟨some d, .buildSlice T 0 #[], ty, pos, aft, g⟩ = some true) (hN : Nat.blt d x.N = true)
    (hT : ∀ w, (underlying T).run x.P w = .ok (.slice e) w) (hs : ∀ w, (sizeOf e).run x.P w = .ok (Rep.sz α) w)
    (k : ∀ v' xs', Rw H v' xs' ([] : List α) → W x ops Q rest H (.row v' e (Rep.sz α) ([] : List α).length xs' :: M) ((d, v') :: L)) :
    W x ops Q (⟨some d, .buildSlice T 0 #[], ty, pos, aft, g⟩ :: rest) H M L := by
  refine W_run rfl hg hN fun a w hsl ht => ?_
  have hnr : ∀ c w, (newRow e c).run x.P w = .ok ⟨w.heap.size, 0, none⟩ (w.alloc (.cells c e)) := fun c w => by
    simp only [newRow, newObj, Sem.run_bind, Sem.run_pure, Sem.run, Result.andThen_ok, World.alloc]
  refine ⟨.slice (some ⟨w.heap.size, 0, none⟩) 0 0, _, ?_, H, _, St.newRow (α := α) (cells := []) (l := []) (e := e) ht rfl (by unfold maxLen; simp), k _ _ ⟨rfl, _, _, _, rfl⟩⟩
  simp only [execOp, Instr.buildSlice, Sem.run_bind, hT, hs, Result.andThen_ok, Nat.zero_mul, Nat.not_lt_zero, gt_iff_lt, if_false, if_true, Sem.run_pure]
  simp [Instr.fill, hnr, Array.range]
end
end Go.Sim
