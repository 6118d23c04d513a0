/-
  Maps; fields of struct values; equality of structs; arrays.
-/
import Derived.Test.YtfakgoeoclfoaaaGreatDoorSimQ
namespace Go.Sim
open Go Go.RowKit
set_option linter.unusedVariables false
set_option linter.unusedSimpArgs false
set_option linter.unusedSectionVars false
set_option linter.unnecessarySimpa false

/-! ### Maps -/
class MV (α : Type) where
  mv : α → Value
instance : MV Int := ⟨fun n => .int .i64 n⟩
instance : MV Bool := ⟨fun b => .bool b⟩
instance : MV ByteArray := ⟨fun s => .string s⟩
class MKey (α : Type) [DecidableEq α] extends MV α where
  kind : TypeDesc
  same : ∀ a b : α, Instr.sameNow kind (mv a) (mv b) = some (decide (a = b))
  bits : ∀ a : α, Instr.sameBits 10000 (mv a) (mv a) = true
  check : ∀ (P : Program) (t : TypeId) (e : Bool) (a : α) (w : World), (∀ w, (underlying t).run P w = .ok kind w) → (Instr.checkKey e 10000 t (mv a)).run P w = .ok () w
theorem ba_beq2 (s t : ByteArray) : (s == t) = decide (s = t) := by
  have h : (s == t) = (s.data == t.data) := rfl
  rw [h, Bool.eq_iff_iff]
  simp only [beq_iff_eq, decide_eq_true_eq]
  exact ⟨fun e => ByteArray.ext e, fun e => by rw [e]⟩
instance : MKey Int where
  kind := .int .i64
  same a b := by simp [Instr.sameNow, int_beq, MV.mv]
  bits a := by simp [Instr.sameBits, MV.mv]
  check P t e a w h := by
    have key : ∀ k, (Instr.checkKey e (k + 1) t (.int .i64 a)).run P w = .ok () w := fun k => by unfold Instr.checkKey; simp [h]
    exact key 9999
instance : MKey ByteArray where
  kind := .string
  same a b := by simp [Instr.sameNow, ba_beq2, MV.mv]
  bits a := by simp [Instr.sameBits, MV.mv, ba_beq2]
  check P t e a w h := by
    have key : ∀ k, (Instr.checkKey e (k + 1) t (.string a)).run P w = .ok () w := fun k => by unfold Instr.checkKey; simp [h]
    exact key 9999

section
variable {κ ν : Type} [DecidableEq κ] [MKey κ] [MV ν]
def MapR (es : Array MapEntry) (l : List (κ × ν)) : Prop := es.toList.map (fun e => (e.key, e.val)) = l.map fun p => (MV.mv p.1, MV.mv p.2)
theorem MapR.nil : MapR #[] ([] : List (κ × ν)) := rfl
end

section
variable {x : Cx} {ops : Array Oper} {Q : Post} {rest : List Oper} {H : Hp} {M M' : List Res} {L L' : Env}
variable {d : Nat} {ty : TypeId} {pos : String} {aft : Array Edge} {g : Option (Nat × Bool)}
variable {κ ν : Type} [DecidableEq κ] [MKey κ] [MV ν]

end

/-! ### Fields of struct values -/
section
variable {x : Cx} {ops : Array Oper} {Q : Post} {rest : List Oper} {H : Hp} {M M' : List Res} {L L' : Env}
variable {d : Nat} {ty : TypeId} {pos : String} {aft : Array Edge} {g : Option (Nat × Bool)}

theorem W_fieldV {t : TypeId} {y : Operand} {f : Nat} {cs : List Value} {v : Value} {fs : Array Field} {fd : Field} (hg : gd ops L ⟨some d, .field t y f, ty, pos, aft, g⟩ = some true) (hN : Nat.blt d x.N = true)
    (hT : ∀ w, (underlying t).run x.P w = .ok (.struct fs) w) (hf : fs[f]? = some fd) (hA : ∀ w, (isAgg fd.type).run x.P w = .ok false w)
    (hy : ev L y = some (.agg cs.toArray)) (hv : cs[fd.offset]? = some v) (k : W x ops Q rest H M ((d, v) :: L)) :
    W x ops Q (⟨some d, .field t y f, ty, pos, aft, g⟩ :: rest) H M L :=
  W_pure rfl hg hN (fun a w hs ht => by simp [execOp, hs.ev hy, Instr.field, hT, hf, asAgg, part, hA, hv]) k
/-- An element of a small array's value. -/
theorem W_indexV {t e : TypeId} {y z : Operand} {n sz : Nat} {cs : List Value} {v : Value} {kk : IntKind} {i : Int} (hg : gd ops L ⟨some d, .index t y z, ty, pos, aft, g⟩ = some true) (hN : Nat.blt d x.N = true)
    (hT : ∀ w, (underlying t).run x.P w = .ok (.array n e) w) (hA : ∀ w, (isAgg e).run x.P w = .ok false w) (hn : ∀ w, (sizeOf e).run x.P w = .ok sz w)
    (hy : ev L y = some (.agg cs.toArray)) (hz : ev L z = some (.int kk i)) (h0 : 0 ≤ i) (h1 : i.toNat < n) (hv : cs[i.toNat * sz]? = some v) (k : W x ops Q rest H M ((d, v) :: L)) :
    W x ops Q (⟨some d, .index t y z, ty, pos, aft, g⟩ :: rest) H M L :=
  W_pure rfl hg hN (fun a w hs ht => by
    have h1' : i < (n : Int) := by omega
    simp [execOp, hs.ev hy, hs.ev hz, Instr.index, asIntOf, hT, h0, h1', hn, part, hA, hv]) k

/-! ### Arrays in memory -/
/-! ### Equality of structs -/
/-! ### Comparison of pointers, booleans, strings -/
theorem W_ptrNil {t e u : TypeId} {y z : Operand} {a : Option Addr} (hg : gd ops L ⟨some d, .binOp .eql t y z u, ty, pos, aft, g⟩ = some true) (hN : Nat.blt d x.N = true)
    (hT : ∀ w, (underlying t).run x.P w = .ok (.pointer e) w) (hy : ev L y = some (.pointer a)) (hz : ev L z = some (.pointer none))
    (k : W x ops Q rest H M ((d, .bool a.isNone) :: L)) : W x ops Q (⟨some d, .binOp .eql t y z u, ty, pos, aft, g⟩ :: rest) H M L :=
  W_pure rfl hg hN (fun c w hs _ => by
    have key : ∀ k, (Op.equalIn (k + 1) t (.pointer a) (.pointer none)).run x.P w = .ok a.isNone w := fun k => by
      unfold Op.equalIn
      cases a <;> simp [hT]
    have h' : (Op.equal t (.pointer a) (.pointer none)).run x.P w = .ok a.isNone w := key 9999
    simp only [execOp, hs.ev hy, hs.ev hz, Sem.run_bind, eqGuard, binOp]
    simp [h']) k
theorem W_eqBool {t u : TypeId} {y z : Operand} {a b : Bool} (hg : gd ops L ⟨some d, .binOp .eql t y z u, ty, pos, aft, g⟩ = some true) (hN : Nat.blt d x.N = true)
    (hT : ∀ w, (underlying t).run x.P w = .ok .bool w) (hy : ev L y = some (.bool a)) (hz : ev L z = some (.bool b))
    (k : W x ops Q rest H M ((d, .bool (decide (a = b))) :: L)) : W x ops Q (⟨some d, .binOp .eql t y z u, ty, pos, aft, g⟩ :: rest) H M L :=
  W_pure rfl hg hN (fun c w hs _ => by
    have e : (a == b) = decide (a = b) := by cases a <;> cases b <;> rfl
    have key : ∀ k, (Op.equalIn (k + 1) t (.bool a) (.bool b)).run x.P w = .ok (decide (a = b)) w := fun k => by
      unfold Op.equalIn
      simp [hT, e]
    have h' : (Op.equal t (.bool a) (.bool b)).run x.P w = .ok (decide (a = b)) w := key 9999
    simp only [execOp, hs.ev hy, hs.ev hz, Sem.run_bind, eqGuard, binOp]
    simp [h']) k
theorem W_neBool {t u : TypeId} {y z : Operand} {a b : Bool} (hg : gd ops L ⟨some d, .binOp .neq t y z u, ty, pos, aft, g⟩ = some true) (hN : Nat.blt d x.N = true)
    (hT : ∀ w, (underlying t).run x.P w = .ok .bool w) (hy : ev L y = some (.bool a)) (hz : ev L z = some (.bool b))
    (k : W x ops Q rest H M ((d, .bool (!decide (a = b))) :: L)) : W x ops Q (⟨some d, .binOp .neq t y z u, ty, pos, aft, g⟩ :: rest) H M L :=
  W_pure rfl hg hN (fun c w hs _ => by
    have e : (a == b) = decide (a = b) := by cases a <;> cases b <;> rfl
    have key : ∀ k, (Op.equalIn (k + 1) t (.bool a) (.bool b)).run x.P w = .ok (decide (a = b)) w := fun k => by
      unfold Op.equalIn
      simp [hT, e]
    have h' : (Op.equal t (.bool a) (.bool b)).run x.P w = .ok (decide (a = b)) w := key 9999
    simp only [execOp, hs.ev hy, hs.ev hz, Sem.run_bind, eqGuard, binOp]
    simp [h']) k
end
end Go.Sim
