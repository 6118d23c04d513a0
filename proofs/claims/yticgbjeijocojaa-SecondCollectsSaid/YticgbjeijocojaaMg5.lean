/-
  Maps; fields of struct values; equality of structs; arrays.
  Small lemmas that the printed proofs of calls, results and tokens name.
  Array literals; literals that are owned; results that lie in memory.
-/
import Derived.Test.YticgbjeijocojaaMg4
set_option linter.unusedVariables false
set_option linter.unusedSimpArgs false
section
set_option linter.unusedSimpArgs false
set_option linter.unusedVariables false
namespace Go.Sim
open Go Go.RowKit
set_option linter.unusedVariables false
set_option linter.unusedSimpArgs false
set_option linter.unusedSectionVars false
set_option linter.unnecessarySimpa false

theorem ba_beq2 (s t : ByteArray) : (s == t) = decide (s = t) := by
  have h : (s == t) = (s.data == t.data) := rfl
  rw [h, Bool.eq_iff_iff]
  simp only [beq_iff_eq, decide_eq_true_eq]
  exact ⟨fun e => ByteArray.ext e, fun e => by rw [e]⟩
/-! ### Fields of struct values -/
section
variable {P : Program} {x : Cx P} {ops : Array Oper} {Q : Post} {rest : List Oper} {H : Hp} {M M' : List Res} {L L' : Env}
variable {d : Nat} {ty : TypeId} {pos : String} {aft : Array Edge} {g : Option (Nat × Bool)}

theorem W_fieldV {t : TypeId} {y : Operand} {f : Nat} {cs : List Value} {v : Value} {fs : Array Field} {fd : Field} (hg : gd ops L ⟨some d, .field t y f, ty, pos, aft, g⟩ = some true) (hN : Nat.blt d x.N = true)
    (hT : ∀ w, (underlying t).run P w = .ok (.struct fs) w) (hf : fs[f]? = some fd) (hA : ∀ w, (isAgg fd.type).run P w = .ok false w)
    (hy : ev L y = some (.agg cs.toArray)) (hv : cs[fd.offset]? = some v) (k : W x ops Q rest H M ((d, v) :: L)) :
    W x ops Q (⟨some d, .field t y f, ty, pos, aft, g⟩ :: rest) H M L :=
  W_pure0 rfl hg hN (fun a w hs ht => ⟨by simp [execOp, hs.ev hy, Instr.field, hT, hf, asAgg, part, hA, hv], by simp [execOp, hs.ev hy, Instr.field, hT, hf, asAgg, part, hA, hv]⟩) k
theorem W_fieldVA {t : TypeId} {y : Operand} {f n : Nat} {cs ds : List Value} {fs : Array Field} {fd : Field} (hg : gd ops L ⟨some d, .field t y f, ty, pos, aft, g⟩ = some true) (hN : Nat.blt d x.N = true)
    (hT : ∀ w, (underlying t).run P w = .ok (.struct fs) w) (hf : fs[f]? = some fd) (hA : ∀ w, (isAgg fd.type).run P w = .ok true w) (hn : ∀ w, (sizeOf fd.type).run P w = .ok n w)
    (hy : ev L y = some (.agg cs.toArray)) (hv : (cs.toArray.extract fd.offset (fd.offset + n)) = ds.toArray) (k : W x ops Q rest H M ((d, .agg ds.toArray) :: L)) :
    W x ops Q (⟨some d, .field t y f, ty, pos, aft, g⟩ :: rest) H M L :=
  W_pure0 rfl hg hN (fun a w hs ht => by
    refine ⟨?_, ?_⟩
    · simp only [execOp, hs.ev hy, Instr.field, Sem.run_bind, hT, Result.andThen_ok, hf, asAgg, part, hA, if_true, hn, Sem.run_pure]
      simp only [hv]
    · simp [execOp, hs.ev hy, Instr.field, hT, hf, asAgg, part, hA, hn]) k
theorem RdC.ints {H : Hp} : ∀ (l : List Int), RdC H (l.map (Value.int .i64)) l
  | [] => rfl
  | n :: l => ⟨[.int .i64 n], _, rfl, rfl, RdC.ints l⟩
theorem RdC.bools {H : Hp} : ∀ (l : List Bool), RdC H (l.map Value.bool) l
  | [] => rfl
  | n :: l => ⟨[.bool n], _, rfl, rfl, RdC.bools l⟩

/-! ### Equality of structs -/
/-- It yields this, and lists nothing. -/
def Sil {α : Type} (P : Program) (s : Sem α) (a : α) (w : World) : Prop := s.run P w = .ok a w ∧ ∀ es, s.events P w es = es
theorem Sil.bind {P : Program} {α β : Type} {s : Sem α} {f : α → Sem β} {a : α} {b : β} {w : World} (h : Sil P s a w) (k : Sil P (f a) b w) : Sil P (s >>= f) b w :=
  ⟨by rw [Sem.run_bind, h.1]; exact k.1, fun es => by rw [Sem.events_bind, h.1, Result.evThen_ok, h.2]; exact k.2 es⟩
theorem Sil.pure {P : Program} {α : Type} (a : α) (w : World) : Sil P (Pure.pure a : Sem α) a w := ⟨rfl, fun _ => rfl⟩
/-- The parts of two values at a field. -/
def FldEq (P : Program) (d : Nat) (xs ys : Array Value) (T : TypeId) (o : Nat) (b : Bool) : Prop :=
  ∀ w, ∃ u v, Sil P (part T xs o) u w ∧ Sil P (part T ys o) v w ∧ Sil P (Op.equalIn d T u v) b w
def EqF (P : Program) (d : Nat) (xs ys : Array Value) : List Field → List Bool → Prop
  | [], [] => True
  | f :: fs, b :: bs => f.name ≠ "_" ∧ FldEq P d xs ys f.type f.offset b ∧ EqF P d xs ys fs bs
  | _, _ => False
theorem run_equal_struct {P : Program} {t : TypeId} {fs : Array Field} {xs ys : Array Value} {w : World} {d : Nat} {bs : List Bool} (hT : ∀ w, (underlying t).run P w = .ok (.struct fs) w) (hs : P.stoodInHeld t = false)
    (h : EqF P d xs ys fs.toList bs) : Sil P (Op.equalIn (d + 1) t (.agg xs) (.agg ys)) (bs.all id) w := by
  unfold Op.equalIn
  refine Sil.bind (a := .struct fs) ⟨hT w, fun es => by simp⟩ ?_
  refine Sil.bind (a := P) ⟨rfl, fun es => rfl⟩ ?_
  simp only [hs, Bool.false_eq_true, if_false]
  rw [← Array.forIn_toList]
  revert h
  generalize fs.toList = l
  intro h
  induction l generalizing bs with
  | nil =>
    cases bs with
    | nil => exact ⟨by simp, fun es => by simp⟩
    | cons b bs => exact h.elim
  | cons f l ih =>
    cases bs with
    | nil => exact h.elim
    | cons b bs =>
      obtain ⟨h1, h2, h3⟩ := h
      obtain ⟨u, v, q1, q2, q3⟩ := h2 w
      have := ih h3
      rw [List.forIn_cons]
      cases b with
      | false =>
        refine ⟨?_, fun es => ?_⟩
        · simp [h1, q1.1, q2.1, q3.1]
        · simp [h1, q1.1, q2.1, q3.1, q1.2, q2.2, q3.2]
      | true =>
        refine ⟨?_, fun es => ?_⟩
        · have h9 := this.1
          simp [h1, q1.1, q2.1, q3.1] at h9 ⊢
          exact h9
        · have h9 := this.2 es
          simp [h1, q1.1, q2.1, q3.1, q1.2, q2.2, q3.2] at h9 ⊢
          exact h9
theorem fldEq_int {P : Program} {d T o : Nat} {xs ys : Array Value} {k : IntKind} {m n : Int} (hA : ∀ w, (isAgg T).run P w = .ok false w) (hT : ∀ w, (underlying T).run P w = .ok (.int k) w) (hx : xs[o]? = some (.int k m)) (hy : ys[o]? = some (.int k n)) :
    FldEq P (d + 1) xs ys T o (decide (m = n)) := fun w => by
  refine ⟨.int k m, .int k n, ⟨by simp [part, hA, hx], fun es => by simp [part, hA, hx]⟩, ⟨by simp [part, hA, hy], fun es => by simp [part, hA, hy]⟩, ?_⟩
  unfold Op.equalIn
  exact ⟨by simp [hT, int_beq], fun es => by simp [hT]⟩
theorem fldEq_bool {P : Program} {d T o : Nat} {xs ys : Array Value} {m n : Bool} (hA : ∀ w, (isAgg T).run P w = .ok false w) (hT : ∀ w, (underlying T).run P w = .ok .bool w) (hx : xs[o]? = some (.bool m)) (hy : ys[o]? = some (.bool n)) :
    FldEq P (d + 1) xs ys T o (decide (m = n)) := fun w => by
  refine ⟨.bool m, .bool n, ⟨by simp [part, hA, hx], fun es => by simp [part, hA, hx]⟩, ⟨by simp [part, hA, hy], fun es => by simp [part, hA, hy]⟩, ?_⟩
  have e : (m == n) = decide (m = n) := by cases m <;> cases n <;> rfl
  unfold Op.equalIn
  exact ⟨by simp [hT, e], fun es => by simp [hT]⟩
theorem fldEq_str {P : Program} {d T o : Nat} {xs ys : Array Value} {m n : ByteArray} (hA : ∀ w, (isAgg T).run P w = .ok false w) (hT : ∀ w, (underlying T).run P w = .ok .string w) (hx : xs[o]? = some (.string m)) (hy : ys[o]? = some (.string n)) :
    FldEq P (d + 1) xs ys T o (decide (m = n)) := fun w => by
  refine ⟨.string m, .string n, ⟨by simp [part, hA, hx], fun es => by simp [part, hA, hx]⟩, ⟨by simp [part, hA, hy], fun es => by simp [part, hA, hy]⟩, ?_⟩
  unfold Op.equalIn
  exact ⟨by simp [hT, ba_beq2], fun es => by simp [hT]⟩
/-- A part that is a struct itself. -/
theorem fldEq_agg {P : Program} {d T o n : Nat} {xs ys us vs : Array Value} {b : Bool} (hA : ∀ w, (isAgg T).run P w = .ok true w) (hn : ∀ w, (sizeOf T).run P w = .ok n w) (hx : xs.extract o (o + n) = us) (hy : ys.extract o (o + n) = vs)
    (h : ∀ w, Sil P (Op.equalIn d T (.agg us) (.agg vs)) b w) : FldEq P d xs ys T o b := fun w =>
  ⟨.agg us, .agg vs, ⟨by simp [part, hA, hn, hx], fun es => by simp [part, hA, hn]⟩, ⟨by simp [part, hA, hn, hy], fun es => by simp [part, hA, hn]⟩, h w⟩
theorem W_eqAgg {t u : TypeId} {y z : Operand} {xs ys : List Value} {b : Bool} (hg : gd ops L ⟨some d, .binOp .eql t y z u, ty, pos, aft, g⟩ = some true) (hN : Nat.blt d x.N = true)
    (hE : P.eqGuardType P.depth t = false) (hy : ev L y = some (.agg xs.toArray)) (hz : ev L z = some (.agg ys.toArray)) (h : ∀ w, Sil P (Op.equalIn 10000 t (.agg xs.toArray) (.agg ys.toArray)) b w)
    (k : W x ops Q rest H M ((d, .bool b) :: L)) : W x ops Q (⟨some d, .binOp .eql t y z u, ty, pos, aft, g⟩ :: rest) H M L :=
  W_pure0 rfl hg hN (fun c w hs _ => by
    have h' : (Op.equal t (.agg xs.toArray) (.agg ys.toArray)).run P w = .ok b w := (h w).1
    have h2 : ∀ es, (Op.equal t (.agg xs.toArray) (.agg ys.toArray)).events P w es = es := (h w).2
    have hp : ∀ w, (program : Sem Program).run P w = .ok P w := fun _ => rfl
    refine ⟨?_, ?_⟩
    · simp only [execOp, hs.ev hy, hs.ev hz, Sem.run_bind, eqGuard, binOp]
      simp [h', hp, hE]
    · simp only [execOp, hs.ev hy, hs.ev hz, Sem.events_bind, Sem.run_bind, eqGuard, binOp]
      simp [h', h2, hp, hE]) k
theorem W_neAgg {t u : TypeId} {y z : Operand} {xs ys : List Value} {b : Bool} (hg : gd ops L ⟨some d, .binOp .neq t y z u, ty, pos, aft, g⟩ = some true) (hN : Nat.blt d x.N = true)
    (hE : P.eqGuardType P.depth t = false) (hy : ev L y = some (.agg xs.toArray)) (hz : ev L z = some (.agg ys.toArray)) (h : ∀ w, Sil P (Op.equalIn 10000 t (.agg xs.toArray) (.agg ys.toArray)) b w)
    (k : W x ops Q rest H M ((d, .bool (!b)) :: L)) : W x ops Q (⟨some d, .binOp .neq t y z u, ty, pos, aft, g⟩ :: rest) H M L :=
  W_pure0 rfl hg hN (fun c w hs _ => by
    have h' : (Op.equal t (.agg xs.toArray) (.agg ys.toArray)).run P w = .ok b w := (h w).1
    have h2 : ∀ es, (Op.equal t (.agg xs.toArray) (.agg ys.toArray)).events P w es = es := (h w).2
    have hp : ∀ w, (program : Sem Program).run P w = .ok P w := fun _ => rfl
    refine ⟨?_, ?_⟩
    · simp only [execOp, hs.ev hy, hs.ev hz, Sem.run_bind, eqGuard, binOp]
      simp [h', hp, hE]
    · simp only [execOp, hs.ev hy, hs.ev hz, Sem.events_bind, Sem.run_bind, eqGuard, binOp]
      simp [h', h2, hp, hE]) k

/-! ### Comparison of pointers, booleans, strings -/
def ltS (s t : ByteArray) : Bool := Op.bytesLess s.toList t.toList
theorem W_ptrNil {t e u : TypeId} {y z : Operand} {a : Option Addr} (hg : gd ops L ⟨some d, .binOp .eql t y z u, ty, pos, aft, g⟩ = some true) (hN : Nat.blt d x.N = true)
    (hT : ∀ w, (underlying t).run P w = .ok (.pointer e) w) (hy : ev L y = some (.pointer a)) (hz : ev L z = some (.pointer none))
    (k : W x ops Q rest H M ((d, .bool a.isNone) :: L)) : W x ops Q (⟨some d, .binOp .eql t y z u, ty, pos, aft, g⟩ :: rest) H M L :=
  W_pure0 rfl hg hN (fun c w hs _ => by
    have key : ∀ k, Sil P (Op.equalIn (k + 1) t (.pointer a) (.pointer none)) (a.isNone) w := fun k => by
      unfold Op.equalIn
      refine ⟨?_, fun es => ?_⟩
      all_goals
        cases a <;> simp [hT]
    have h' : Sil P (Op.equal t (.pointer a) (.pointer none)) (a.isNone) w := key 9999
    refine ⟨?_, ?_⟩
    · simp only [execOp, hs.ev hy, hs.ev hz, Sem.run_bind, eqGuard, binOp]
      simp [h'.1]
    · simp only [execOp, hs.ev hy, hs.ev hz, Sem.events_bind, Sem.run_bind, eqGuard, binOp]
      simp [h'.1, h'.2]) k
theorem W_ptrNeNil {t e u : TypeId} {y z : Operand} {a : Option Addr} (hg : gd ops L ⟨some d, .binOp .neq t y z u, ty, pos, aft, g⟩ = some true) (hN : Nat.blt d x.N = true)
    (hT : ∀ w, (underlying t).run P w = .ok (.pointer e) w) (hy : ev L y = some (.pointer a)) (hz : ev L z = some (.pointer none))
    (k : W x ops Q rest H M ((d, .bool (!a.isNone)) :: L)) : W x ops Q (⟨some d, .binOp .neq t y z u, ty, pos, aft, g⟩ :: rest) H M L :=
  W_pure0 rfl hg hN (fun c w hs _ => by
    have key : ∀ k, Sil P (Op.equalIn (k + 1) t (.pointer a) (.pointer none)) (a.isNone) w := fun k => by
      unfold Op.equalIn
      refine ⟨?_, fun es => ?_⟩
      all_goals
        cases a <;> simp [hT]
    have h' : Sil P (Op.equal t (.pointer a) (.pointer none)) (a.isNone) w := key 9999
    refine ⟨?_, ?_⟩
    · simp only [execOp, hs.ev hy, hs.ev hz, Sem.run_bind, eqGuard, binOp]
      simp [h'.1]
    · simp only [execOp, hs.ev hy, hs.ev hz, Sem.events_bind, Sem.run_bind, eqGuard, binOp]
      simp [h'.1, h'.2]) k
theorem W_eqBool {t u : TypeId} {y z : Operand} {a b : Bool} (hg : gd ops L ⟨some d, .binOp .eql t y z u, ty, pos, aft, g⟩ = some true) (hN : Nat.blt d x.N = true)
    (hT : ∀ w, (underlying t).run P w = .ok .bool w) (hy : ev L y = some (.bool a)) (hz : ev L z = some (.bool b))
    (k : W x ops Q rest H M ((d, .bool (decide (a = b))) :: L)) : W x ops Q (⟨some d, .binOp .eql t y z u, ty, pos, aft, g⟩ :: rest) H M L :=
  W_pure0 rfl hg hN (fun c w hs _ => by
    have e : (a == b) = decide (a = b) := by cases a <;> cases b <;> rfl
    have key : ∀ k, Sil P (Op.equalIn (k + 1) t (.bool a) (.bool b)) ((decide (a = b))) w := fun k => by
      unfold Op.equalIn
      refine ⟨?_, fun es => ?_⟩
      all_goals
        simp [hT, e]
    have h' : Sil P (Op.equal t (.bool a) (.bool b)) ((decide (a = b))) w := key 9999
    refine ⟨?_, ?_⟩
    · simp only [execOp, hs.ev hy, hs.ev hz, Sem.run_bind, eqGuard, binOp]
      simp [h'.1]
    · simp only [execOp, hs.ev hy, hs.ev hz, Sem.events_bind, Sem.run_bind, eqGuard, binOp]
      simp [h'.1, h'.2]) k
theorem W_neBool {t u : TypeId} {y z : Operand} {a b : Bool} (hg : gd ops L ⟨some d, .binOp .neq t y z u, ty, pos, aft, g⟩ = some true) (hN : Nat.blt d x.N = true)
    (hT : ∀ w, (underlying t).run P w = .ok .bool w) (hy : ev L y = some (.bool a)) (hz : ev L z = some (.bool b))
    (k : W x ops Q rest H M ((d, .bool (!decide (a = b))) :: L)) : W x ops Q (⟨some d, .binOp .neq t y z u, ty, pos, aft, g⟩ :: rest) H M L :=
  W_pure0 rfl hg hN (fun c w hs _ => by
    have e : (a == b) = decide (a = b) := by cases a <;> cases b <;> rfl
    have key : ∀ k, Sil P (Op.equalIn (k + 1) t (.bool a) (.bool b)) ((decide (a = b))) w := fun k => by
      unfold Op.equalIn
      refine ⟨?_, fun es => ?_⟩
      all_goals
        simp [hT, e]
    have h' : Sil P (Op.equal t (.bool a) (.bool b)) ((decide (a = b))) w := key 9999
    refine ⟨?_, ?_⟩
    · simp only [execOp, hs.ev hy, hs.ev hz, Sem.run_bind, eqGuard, binOp]
      simp [h'.1]
    · simp only [execOp, hs.ev hy, hs.ev hz, Sem.events_bind, Sem.run_bind, eqGuard, binOp]
      simp [h'.1, h'.2]) k
theorem blt_total : ∀ (x y : List UInt8), (!(Op.bytesLess x y || x == y)) = Op.bytesLess y x
  | [], [] => rfl
  | [], _ :: _ => rfl
  | _ :: _, [] => rfl
  | a :: x, b :: y => by
    have ih := blt_total x y
    simp only [Op.bytesLess, List.cons_beq_cons]
    rcases Nat.lt_trichotomy a.toNat b.toNat with h | h | h
    · have h1 : a < b := UInt8.lt_iff_toNat_lt.2 h
      have h2 : ¬ b < a := fun e => by have := UInt8.lt_iff_toNat_lt.1 e; omega
      have h3 : (b == a) = false := by simp; intro e; subst e; omega
      simp [h1, h2, h3]
    · have h0 : a = b := UInt8.toNat_inj.1 h
      subst h0
      simpa using ih
    · have h1 : b < a := UInt8.lt_iff_toNat_lt.2 h
      have h2 : ¬ a < b := fun e => by have := UInt8.lt_iff_toNat_lt.1 e; omega
      have h3 : (a == b) = false := by simp; intro e; subst e; omega
      simp [h1, h2, h3]
theorem W_cmpS {op : BinOp} {t u : TypeId} {y z : Operand} {a b : ByteArray} {v : Bool} (hg : gd ops L ⟨some d, .binOp op t y z u, ty, pos, aft, g⟩ = some true) (hN : Nat.blt d x.N = true)
    (hy : ev L y = some (.string a)) (hz : ev L z = some (.string b))
    (hv : op = .lss ∧ v = ltS a b ∨ op = .gtr ∧ v = ltS b a ∨ op = .leq ∧ v = (!(ltS b a)) ∨ op = .geq ∧ v = (!(ltS a b)))
    (k : W x ops Q rest H M ((d, .bool v) :: L)) : W x ops Q (⟨some d, .binOp op t y z u, ty, pos, aft, g⟩ :: rest) H M L :=
  W_pure0 rfl hg hN (fun c w hs _ => by
    refine ⟨?_, ?_⟩
    all_goals
      rcases hv with ⟨rfl, rfl⟩ | ⟨rfl, rfl⟩ | ⟨rfl, rfl⟩ | ⟨rfl, rfl⟩
      · simp [execOp, hs.ev hy, hs.ev hz, eqGuard, binOp, Op.stringOp, ltS]
      · simp only [execOp, hs.ev hy, hs.ev hz, eqGuard, binOp, Op.stringOp, ltS, ← blt_total a.toList b.toList]; simp
      · simp only [execOp, hs.ev hy, hs.ev hz, eqGuard, binOp, Op.stringOp, ltS, ← blt_total a.toList b.toList]; simp
      · simp [execOp, hs.ev hy, hs.ev hz, eqGuard, binOp, Op.stringOp, ltS]) k
end
end Go.Sim
end

section
set_option linter.unusedSimpArgs false
set_option linter.unusedVariables false
namespace Go.Sim
open Go Go.RowKit
set_option linter.unusedVariables false
set_option linter.unusedSimpArgs false
set_option linter.unusedSectionVars false
set_option linter.unnecessarySimpa false

section
variable {P : Program} {x : Cx P} {ops : Array Oper} {Q : Post} {rest : List Oper} {H : Hp} {M M' : List Res} {L L' : Env}
theorem W_as {M'} (h : M = M') (k : W x ops Q rest H M' L) : W x ops Q rest H M L := h ▸ k
theorem C_as {c : Code} {M'} (h : M = M') (k : C x c Q H M' L) : C x c Q H M L := h ▸ k
theorem E_as {e : Exit} {M'} (h : M = M') (k : E x e Q H M' L) : E x e Q H M L := h ▸ k
theorem E_perm {e : Exit} (hM : M.Perm M') (k : E x e Q H M' L) : E x e Q H M L := fun a w hs ht => k a w hs (ht.perm hM)
theorem C_perm {c : Code} (hM : M.Perm M') (k : C x c Q H M' L) : C x c Q H M L := fun a w hs ht => k a w hs (ht.perm hM)
/-- A row is not longer than any slice can be. -/
theorem C_rowMax {c : Code} {v : Value} {T : TypeId} {sz n : Nat} {xs : List Value} (hm : Res.row v T sz n xs ∈ M) (k : n ≤ maxLen → C x c Q H M L) : C x c Q H M L := fun a w hs ht => by
  have hok : OwnsR w T sz v n xs := ht.ok _ hm
  refine k ?_ a w hs ht
  rcases hok.2 with ⟨_, rfl⟩ | ⟨g, off, cap, cur, rfl, hg, hnc, hcm, _⟩
  · unfold maxLen; omega
  · omega
theorem E_rowMax {e : Exit} {v : Value} {T : TypeId} {sz n : Nat} {xs : List Value} (hm : Res.row v T sz n xs ∈ M) (k : n ≤ maxLen → E x e Q H M L) : E x e Q H M L := fun a w hs ht => by
  have hok : OwnsR w T sz v n xs := ht.ok _ hm
  refine k ?_ a w hs ht
  rcases hok.2 with ⟨_, rfl⟩ | ⟨g, off, cap, cur, rfl, hg, hnc, hcm, _⟩
  · unfold maxLen; omega
  · omega
/-- Heap facts may be forgotten, before a way's end. -/
theorem E_weak {e : Exit} {H0 : Hp} (hle : H0.le H) (k : E x e Q H0 M L) : E x e Q H M L := fun a w hs ht => k a w hs (ht.weak hle)
end

section
variable {P : Program} {N B : Nat} {w0 : Bs P} {fn : Func} {Φ : Hp → List Res → Value → Prop} {H : Hp} {M : List Res} {L : Env}
theorem E_off (k : E ⟨N, B, w0⟩ .ret (bodyPostK P fn (Ret B w0 Φ)) H M L) : E ⟨N, B, w0⟩ .normal (bodyPostK P fn (Ret B w0 Φ)) H M L := fun a w hs ht => k a w hs ht
theorem end0 (hr : fn.results = #[]) (h : Φ H M (.tuple #[])) : E ⟨N, B, w0⟩ .ret (bodyPostK P fn (Ret B w0 Φ)) H M L :=
  fun a w hs ht => ⟨hs.dfr, .tuple #[], resK0 hr _, H, M, ht, h⟩
theorem end3 {t u s : Nat} {v1 v2 v3 : Value} (hr : fn.results = #[.tmp t, .tmp u, .tmp s]) (hl : lk L t = some v1) (hl2 : lk L u = some v2) (hl3 : lk L s = some v3) (h : Φ H M (.tuple #[v1, v2, v3])) : E ⟨N, B, w0⟩ .ret (bodyPostK P fn (Ret B w0 Φ)) H M L :=
  fun a w hs ht => ⟨hs.dfr, .tuple #[v1, v2, v3], resK3 hr (hs.get t v1 hl) (hs.get u v2 hl2) (hs.get s v3 hl3), H, M, ht, h⟩
end

/-- Data without slices inside: the heap facts do not matter. -/
class Flat (α : Type) [Rep α] : Prop where
  ind : ∀ {H H' : Hp} {cs : List Value} {x : α}, Rep.E H cs x → Rep.E H' cs x
instance : Flat Int := ⟨fun h => h⟩
instance : Flat Bool := ⟨fun h => h⟩
instance : Flat ByteArray := ⟨fun h => h⟩
instance : Flat U8 := ⟨fun h => h⟩
instance : Flat U16 := ⟨fun h => h⟩
instance : Flat U32 := ⟨fun h => h⟩
instance : Flat U64 := ⟨fun h => h⟩
instance : Flat I32 := ⟨fun h => h⟩
theorem RdC.flat {α : Type} [Rep α] [Flat α] {H H' : Hp} : ∀ {cs : List Value} {ys : List α}, RdC H cs ys → RdC H' cs ys
  | _, [], h => h
  | _, _ :: _, ⟨c, r, e, h, k⟩ => ⟨c, r, e, Flat.ind h, RdC.flat k⟩
def RwF {α : Type} [Rep α] (v : Value) (xs : List Value) (l : List α) : Prop := ∀ H, Rw H v xs l
def RdCF {α : Type} [Rep α] (xs : List Value) (l : List α) : Prop := ∀ H, RdC H xs l
theorem Rw.toF {α : Type} [Rep α] [Flat α] {H : Hp} {v : Value} {xs : List Value} {l : List α} (h : Rw H v xs l) : RwF v xs l := fun H' => ⟨h.rd.flat, h.sl⟩
theorem RdC.toF {α : Type} [Rep α] [Flat α] {H : Hp} {xs : List Value} {l : List α} (h : RdC H xs l) : RdCF xs l := fun H' => h.flat

/-- What is in an option. -/
def optC {α R : Type} (o : Option α) (a : R) (f : α → R) : R := match o with
  | none => a
  | some s => f s
theorem optC_n {α R : Type} {o : Option α} {a : R} {f : α → R} {r : R} (h : o = none) (k : optC o a f = r) : a = r := by subst h; exact k
theorem optC_s {α R : Type} {o : Option α} {a : R} {f : α → R} {s : α} {r : R} (h : o = some s) (k : optC o a f = r) : f s = r := by subst h; exact k

def phiT (l : List (Hp → List Res → Value → Prop)) (i : Nat) : Hp → List Res → Value → Prop := l.getD i (fun _ _ _ => True)
def MonoT (p : Hp → List Res → Value → Prop) : Prop := ∀ H1 H2 rs v, H1.le H2 → p H1 rs v → p H2 rs v
def MonoTL : List (Hp → List Res → Value → Prop) → Prop
  | [] => True
  | p :: l => MonoT p ∧ MonoTL l
theorem phiT_mono {l : List (Hp → List Res → Value → Prop)} (h : MonoTL l) : ∀ i H1 H2 rs v, H1.le H2 → phiT l i H1 rs v → phiT l i H2 rs v := by
  induction l with
  | nil => intro i H1 H2 rs v _ _; exact trivial
  | cons p l ih =>
    intro i H1 H2 rs v hle hp
    cases i with
    | zero => exact h.1 H1 H2 rs v hle hp
    | succ i => exact ih h.2 i H1 H2 rs v hle hp
theorem eq_monoT (rs0 : List Res) (c : Value) : MonoT (fun _ rs v => rs0 = rs ∧ c = v) := fun _ _ _ _ _ h => h
/-- The two ends of an order of strings. -/
theorem Kept_self : ∀ (L : Env), Kept L [] := fun _ => trivial
end Go.Sim
end

section
set_option linter.unusedSimpArgs false
set_option linter.unusedVariables false
namespace Go.Sim
open Go Go.RowKit
set_option linter.unusedVariables false
set_option linter.unusedSimpArgs false
set_option linter.unusedSectionVars false
set_option linter.unnecessarySimpa false

theorem cells_map {α : Type} {f : α → Value} {l : List α} {k : Nat} {y : α} (he : l[k]? = some y) : (l.map f)[k * 1]? = some (f y) := by
  rw [Nat.mul_one, List.getElem?_map, he]; rfl

section
variable {P : Program} {x : Cx P} {ops : Array Oper} {Q : Post} {rest : List Oper} {H : Hp} {M M' : List Res} {L L' : Env}
variable {d : Nat} {ty : TypeId} {pos : String} {aft : Array Edge} {g : Option (Nat × Bool)}

/-- The address of an array's element, at any place that is known. -/
theorem W_indexAd {t e m sz : Nat} {y z : Operand} {ad : Addr} {kk : IntKind} {i : Int}
    (hg : gd ops L ⟨some d, .indexAddr t y z, ty, pos, aft, g⟩ = some true) (hN : Nat.blt d x.N = true)
    (hT : ∀ w, (underlying t).run P w = .ok (.array m e) w) (hs : ∀ w, (sizeOf e).run P w = .ok sz w)
    (hy : ev L y = some (.pointer (some ad))) (hz : ev L z = some (.int kk i)) (h0 : 0 ≤ i) (h1 : i.toNat < m)
    (k : W x ops Q rest H M ((d, .pointer (some (ad.add (i.toNat * sz)))) :: L)) :
    W x ops Q (⟨some d, .indexAddr t y z, ty, pos, aft, g⟩ :: rest) H M L :=
  W_pure0 rfl hg hN (fun c w hsl ht => by
    refine ⟨?_, ?_⟩
    all_goals
      have h1' : i < (m : Int) := by omega
      simp [execOp, hsl.ev hy, hsl.ev hz, Instr.indexAt, asIntOf, hT, hs, h0, h1', Instr.sureAddr]) k

/-- A store into an owned row; the model's list is another one of the same length. -/
theorem W_storeO2 {T E : TypeId} {m sz n n' i : Nat} {y z : Operand} {v u : Value} {ad : Addr} {xs cs : List Value} (hg : gd ops L ⟨none, .store T y z, ty, pos, aft, g⟩ = some true)
    (hn : ∀ w, (sizeOf T).run P w = .ok m w) (hy : ev L y = some (.pointer (some ad))) (had : ad = (Value.base v).add i) (hz : ev L z = some u) (hv : u.cells = cs.toArray) (hl : cs.length = m)
    (hb : i + cs.length ≤ xs.length) (hpos : Nat.blt 0 cs.length = true) (h1 : ∀ c ∈ cs, c.oneCell' = true) (hnn : n' = n)
    (k : W x ops Q rest H (.row v E sz n' (over xs i cs) :: M) L) :
    W x ops Q (⟨none, .store T y z, ty, pos, aft, g⟩ :: rest) H (.row v E sz n xs :: M) L := by
  subst hnn
  exact W_storeO hg hn hy had hz hv hl hb hpos h1 k

/-- A slice literal that is owned. -/
theorem W_buildSliceO {α : Type} [Rep α] {T e : TypeId} {n : Nat} {ps : List (Nat × Operand)} {vs : List Value} {css : List (List Value)} {z : Value} {zs out : List Value} {places : List (Nat × Nat)} {ys : List α}
    (hg : gd ops L ⟨some d, .buildSlice T n ps.toArray, ty, pos, aft, g⟩ = some true) (hN : Nat.blt d x.N = true)
    (hv : evs L (ps.map (·.2)) = some vs) (hc : CellsL vs css)
    (hT : ∀ w, (underlying T).run P w = .ok (.slice e) w) (hs : ∀ w, (sizeOf e).run P w = .ok (Rep.sz α) w) (hs0 : Nat.blt 0 (Rep.sz α) = true)
    (hz : ∀ w, (zeroValue e).run P w = .ok z w) (hzs : (Array.range (n * Rep.sz α)).map (z.cells[· % z.cells.size]!) = zs.toArray)
    (hpl : places = (List.range n).map fun i => (i * Rep.sz α, Rep.sz α)) (hn : Nat.ble (n * Rep.sz α) 16777216 = true) (hnn : Nat.blt 0 n = true)
    (ho : laid places zs ((ps.map (·.1)).zip css) = some out) (hr : RdC H out ys) (hyn : ys.length = n)
    (k : ∀ v' xs', Rw H v' xs' ys → W x ops Q rest H (.row v' e (Rep.sz α) ys.length xs' :: M) ((d, v') :: L)) :
    W x ops Q (⟨some d, .buildSlice T n ps.toArray, ty, pos, aft, g⟩ :: rest) H M L := by
  refine W_run rfl hg hN fun a w hsl ht => ?_
  have hl : (ps.map (·.1)).length = vs.length := by rw [← hsl.evs hv]; simp
  have hs0' : 0 < Rep.sz α := by simpa [Nat.blt_eq] using hs0
  have hn' : n * Rep.sz α ≤ 16777216 := by simpa [Nat.ble_eq] using hn
  have hnn' : 0 < n := by simpa [Nat.blt_eq] using hnn
  have hpos : 0 < n * Rep.sz α := Nat.mul_pos hnn' hs0'
  have hf := fill_laid (place := fun i => some (i * Rep.sz α, Rep.sz α)) (places := places) (fun i o h => by
    rw [hpl, List.getElem?_map] at h
    cases hh : (List.range n)[i]? with
    | none => rw [hh] at h; cases h
    | some j =>
      rw [hh] at h
      have : j = i := by
        have := List.getElem?_eq_some_iff.1 hh
        simpa using this.2.symm
      subst this
      simpa using h) (ps.map (·.1)) vs css zs out hc hl ho
  have hps := evs_zip hsl hv
  have hsz : out.length = n * Rep.sz α := by rw [hr.len, hyn]
  have hmax : ys.length ≤ maxLen := by
    unfold maxLen
    have : n ≤ n * Rep.sz α := Nat.le_mul_of_pos_right _ hs0'
    omega
  have h1 : ¬ (2 ^ 24 < n * Rep.sz α) := by omega
  have h2 : ¬ (n * Rep.sz α = 0) := by omega
  have he : (execOp a.eval ⟨some d, .buildSlice T n ps.toArray, ty, pos, aft, g⟩).events P w #[] = #[] := by
    have hf' : Instr.fill (fun i => some (i * Rep.sz α, Rep.sz α)) ((Array.range (n * Rep.sz α)).map (z.cells[· % z.cells.size]!)) ((List.map (fun x => x.fst) ps).zip vs) = some out.toArray := by
      rw [hzs]; exact hf
    simp only [execOp, Instr.buildSlice, Sem.events_bind, Sem.run_bind, hT, Result.andThen_ok, Result.evThen_ok, hs, gt_iff_lt, h1, h2, if_false, hz, Sem.run_pure, events_underlying, events_sizeOf, events_zeroValue, Sem.events_ite]
    simp only [hps, hf', newRow, Sem.run_bind, Sem.events_bind, Sem.events_pure, events_newObj]
    simp
  refine ⟨.slice (some ⟨w.heap.size, 0, none⟩) ys.length ys.length, w.alloc (.cells out.toArray e), ?_, fun hN2 => ⟨by rw [he]; exact Did.alloc _ _, H, _, St.newRow (e := e) ht hr hmax hN2, k _ _ ⟨hr, _, _, _, rfl⟩⟩⟩
  simp only [execOp, Instr.buildSlice, Sem.run_bind, hT, Result.andThen_ok, hs, gt_iff_lt, h1, h2, if_false, hz, Sem.run_pure]
  simp only [hps]
  have hf' : Instr.fill (fun i => some (i * Rep.sz α, Rep.sz α)) ((Array.range (n * Rep.sz α)).map (z.cells[· % z.cells.size]!)) ((List.map (fun x => x.fst) ps).zip vs) = some out.toArray := by
    rw [hzs]; exact hf
  simp only [hf', newRow, newObj, Sem.run_bind, Sem.run_pure, Sem.run, Result.andThen_ok, World.alloc, hyn]
end

end Go.Sim
end
