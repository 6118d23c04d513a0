/-
  Maps; fields of struct values; equality of structs; arrays.
-/
import Derived.Test.YtfmhkgnbceoclaaSimQ
namespace Go.Sim
open Go Go.RowKit
set_option linter.unusedVariables false
set_option linter.unusedSimpArgs false
set_option linter.unusedSectionVars false
set_option linter.unnecessarySimpa false

/-! ### Maps -/
class MV (α : Type) where
  mv : α → Value
instance : MV Int := ⟨fun n => .int .i64 n⟩
instance : MV Bool := ⟨fun b => .bool b⟩
instance : MV ByteArray := ⟨fun s => .string s⟩
class MKey (α : Type) [DecidableEq α] extends MV α where
  kind : TypeDesc
  same : ∀ a b : α, Instr.sameNow kind (mv a) (mv b) = some (decide (a = b))
  bits : ∀ a : α, Instr.sameBits 10000 (mv a) (mv a) = true
  check : ∀ (P : Program) (t : TypeId) (e : Bool) (a : α) (w : World), (∀ w, (underlying t).run P w = .ok kind w) → (Instr.checkKey e 10000 t (mv a)).run P w = .ok () w
theorem ba_beq2 (s t : ByteArray) : (s == t) = decide (s = t) := by
  have h : (s == t) = (s.data == t.data) := rfl
  rw [h, Bool.eq_iff_iff]
  simp only [beq_iff_eq, decide_eq_true_eq]
  exact ⟨fun e => ByteArray.ext e, fun e => by rw [e]⟩
instance : MKey Int where
  kind := .int .i64
  same a b := by simp [Instr.sameNow, int_beq, MV.mv]
  bits a := by simp [Instr.sameBits, MV.mv]
  check P t e a w h := by
    have key : ∀ k, (Instr.checkKey e (k + 1) t (.int .i64 a)).run P w = .ok () w := fun k => by unfold Instr.checkKey; simp [h]
    exact key 9999
instance : MKey ByteArray where
  kind := .string
  same a b := by simp [Instr.sameNow, ba_beq2, MV.mv]
  bits a := by simp [Instr.sameBits, MV.mv, ba_beq2]
  check P t e a w h := by
    have key : ∀ k, (Instr.checkKey e (k + 1) t (.string a)).run P w = .ok () w := fun k => by unfold Instr.checkKey; simp [h]
    exact key 9999

section
variable {κ ν : Type} [DecidableEq κ] [MKey κ] [MV ν]
def MapR (es : Array MapEntry) (l : List (κ × ν)) : Prop := es.toList.map (fun e => (e.key, e.val)) = l.map fun p => (MV.mv p.1, MV.mv p.2)
/-- Where a key stands. -/
def mfi : List (κ × ν) → κ → Nat → Option (Nat × ν)
  | [], _, _ => none
  | (a, v) :: r, k, i => if a = k then some (i, v) else mfi r k (i + 1)
def mget (l : List (κ × ν)) (k : κ) : Option ν := (mfi l k 0).map (·.2)
def mput (l : List (κ × ν)) (k : κ) (v : ν) : List (κ × ν) := match mfi l k 0 with
  | some (i, _) => l.set i (k, v)
  | none => l ++ [(k, v)]
theorem MapR.nil : MapR #[] ([] : List (κ × ν)) := rfl
theorem findNow_eq (k : κ) : ∀ (es : List MapEntry) (l : List (κ × ν)) (i : Nat), es.map (fun e => (e.key, e.val)) = l.map (fun p => (MV.mv p.1, MV.mv p.2)) →
    Instr.findNow (MKey.kind κ) (MV.mv k) es i = some ((mfi l k i).map fun p => (p.1, MV.mv p.2))
  | [], [], i, _ => rfl
  | [], _ :: _, i, h => by simp at h
  | _ :: _, [], i, h => by simp at h
  | e :: es, (a, v) :: l, i, h => by
    simp only [List.map_cons, List.cons.injEq, Prod.mk.injEq] at h
    obtain ⟨⟨h1, h2⟩, h3⟩ := h
    unfold Instr.findNow
    rw [h1, MKey.same]
    by_cases hk : k = a
    · subst hk; simp [mfi, h2]
    · simp only [hk, decide_false, mfi, if_neg (fun e : a = k => hk e.symm)]
      exact findNow_eq k es l (i + 1) h3
theorem run_findKey {P : Program} {w : World} {t : TypeId} {k : κ} {es : Array MapEntry} {l : List (κ × ν)} (h : MapR es l) (hK : ∀ w, (underlying t).run P w = .ok (MKey.kind κ) w) :
    (Instr.findKey t (MV.mv k) es.toList).run P w = .ok ((mfi l k 0).map fun p => (p.1, MV.mv p.2)) w := by
  simp only [Instr.findKey, Sem.run_bind, hK, Result.andThen_ok, findNow_eq k es.toList l 0 h, Sem.run_pure]
theorem mfi_lt : ∀ {l : List (κ × ν)} {k : κ} {i j : Nat} {v : ν}, mfi l k i = some (j, v) → i ≤ j ∧ j < i + l.length ∧ l[j - i]? = some (k, v)
  | [], k, i, j, v, h => by simp [mfi] at h
  | (a, u) :: l, k, i, j, v, h => by
    unfold mfi at h
    split at h
    · rename_i e; subst e
      simp only [Option.some.injEq, Prod.mk.injEq] at h
      obtain ⟨rfl, rfl⟩ := h
      simp
    · obtain ⟨h1, h2, h3⟩ := mfi_lt h
      refine ⟨by omega, by simp; omega, ?_⟩
      rw [show j - i = (j - (i + 1)) + 1 by omega, List.getElem?_cons_succ]; exact h3
end

section
variable {x : Cx} {ops : Array Oper} {Q : Post} {rest : List Oper} {H : Hp} {M M' : List Res} {L L' : Env}
variable {d : Nat} {ty : TypeId} {pos : String} {aft : Array Edge} {g : Option (Nat × Bool)}
variable {κ ν : Type} [DecidableEq κ] [MKey κ] [MV ν]

theorem W_makeMap {t : TypeId} (hg : gd ops L ⟨some d, .makeMap t none, ty, pos, aft, g⟩ = some true) (hN : Nat.blt d x.N = true)
    (k : ∀ b, W x ops Q rest H (.obj b (.map #[] 0) :: M) ((d, .map (some b)) :: L)) :
    W x ops Q (⟨some d, .makeMap t none, ty, pos, aft, g⟩ :: rest) H M L :=
  W_run rfl hg hN (fun c w hs ht => ⟨_, w.alloc (.map #[] 0), by
    simp only [execOp, Instr.makeMap, Option.map_none, newObj, Sem.run_bind, Sem.run_pure, Sem.run, Result.andThen_ok, World.alloc], _, _, ht.alloc _, k _⟩)

theorem run_getMap {P : Program} {w : World} {b : Nat} {es : Array MapEntry} {c : Nat} (h : w.heap[b]? = some (.map es c)) : (getObj b).run P w = .ok (.map es c) w := by
  simp [getObj, Sem.run, h]

theorem run_lookup {P : Program} {w : World} {t key e : TypeId} {b c : Nat} {es : Array MapEntry} {l : List (κ × ν)} {k : κ} {z : ν} {ok : Bool} (hb : w.heap[b]? = some (.map es c)) (h : MapR es l)
    (hT : ∀ w, (underlying t).run P w = .ok (.map key e) w) (hK : ∀ w, (underlying key).run P w = .ok (MKey.kind κ) w) (hz : ∀ w, (zeroValue e).run P w = .ok (MV.mv z) w) :
    (Instr.lookup t (.map (some b)) (MV.mv k) ok).run P w = .ok (if ok then .tuple #[MV.mv ((mget l k).getD z), .bool (mget l k).isSome] else MV.mv ((mget l k).getD z)) w := by
  simp only [Instr.lookup, Sem.run_bind, hT, Result.andThen_ok, run_getMap hb, Sem.run_pure, MKey.check P key _ k w hK, run_findKey h hK]
  unfold mget
  cases hm : mfi l k 0 with
  | none => simp only [Option.map_none, Sem.run_bind, hz, Result.andThen_ok, Sem.run_pure]; rfl
  | some p => simp only [Option.map_some, Sem.run_pure, Result.andThen_ok]; rfl

theorem W_lookup {t key e : TypeId} {b c : Nat} {y u : Operand} {es : Array MapEntry} {l : List (κ × ν)} {k : κ} {z : ν} {vk v : Value} (hm : Res.obj b (.map es c) ∈ M) (h : MapR es l)
    (hg : gd ops L ⟨some d, .lookup t y u false, ty, pos, aft, g⟩ = some true) (hN : Nat.blt d x.N = true)
    (hT : ∀ w, (underlying t).run x.P w = .ok (.map key e) w) (hK : ∀ w, (underlying key).run x.P w = .ok (MKey.kind κ) w) (hz : ∀ w, (zeroValue e).run x.P w = .ok (MV.mv z) w)
    (hy : ev L y = some (.map (some b))) (hu : ev L u = some vk) (hvk : vk = MV.mv k) (hv : MV.mv ((mget l k).getD z) = v)
    (kk : W x ops Q rest H M ((d, v) :: L)) :
    W x ops Q (⟨some d, .lookup t y u false, ty, pos, aft, g⟩ :: rest) H M L :=
  W_pure rfl hg hN (fun a w hs ht => by
    subst hvk; subst hv
    simp only [execOp, hs.ev hy, hs.ev hu, Sem.run_bind, run_lookup (ok := false) (ht.obj_ok hm) h hT hK hz, Result.andThen_ok, Sem.run_pure]; rfl) kk
theorem W_lookup2 {t key e : TypeId} {b c : Nat} {y u : Operand} {es : Array MapEntry} {l : List (κ × ν)} {k : κ} {z : ν} {vk v : Value} (hm : Res.obj b (.map es c) ∈ M) (h : MapR es l)
    (hg : gd ops L ⟨some d, .lookup t y u true, ty, pos, aft, g⟩ = some true) (hN : Nat.blt d x.N = true)
    (hT : ∀ w, (underlying t).run x.P w = .ok (.map key e) w) (hK : ∀ w, (underlying key).run x.P w = .ok (MKey.kind κ) w) (hz : ∀ w, (zeroValue e).run x.P w = .ok (MV.mv z) w)
    (hy : ev L y = some (.map (some b))) (hu : ev L u = some vk) (hvk : vk = MV.mv k) (hv : MV.mv ((mget l k).getD z) = v)
    (kk : W x ops Q rest H M ((d, .tuple #[v, .bool (mget l k).isSome]) :: L)) :
    W x ops Q (⟨some d, .lookup t y u true, ty, pos, aft, g⟩ :: rest) H M L :=
  W_pure rfl hg hN (fun a w hs ht => by
    subst hvk; subst hv
    simp only [execOp, hs.ev hy, hs.ev hu, Sem.run_bind, run_lookup (ok := true) (ht.obj_ok hm) h hT hK hz, Result.andThen_ok, Sem.run_pure]; rfl) kk

theorem grownBy_setObj (w : World) (b : Nat) (o : Obj) : w.grownBy { w with heap := w.heap.setIfInBounds b o } (some b) :=
  ⟨rfl, rfl, rfl, by simp, fun k _ hne => by
    simp only [Array.getElem?_setIfInBounds]
    rw [if_neg (fun e => hne (by rw [e]))]⟩

/-- A store into a map that is owned, and stands first. -/
theorem W_mapUpdate {t key e : TypeId} {b c : Nat} {y u q : Operand} {es : Array MapEntry} {l : List (κ × ν)} {k : κ} {v : ν} {vk vv : Value} (h : MapR es l)
    (hg : gd ops L ⟨none, .mapUpdate t y u q, ty, pos, aft, g⟩ = some true)
    (hT : ∀ w, (underlying t).run x.P w = .ok (.map key e) w) (hK : ∀ w, (underlying key).run x.P w = .ok (MKey.kind κ) w)
    (hy : ev L y = some (.map (some b))) (hu : ev L u = some vk) (hvk : vk = MV.mv k) (hq : ev L q = some vv) (hvv : vv = MV.mv v)
    (kk : ∀ es' c', MapR es' (mput l k v) → W x ops Q rest H (.obj b (.map es' c') :: M) L) :
    W x ops Q (⟨none, .mapUpdate t y u q, ty, pos, aft, g⟩ :: rest) H (.obj b (.map es c) :: M) L :=
  W_skip rfl hg (fun a w hs ht => by
    subst hvk; subst hvv
    have hb := ht.obj_ok (List.mem_cons_self ..)
    have hlt : b < w.heap.size := (Array.getElem?_eq_some_iff.1 hb).1
    have hset : ∀ o, (setObj b o).run x.P w = .ok () { w with heap := w.heap.setIfInBounds b o } := fun o => by simp [setObj, Sem.run, hb]
    have fin : ∀ es' c', MapR es' (mput l k v) → ∃ H' M', St x.B x.w0 H' M' { w with heap := w.heap.setIfInBounds b (.map es' c') } ∧ W x ops Q rest H' M' L := fun es' c' hr =>
      ⟨H, _, ht.upd (r' := .obj b (.map es' c')) (grownBy_setObj w b _) (by simp [Res.ok, hlt]) (fun _ hc => .inl hc), kk es' c' hr⟩
    have hlen : es.size = l.length := by have := congrArg List.length h; simpa using this
    cases hm : mfi l k 0 with
    | none =>
      refine ⟨_, ?_, fin (es.push { key := MV.mv k, val := MV.mv v, born := c }) (c + 1) ?_⟩
      · simp only [execOp, hs.ev hy, hs.ev hu, hs.ev hq, Instr.mapUpdate, Sem.run_bind, hT, Result.andThen_ok, run_getMap hb, MKey.check x.P key _ k w hK, run_findKey h hK, hm, Option.map_none, hset, Sem.run_pure]
      · unfold MapR mput
        rw [hm]
        simp only [Array.toList_push, List.map_append, List.map_cons, List.map_nil]
        rw [show es.toList.map _ = _ from h]
    | some p =>
      obtain ⟨i, u0⟩ := p
      obtain ⟨_, hi, hget⟩ := mfi_lt hm
      simp only [Nat.zero_add, Nat.sub_zero] at hi hget
      have hi' : i < es.size := by omega
      have hkey : es[i].key = MV.mv k := by
        have h1 : (es.toList.map fun e => (e.key, e.val))[i]? = some (MV.mv k, MV.mv u0) := by rw [show es.toList.map _ = _ from h, List.getElem?_map, hget]; rfl
        rw [List.getElem?_map] at h1
        simp [hi'] at h1
        exact h1.1
      refine ⟨_, ?_, fin (es.modify i fun e => { e with key := MV.mv k, val := MV.mv v }) c ?_⟩
      · have hg2 : ((es[i]?).map (·.key)).getD (MV.mv k) = MV.mv k := by simp [hi', hkey]
        simp only [execOp, hs.ev hy, hs.ev hu, hs.ev hq, Instr.mapUpdate, Sem.run_bind, hT, Result.andThen_ok, run_getMap hb, MKey.check x.P key _ k w hK, run_findKey h hK, hm, Option.map_some, hg2, Instr.keyThatStays, MKey.bits, if_true, hset, Sem.run_pure]
      · unfold MapR mput
        rw [hm]
        simp only [Array.toList_modify]
        apply List.ext_getElem?
        intro j
        rw [List.getElem?_map, List.getElem?_map, List.getElem?_modify, List.getElem?_set]
        have hj : (es.toList.map fun e => (e.key, e.val))[j]? = (l.map fun p => (MV.mv p.1, MV.mv p.2))[j]? := by rw [show es.toList.map _ = _ from h]
        rw [List.getElem?_map, List.getElem?_map] at hj
        by_cases e : i = j
        · subst e
          simp [hi', hi]
        · simp only [if_neg e]
          simpa using hj)
end

/-! ### Fields of struct values -/
section
variable {x : Cx} {ops : Array Oper} {Q : Post} {rest : List Oper} {H : Hp} {M M' : List Res} {L L' : Env}
variable {d : Nat} {ty : TypeId} {pos : String} {aft : Array Edge} {g : Option (Nat × Bool)}

theorem W_fieldV {t : TypeId} {y : Operand} {f : Nat} {cs : List Value} {v : Value} {fs : Array Field} {fd : Field} (hg : gd ops L ⟨some d, .field t y f, ty, pos, aft, g⟩ = some true) (hN : Nat.blt d x.N = true)
    (hT : ∀ w, (underlying t).run x.P w = .ok (.struct fs) w) (hf : fs[f]? = some fd) (hA : ∀ w, (isAgg fd.type).run x.P w = .ok false w)
    (hy : ev L y = some (.agg cs.toArray)) (hv : cs[fd.offset]? = some v) (k : W x ops Q rest H M ((d, v) :: L)) :
    W x ops Q (⟨some d, .field t y f, ty, pos, aft, g⟩ :: rest) H M L :=
  W_pure rfl hg hN (fun a w hs ht => by simp [execOp, hs.ev hy, Instr.field, hT, hf, asAgg, part, hA, hv]) k
theorem W_fieldVA {t : TypeId} {y : Operand} {f n : Nat} {cs ds : List Value} {fs : Array Field} {fd : Field} (hg : gd ops L ⟨some d, .field t y f, ty, pos, aft, g⟩ = some true) (hN : Nat.blt d x.N = true)
    (hT : ∀ w, (underlying t).run x.P w = .ok (.struct fs) w) (hf : fs[f]? = some fd) (hA : ∀ w, (isAgg fd.type).run x.P w = .ok true w) (hn : ∀ w, (sizeOf fd.type).run x.P w = .ok n w)
    (hy : ev L y = some (.agg cs.toArray)) (hv : (cs.toArray.extract fd.offset (fd.offset + n)) = ds.toArray) (k : W x ops Q rest H M ((d, .agg ds.toArray) :: L)) :
    W x ops Q (⟨some d, .field t y f, ty, pos, aft, g⟩ :: rest) H M L :=
  W_pure rfl hg hN (fun a w hs ht => by
    simp only [execOp, hs.ev hy, Instr.field, Sem.run_bind, hT, Result.andThen_ok, hf, asAgg, part, hA, if_true, hn, Sem.run_pure]
    simp only [hv]) k
/-- An element of a small array's value. -/
theorem W_indexV {t e : TypeId} {y z : Operand} {n sz : Nat} {cs : List Value} {v : Value} {kk : IntKind} {i : Int} (hg : gd ops L ⟨some d, .index t y z, ty, pos, aft, g⟩ = some true) (hN : Nat.blt d x.N = true)
    (hT : ∀ w, (underlying t).run x.P w = .ok (.array n e) w) (hA : ∀ w, (isAgg e).run x.P w = .ok false w) (hn : ∀ w, (sizeOf e).run x.P w = .ok sz w)
    (hy : ev L y = some (.agg cs.toArray)) (hz : ev L z = some (.int kk i)) (h0 : 0 ≤ i) (h1 : i.toNat < n) (hv : cs[i.toNat * sz]? = some v) (k : W x ops Q rest H M ((d, v) :: L)) :
    W x ops Q (⟨some d, .index t y z, ty, pos, aft, g⟩ :: rest) H M L :=
  W_pure rfl hg hN (fun a w hs ht => by
    have h1' : i < (n : Int) := by omega
    simp [execOp, hs.ev hy, hs.ev hz, Instr.index, asIntOf, hT, h0, h1', hn, part, hA, hv]) k

/-! ### Arrays in memory -/
/-- An array is boxed: a row. -/
theorem W_boxArr {α : Type} [Rep α] {T : TypeId} {y : Operand} {cs : List Value} {l : List α} {n : Nat} (hg : gd ops L ⟨some d, .box T y, ty, pos, aft, g⟩ = some true) (hN : Nat.blt d x.N = true)
    (hy : ev L y = some (.agg cs.toArray)) (hr : RdC H cs l) (hl : l.length = n) (hm : Nat.ble n 16777216 = true)
    (k : ∀ v, Rw H v cs l → W x ops Q rest H (.row v T (Rep.sz α) l.length cs :: M) ((d, .pointer (some (Value.base v))) :: L)) :
    W x ops Q (⟨some d, .box T y, ty, pos, aft, g⟩ :: rest) H M L :=
  W_run rfl hg hN (fun c w hs ht => ⟨.pointer (some ⟨w.heap.size, 0, none⟩), w.alloc (.cells cs.toArray T), by
    simp only [execOp, hs.ev hy, Instr.box, newVar, newRow, newObj, Sem.run_bind, Sem.run_pure, Sem.run, Result.andThen_ok, Value.cells, World.alloc], _, _,
    St.newRow (e := T) ht hr (by have : n ≤ 16777216 := by simpa [Nat.ble_eq] using hm
                                 unfold maxLen; omega), k (.slice (some ⟨w.heap.size, 0, none⟩) l.length l.length) ⟨hr, _, _, _, rfl⟩⟩)
theorem W_allocArr {α : Type} [Rep α] {T : TypeId} {z : Value} {cs : List Value} {l : List α} {n : Nat} (hg : gd ops L ⟨some d, .alloc T, ty, pos, aft, g⟩ = some true) (hN : Nat.blt d x.N = true)
    (hz : ∀ w, (zeroValue T).run x.P w = .ok z w) (hcs : z.cells = cs.toArray) (hr : RdC H cs l) (hl : l.length = n) (hm : Nat.ble n 16777216 = true)
    (k : ∀ v, Rw H v cs l → W x ops Q rest H (.row v T (Rep.sz α) l.length cs :: M) ((d, .pointer (some (Value.base v))) :: L)) :
    W x ops Q (⟨some d, .alloc T, ty, pos, aft, g⟩ :: rest) H M L :=
  W_run rfl hg hN (fun c w hs ht => ⟨.pointer (some ⟨w.heap.size, 0, none⟩), w.alloc (.cells cs.toArray T), by
    simp only [execOp, Instr.alloc, hz, newVar, newRow, newObj, Sem.run_bind, Sem.run_pure, Sem.run, Result.andThen_ok, hcs, World.alloc], _, _,
    St.newRow (e := T) ht hr (by have : n ≤ 16777216 := by simpa [Nat.ble_eq] using hm
                                 unfold maxLen; omega), k (.slice (some ⟨w.heap.size, 0, none⟩) l.length l.length) ⟨hr, _, _, _, rfl⟩⟩)
theorem W_indexArr {v : Value} {T : TypeId} {sz n m : Nat} {xs : List Value} {t e : TypeId} {y z : Operand} {kk : IntKind} {i : Int} (hm : Res.row v T sz n xs ∈ M)
    (hg : gd ops L ⟨some d, .indexAddr t y z, ty, pos, aft, g⟩ = some true) (hN : Nat.blt d x.N = true)
    (hT : ∀ w, (underlying t).run x.P w = .ok (.array m e) w) (hs : ∀ w, (sizeOf e).run x.P w = .ok sz w) (hnm : n = m)
    (hy : ev L y = some (.pointer (some (Value.base v)))) (hz : ev L z = some (.int kk i)) (h0 : 0 ≤ i) (h1 : i.toNat < n)
    (k : W x ops Q rest H M ((d, .pointer (some ((Value.base v).add (i.toNat * sz)))) :: L)) :
    W x ops Q (⟨some d, .indexAddr t y z, ty, pos, aft, g⟩ :: rest) H M L :=
  W_pure rfl hg hN (fun c w hsl ht => by
    subst hnm
    have h1' : i < (n : Int) := by omega
    simp [execOp, hsl.ev hy, hsl.ev hz, Instr.indexAt, asIntOf, hT, hs, h0, h1', Instr.sureAddr]) k
/-- A whole array is loaded. -/
theorem W_loadArr {v : Value} {T t : TypeId} {sz n m : Nat} {xs : List Value} {y : Operand} (hm : Res.row v T sz n xs ∈ M) (hg : gd ops L ⟨some d, .load t y, ty, pos, aft, g⟩ = some true) (hN : Nat.blt d x.N = true)
    (hT : ∀ w, (isAgg t).run x.P w = .ok true w) (hs : ∀ w, (sizeOf t).run x.P w = .ok m w) (hl : xs.length = m) (hy : ev L y = some (.pointer (some (Value.base v))))
    (k : W x ops Q rest H M ((d, .agg xs.toArray) :: L)) : W x ops Q (⟨some d, .load t y, ty, pos, aft, g⟩ :: rest) H M L :=
  W_loadAgg hg hN hT hs hy (by
    intro j c hj
    exact row_at hm hj) hl k

theorem RdC.ints {H : Hp} : ∀ (l : List Int), RdC H (l.map (Value.int .i64)) l
  | [] => rfl
  | n :: l => ⟨[.int .i64 n], _, rfl, rfl, RdC.ints l⟩
theorem RdC.bools {H : Hp} : ∀ (l : List Bool), RdC H (l.map Value.bool) l
  | [] => rfl
  | n :: l => ⟨[.bool n], _, rfl, rfl, RdC.bools l⟩

/-! ### Equality of structs -/
/-- The parts of two values at a field. -/
def FldEq (P : Program) (d : Nat) (xs ys : Array Value) (T : TypeId) (o : Nat) (b : Bool) : Prop :=
  ∀ w, ∃ u v, (part T xs o).run P w = .ok u w ∧ (part T ys o).run P w = .ok v w ∧ (Op.equalIn d T u v).run P w = .ok b w
def EqF (P : Program) (d : Nat) (xs ys : Array Value) : List Field → List Bool → Prop
  | [], [] => True
  | f :: fs, b :: bs => f.name ≠ "_" ∧ FldEq P d xs ys f.type f.offset b ∧ EqF P d xs ys fs bs
  | _, _ => False
theorem run_equal_struct {P : Program} {t : TypeId} {fs : Array Field} {xs ys : Array Value} {w : World} {d : Nat} {bs : List Bool} (hT : ∀ w, (underlying t).run P w = .ok (.struct fs) w) (hs : P.stoodInHeld t = false)
    (h : EqF P d xs ys fs.toList bs) : (Op.equalIn (d + 1) t (.agg xs) (.agg ys)).run P w = .ok (bs.all id) w := by
  unfold Op.equalIn
  simp only [Sem.run_bind, hT, Result.andThen_ok, program, Sem.run, hs, Bool.false_eq_true, if_false]
  rw [← Array.forIn_toList]
  revert h
  generalize fs.toList = l
  intro h
  induction l generalizing bs with
  | nil =>
    cases bs with
    | nil => simp
    | cons b bs => exact h.elim
  | cons f l ih =>
    cases bs with
    | nil => exact h.elim
    | cons b bs =>
      obtain ⟨h1, h2, h3⟩ := h
      obtain ⟨u, v, q1, q2, q3⟩ := h2 w
      rw [List.forIn_cons]
      simp only [if_pos h1, Sem.run_bind, q1, q2, q3, Result.andThen_ok]
      cases b with
      | false => simp
      | true =>
        simp only [Bool.not_true, Bool.false_eq_true, if_false, Sem.run_pure, Result.andThen_ok]
        have := ih h3
        simpa using this
def EqA (P : Program) (d : Nat) (xs ys : Array Value) (T n : Nat) : Nat → List Bool → Prop
  | _, [] => True
  | i, b :: bs => FldEq P d xs ys T (i * n) b ∧ EqA P d xs ys T n (i + 1) bs
theorem run_equal_array {P : Program} {t e len n : Nat} {xs ys : Array Value} {w : World} {d : Nat} {bs : List Bool} (hT : ∀ w, (underlying t).run P w = .ok (.array len e) w) (hn : ∀ w, (sizeOf e).run P w = .ok n w)
    (hl : bs.length = len) (h : EqA P d xs ys e n 0 bs) : (Op.equalIn (d + 1) t (.agg xs) (.agg ys)).run P w = .ok (bs.all id) w := by
  subst hl
  unfold Op.equalIn
  simp only [Sem.run_bind, hT, Result.andThen_ok, hn]
  rw [Std.Legacy.Range.forIn_eq_forIn_range']
  simp only [Std.Legacy.Range.size, Nat.sub_zero, Nat.add_sub_cancel, Nat.div_one]
  clear hT
  revert h
  generalize (0 : Nat) = i
  intro h
  induction bs generalizing i with
  | nil => simp
  | cons b bs ih =>
    obtain ⟨h2, h3⟩ := h
    obtain ⟨u, v, q1, q2, q3⟩ := h2 w
    rw [List.length_cons, List.range'_succ, List.forIn_cons]
    simp only [Sem.run_bind, q1, q2, q3, Result.andThen_ok]
    cases b with
    | false => simp
    | true =>
      simp only [Bool.not_true, Bool.false_eq_true, if_false, Sem.run_pure, Result.andThen_ok]
      have := ih (i + 1) h3
      simpa using this
theorem fldEq_int {P : Program} {d T o : Nat} {xs ys : Array Value} {k : IntKind} {m n : Int} (hA : ∀ w, (isAgg T).run P w = .ok false w) (hT : ∀ w, (underlying T).run P w = .ok (.int k) w) (hx : xs[o]? = some (.int k m)) (hy : ys[o]? = some (.int k n)) :
    FldEq P (d + 1) xs ys T o (decide (m = n)) := fun w => by
  refine ⟨_, _, by simp only [part, Sem.run_bind, hA, Result.andThen_ok, Bool.false_eq_true, if_false, hx, Sem.run_pure]; rfl, by simp only [part, Sem.run_bind, hA, Result.andThen_ok, Bool.false_eq_true, if_false, hy, Sem.run_pure]; rfl, ?_⟩
  unfold Op.equalIn
  simp [hT, int_beq]
theorem fldEq_bool {P : Program} {d T o : Nat} {xs ys : Array Value} {m n : Bool} (hA : ∀ w, (isAgg T).run P w = .ok false w) (hT : ∀ w, (underlying T).run P w = .ok .bool w) (hx : xs[o]? = some (.bool m)) (hy : ys[o]? = some (.bool n)) :
    FldEq P (d + 1) xs ys T o (decide (m = n)) := fun w => by
  refine ⟨_, _, by simp only [part, Sem.run_bind, hA, Result.andThen_ok, Bool.false_eq_true, if_false, hx, Sem.run_pure]; rfl, by simp only [part, Sem.run_bind, hA, Result.andThen_ok, Bool.false_eq_true, if_false, hy, Sem.run_pure]; rfl, ?_⟩
  have e : (m == n) = decide (m = n) := by cases m <;> cases n <;> rfl
  unfold Op.equalIn
  simp [hT, e]
theorem fldEq_str {P : Program} {d T o : Nat} {xs ys : Array Value} {m n : ByteArray} (hA : ∀ w, (isAgg T).run P w = .ok false w) (hT : ∀ w, (underlying T).run P w = .ok .string w) (hx : xs[o]? = some (.string m)) (hy : ys[o]? = some (.string n)) :
    FldEq P (d + 1) xs ys T o (decide (m = n)) := fun w => by
  refine ⟨_, _, by simp only [part, Sem.run_bind, hA, Result.andThen_ok, Bool.false_eq_true, if_false, hx, Sem.run_pure]; rfl, by simp only [part, Sem.run_bind, hA, Result.andThen_ok, Bool.false_eq_true, if_false, hy, Sem.run_pure]; rfl, ?_⟩
  unfold Op.equalIn
  simp [hT, ba_beq2]
/-- A part that is a struct itself. -/
theorem fldEq_agg {P : Program} {d T o n : Nat} {xs ys us vs : Array Value} {b : Bool} (hA : ∀ w, (isAgg T).run P w = .ok true w) (hn : ∀ w, (sizeOf T).run P w = .ok n w) (hx : xs.extract o (o + n) = us) (hy : ys.extract o (o + n) = vs)
    (h : ∀ w, (Op.equalIn d T (.agg us) (.agg vs)).run P w = .ok b w) : FldEq P d xs ys T o b := fun w => by
  refine ⟨.agg us, .agg vs, ?_, ?_, h w⟩
  · simp only [part, Sem.run_bind, hA, Result.andThen_ok, if_true, hn, hx, Sem.run_pure]
  · simp only [part, Sem.run_bind, hA, Result.andThen_ok, if_true, hn, hy, Sem.run_pure]
theorem W_eqAgg {t u : TypeId} {y z : Operand} {xs ys : List Value} {b : Bool} (hg : gd ops L ⟨some d, .binOp .eql t y z u, ty, pos, aft, g⟩ = some true) (hN : Nat.blt d x.N = true)
    (hE : x.P.eqGuardType x.P.depth t = false) (hy : ev L y = some (.agg xs.toArray)) (hz : ev L z = some (.agg ys.toArray)) (h : ∀ w, (Op.equalIn 10000 t (.agg xs.toArray) (.agg ys.toArray)).run x.P w = .ok b w)
    (k : W x ops Q rest H M ((d, .bool b) :: L)) : W x ops Q (⟨some d, .binOp .eql t y z u, ty, pos, aft, g⟩ :: rest) H M L :=
  W_pure rfl hg hN (fun c w hs _ => by
    have h' : (Op.equal t (.agg xs.toArray) (.agg ys.toArray)).run x.P w = .ok b w := h w
    have hp : ∀ w, (program : Sem Program).run x.P w = .ok x.P w := fun _ => rfl
    simp only [execOp, hs.ev hy, hs.ev hz, Sem.run_bind, eqGuard, binOp]
    simp [h', hp, hE]) k
theorem W_neAgg {t u : TypeId} {y z : Operand} {xs ys : List Value} {b : Bool} (hg : gd ops L ⟨some d, .binOp .neq t y z u, ty, pos, aft, g⟩ = some true) (hN : Nat.blt d x.N = true)
    (hE : x.P.eqGuardType x.P.depth t = false) (hy : ev L y = some (.agg xs.toArray)) (hz : ev L z = some (.agg ys.toArray)) (h : ∀ w, (Op.equalIn 10000 t (.agg xs.toArray) (.agg ys.toArray)).run x.P w = .ok b w)
    (k : W x ops Q rest H M ((d, .bool (!b)) :: L)) : W x ops Q (⟨some d, .binOp .neq t y z u, ty, pos, aft, g⟩ :: rest) H M L :=
  W_pure rfl hg hN (fun c w hs _ => by
    have h' : (Op.equal t (.agg xs.toArray) (.agg ys.toArray)).run x.P w = .ok b w := h w
    have hp : ∀ w, (program : Sem Program).run x.P w = .ok x.P w := fun _ => rfl
    simp only [execOp, hs.ev hy, hs.ev hz, Sem.run_bind, eqGuard, binOp]
    simp [h', hp, hE]) k

/-! ### Comparison of pointers, booleans, strings -/
def ltS (s t : ByteArray) : Bool := Op.bytesLess s.toList t.toList
theorem W_ptrNil {t e u : TypeId} {y z : Operand} {a : Option Addr} (hg : gd ops L ⟨some d, .binOp .eql t y z u, ty, pos, aft, g⟩ = some true) (hN : Nat.blt d x.N = true)
    (hT : ∀ w, (underlying t).run x.P w = .ok (.pointer e) w) (hy : ev L y = some (.pointer a)) (hz : ev L z = some (.pointer none))
    (k : W x ops Q rest H M ((d, .bool a.isNone) :: L)) : W x ops Q (⟨some d, .binOp .eql t y z u, ty, pos, aft, g⟩ :: rest) H M L :=
  W_pure rfl hg hN (fun c w hs _ => by
    have key : ∀ k, (Op.equalIn (k + 1) t (.pointer a) (.pointer none)).run x.P w = .ok a.isNone w := fun k => by
      unfold Op.equalIn
      cases a <;> simp [hT]
    have h' : (Op.equal t (.pointer a) (.pointer none)).run x.P w = .ok a.isNone w := key 9999
    simp only [execOp, hs.ev hy, hs.ev hz, Sem.run_bind, eqGuard, binOp]
    simp [h']) k
theorem W_ptrNeNil {t e u : TypeId} {y z : Operand} {a : Option Addr} (hg : gd ops L ⟨some d, .binOp .neq t y z u, ty, pos, aft, g⟩ = some true) (hN : Nat.blt d x.N = true)
    (hT : ∀ w, (underlying t).run x.P w = .ok (.pointer e) w) (hy : ev L y = some (.pointer a)) (hz : ev L z = some (.pointer none))
    (k : W x ops Q rest H M ((d, .bool (!a.isNone)) :: L)) : W x ops Q (⟨some d, .binOp .neq t y z u, ty, pos, aft, g⟩ :: rest) H M L :=
  W_pure rfl hg hN (fun c w hs _ => by
    have key : ∀ k, (Op.equalIn (k + 1) t (.pointer a) (.pointer none)).run x.P w = .ok a.isNone w := fun k => by
      unfold Op.equalIn
      cases a <;> simp [hT]
    have h' : (Op.equal t (.pointer a) (.pointer none)).run x.P w = .ok a.isNone w := key 9999
    simp only [execOp, hs.ev hy, hs.ev hz, Sem.run_bind, eqGuard, binOp]
    simp [h']) k
theorem W_eqBool {t u : TypeId} {y z : Operand} {a b : Bool} (hg : gd ops L ⟨some d, .binOp .eql t y z u, ty, pos, aft, g⟩ = some true) (hN : Nat.blt d x.N = true)
    (hT : ∀ w, (underlying t).run x.P w = .ok .bool w) (hy : ev L y = some (.bool a)) (hz : ev L z = some (.bool b))
    (k : W x ops Q rest H M ((d, .bool (decide (a = b))) :: L)) : W x ops Q (⟨some d, .binOp .eql t y z u, ty, pos, aft, g⟩ :: rest) H M L :=
  W_pure rfl hg hN (fun c w hs _ => by
    have e : (a == b) = decide (a = b) := by cases a <;> cases b <;> rfl
    have key : ∀ k, (Op.equalIn (k + 1) t (.bool a) (.bool b)).run x.P w = .ok (decide (a = b)) w := fun k => by
      unfold Op.equalIn
      simp [hT, e]
    have h' : (Op.equal t (.bool a) (.bool b)).run x.P w = .ok (decide (a = b)) w := key 9999
    simp only [execOp, hs.ev hy, hs.ev hz, Sem.run_bind, eqGuard, binOp]
    simp [h']) k
theorem W_neBool {t u : TypeId} {y z : Operand} {a b : Bool} (hg : gd ops L ⟨some d, .binOp .neq t y z u, ty, pos, aft, g⟩ = some true) (hN : Nat.blt d x.N = true)
    (hT : ∀ w, (underlying t).run x.P w = .ok .bool w) (hy : ev L y = some (.bool a)) (hz : ev L z = some (.bool b))
    (k : W x ops Q rest H M ((d, .bool (!decide (a = b))) :: L)) : W x ops Q (⟨some d, .binOp .neq t y z u, ty, pos, aft, g⟩ :: rest) H M L :=
  W_pure rfl hg hN (fun c w hs _ => by
    have e : (a == b) = decide (a = b) := by cases a <;> cases b <;> rfl
    have key : ∀ k, (Op.equalIn (k + 1) t (.bool a) (.bool b)).run x.P w = .ok (decide (a = b)) w := fun k => by
      unfold Op.equalIn
      simp [hT, e]
    have h' : (Op.equal t (.bool a) (.bool b)).run x.P w = .ok (decide (a = b)) w := key 9999
    simp only [execOp, hs.ev hy, hs.ev hz, Sem.run_bind, eqGuard, binOp]
    simp [h']) k
theorem blt_total : ∀ (x y : List UInt8), (!(Op.bytesLess x y || x == y)) = Op.bytesLess y x
  | [], [] => rfl
  | [], _ :: _ => rfl
  | _ :: _, [] => rfl
  | a :: x, b :: y => by
    have ih := blt_total x y
    simp only [Op.bytesLess, List.cons_beq_cons]
    rcases Nat.lt_trichotomy a.toNat b.toNat with h | h | h
    · have h1 : a < b := UInt8.lt_iff_toNat_lt.2 h
      have h2 : ¬ b < a := fun e => by have := UInt8.lt_iff_toNat_lt.1 e; omega
      have h3 : (b == a) = false := by simp; intro e; subst e; omega
      simp [h1, h2, h3]
    · have h0 : a = b := UInt8.toNat_inj.1 h
      subst h0
      simpa using ih
    · have h1 : b < a := UInt8.lt_iff_toNat_lt.2 h
      have h2 : ¬ a < b := fun e => by have := UInt8.lt_iff_toNat_lt.1 e; omega
      have h3 : (a == b) = false := by simp; intro e; subst e; omega
      simp [h1, h2, h3]
theorem W_cmpS {op : BinOp} {t u : TypeId} {y z : Operand} {a b : ByteArray} {v : Bool} (hg : gd ops L ⟨some d, .binOp op t y z u, ty, pos, aft, g⟩ = some true) (hN : Nat.blt d x.N = true)
    (hy : ev L y = some (.string a)) (hz : ev L z = some (.string b))
    (hv : op = .lss ∧ v = ltS a b ∨ op = .gtr ∧ v = ltS b a ∨ op = .leq ∧ v = (!(ltS b a)) ∨ op = .geq ∧ v = (!(ltS a b)))
    (k : W x ops Q rest H M ((d, .bool v) :: L)) : W x ops Q (⟨some d, .binOp op t y z u, ty, pos, aft, g⟩ :: rest) H M L :=
  W_pure rfl hg hN (fun c w hs _ => by
    rcases hv with ⟨rfl, rfl⟩ | ⟨rfl, rfl⟩ | ⟨rfl, rfl⟩ | ⟨rfl, rfl⟩
    · simp [execOp, hs.ev hy, hs.ev hz, eqGuard, binOp, Op.stringOp, ltS]
    · simp only [execOp, hs.ev hy, hs.ev hz, eqGuard, binOp, Op.stringOp, ltS, ← blt_total a.toList b.toList]; simp
    · simp only [execOp, hs.ev hy, hs.ev hz, eqGuard, binOp, Op.stringOp, ltS, ← blt_total a.toList b.toList]; simp
    · simp [execOp, hs.ev hy, hs.ev hz, eqGuard, binOp, Op.stringOp, ltS]) k
end
end Go.Sim
