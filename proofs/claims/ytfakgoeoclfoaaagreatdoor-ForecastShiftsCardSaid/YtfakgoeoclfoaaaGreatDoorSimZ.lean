/-
  Package-level tables; memory that a library call leaves behind; errors.
-/
import Derived.Test.YtfakgoeoclfoaaaGreatDoorSimX
import Derived.Lib.LaidTab
import Derived.Lib.AppendIntMem
import Derived.Lib.ItoaNum
import Derived.Lib.AtoiAll
import Derived.Lib.SmallJoins
import Derived.Laws.BytesString
import Derived.Laws.IdiomStrings
namespace Go.Sim
open Go Go.RowKit
set_option linter.unusedVariables false
set_option linter.unusedSimpArgs false
set_option linter.unusedSectionVars false
set_option linter.unnecessarySimpa false
section
variable {B : Nat} {w0 w w' : World} {H : Hp} {M : List Res}
theorem St.var? (ht : St B w0 H M w) {P : Program} {n : String} {g : Nat} (hg : P.globalNamed n = some g) (hlt : g < B) : w.var? P n = w0.var? P n := by
  unfold World.var?
  rw [hg]
  simp only [Option.bind_some]
  rw [ht.below.block g hlt]
theorem St.under (ht : St B w0 H M w) (hb : Below w.heap.size w w') : St B w0 H M w' :=
  ht.grow ⟨hb.os, hb.tape, hb.output, hb.size, fun i hi _ => hb.block i hi⟩
theorem St.tab (ht : St B w0 H M w) {P : Program} {n : String} {g : Nat} {k : IntKind} {zs : List Int} (hT : Lib.TabIs P w0 n k zs) (hg : P.globalNamed n = some g) (hlt : g < B) : Lib.TabIs P w n k zs :=
  (ht.var? hg hlt).trans hT
end
theorem var_lt {P : Program} {W : World} {n : String} {g : Nat} {cs : Array Value} (hg : P.globalNamed n = some g) (h : W.var? P n = some cs) : g < W.heap.size := by
  unfold World.var? at h
  rw [hg] at h
  simp only [Option.bind_some] at h
  split at h
  · rename_i o _ _ ho
    exact (Array.getElem?_eq_some_iff.1 ho).1
  · cases h
/-- An error, or nil. -/
def IsErr (v : Value) (b : Bool) : Prop := (b = false ∧ v = .nilIface) ∨ (b = true ∧ ∃ T p, v = .iface T p)
section
variable {x : Cx} {ops : Array Oper} {Q : Post} {rest : List Oper} {H : Hp} {M : List Res} {L : Env}
variable {d : Nat} {ty : TypeId} {pos : String} {aft : Array Edge} {g : Option (Nat × Bool)}
theorem W_errNe {t u : TypeId} {y : Operand} {v : Value} {b : Bool} {ms : Array (String × TypeId)} (hT : ∀ w, (underlying t).run x.P w = .ok (.interface ms) w) (he : IsErr v b) (hg : gd ops L ⟨some d, .binOp .neq t y (.const .nilIface) u, ty, pos, aft, g⟩ = some true) (hN : Nat.blt d x.N = true)
    (hy : ev L y = some v) (k : W x ops Q rest H M ((d, .bool b) :: L)) : W x ops Q (⟨some d, .binOp .neq t y (.const .nilIface) u, ty, pos, aft, g⟩ :: rest) H M L :=
  W_pure rfl hg hN (fun c w hs _ => by
    have hz : c.eval (.const .nilIface) = .nilIface := rfl
    rcases he with ⟨rfl, rfl⟩ | ⟨rfl, T, p, rfl⟩
    · have key : ∀ k, (Op.equalIn (k + 1) t .nilIface .nilIface).run x.P w = .ok true w := fun k => by
        unfold Op.equalIn
        simp [hT]
      have h' : (Op.equal t .nilIface .nilIface).run x.P w = .ok true w := key 9999
      simp only [execOp, hs.ev hy, hz, Sem.run_bind, eqGuard, binOp]
      simp [h']
    · have key : ∀ k, (Op.equalIn (k + 1) t (.iface T p) .nilIface).run x.P w = .ok false w := fun k => by
        unfold Op.equalIn
        simp [hT]
      have h' : (Op.equal t (.iface T p) .nilIface).run x.P w = .ok false w := key 9999
      simp only [execOp, hs.ev hy, hz, Sem.run_bind, eqGuard, binOp]
      simp [h']) k

/-- The text of some bytes. -/
def bstr (l : List U8) : ByteArray := ⟨(l.map fun y => UInt8.ofNat y.n.toNat).toArray⟩
theorem foldl_bstr : ∀ (ns : List Int) (r : ByteArray), ns.foldl (fun r n => r.push (UInt8.ofNat n.toNat)) r = ⟨r.data ++ (ns.map fun n => UInt8.ofNat n.toNat).toArray⟩
  | [], r => by simp
  | n :: ns, r => by
    rw [List.foldl_cons, foldl_bstr ns]
    simp [ByteArray.push]
theorem RdS.bytes {H : Hp} {v : Value} {l : List U8} (hR : RdS H v l) {B : Nat} {w0 w : World} {M : List Res} {P : Program} (ht : St B w0 H M w) : (Conv.bytesToString v).run P w = .ok (.string (bstr l)) w := by
  rcases hR with ⟨⟨a, rfl⟩, rfl⟩ | ⟨b, off, cap, arr, T, fz, rfl, h2, h3, h4, h5, h6⟩
  · cases a with
    | none => rfl
    | some a =>
      rw [run_bytesToString w a 0 0 [] (by simp [loadCells, loadCellsFrom, Sem.run_pure])]
      rfl
  · have hl := run_loadCells_list (P := P) w ⟨b, off, none⟩ ((l.map fun y => y.n).map (Value.int .u8)) (fun j v hj => by
      rw [List.getElem?_map, List.getElem?_map, Option.map_map, Option.map_eq_some_iff] at hj
      obtain ⟨y, hy, rfl⟩ := hj
      obtain ⟨cs, q1, q2⟩ := h6 j y hy
      have q1 : cs = [.int .u8 y.n] := q1
      have := q2 0 (.int .u8 y.n) (by rw [q1]; rfl)
      have hb := ht.hin b _ h4
      rw [Addr.add_lit]
      simp only [World.cell?, hb]
      simpa [Rep.sz] using this)
    simp only [List.length_map] at hl
    rw [run_bytesToString w ⟨b, off, none⟩ l.length cap _ hl, foldl_bstr]
    have he0 : ByteArray.empty.data = #[] := rfl
    rw [he0]
    simp [bstr, List.map_map, Function.comp_def]
end
/-- What strconv.Itoa and strconv.Atoi answer. -/
def itoaB (n : Int) : ByteArray := ⟨(Lib.itoa n).toArray⟩
end Go.Sim
