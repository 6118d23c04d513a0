/-
  Package-level tables; memory that a library call leaves behind; errors.
-/
import Derived.Test.YtlcjellgoicajaaDoorSimX
import Derived.Lib.LaidTab
import Derived.Lib.AppendIntMem
import Derived.Lib.ItoaNum
import Derived.Lib.AtoiAll
import Derived.Lib.SmallJoins
import Derived.Laws.BytesString
import Derived.Laws.IdiomStrings
namespace Go.Sim
open Go Go.RowKit
set_option linter.unusedVariables false
set_option linter.unusedSimpArgs false
set_option linter.unusedSectionVars false
set_option linter.unnecessarySimpa false
section
variable {B : Nat} {w0 w w' : World} {H : Hp} {M : List Res}
theorem St.var? (ht : St B w0 H M w) {P : Program} {n : String} {g : Nat} (hg : P.globalNamed n = some g) (hlt : g < B) : w.var? P n = w0.var? P n := by
  unfold World.var?
  rw [hg]
  simp only [Option.bind_some]
  rw [ht.below.block g hlt]
theorem St.under (ht : St B w0 H M w) (hb : Below w.heap.size w w') : St B w0 H M w' :=
  ht.grow ⟨hb.os, hb.tape, hb.output, hb.size, fun i hi _ => hb.block i hi⟩
theorem St.tab (ht : St B w0 H M w) {P : Program} {n : String} {g : Nat} {k : IntKind} {zs : List Int} (hT : Lib.TabIs P w0 n k zs) (hg : P.globalNamed n = some g) (hlt : g < B) : Lib.TabIs P w n k zs :=
  (ht.var? hg hlt).trans hT
end
theorem tab_at {x : Cx} {P : Program} {H : Hp} {M : List Res} {n : String} {g i : Nat} {k : IntKind} {zs : List Int} {z : Int} (hT : Lib.TabIs P x.w0 n k zs) (hg : P.globalNamed n = some g) (hlt : g < x.B) (hz : zs[i]? = some z) :
    CellAt x H M (Addr.add ⟨g, 0, none⟩ (i * 1)) (.int k z) := fun w ht => by
  have h := World.var?_cell hg (ht.tab hT hg hlt) i
  rw [Nat.mul_one, Addr.add_lit, Nat.zero_add, h]
  simp [hz]

theorem var_lt {P : Program} {W : World} {n : String} {g : Nat} {cs : Array Value} (hg : P.globalNamed n = some g) (h : W.var? P n = some cs) : g < W.heap.size := by
  unfold World.var? at h
  rw [hg] at h
  simp only [Option.bind_some] at h
  split at h
  · rename_i o _ _ ho
    exact (Array.getElem?_eq_some_iff.1 ho).1
  · cases h
/-- An error, or nil. -/
def IsErr (v : Value) (b : Bool) : Prop := (b = false ∧ v = .nilIface) ∨ (b = true ∧ ∃ T p, v = .iface T p)
section
variable {x : Cx} {ops : Array Oper} {Q : Post} {rest : List Oper} {H : Hp} {M : List Res} {L : Env}
variable {d : Nat} {ty : TypeId} {pos : String} {aft : Array Edge} {g : Option (Nat × Bool)}
theorem W_errNe {t u : TypeId} {y : Operand} {v : Value} {b : Bool} {ms : Array (String × TypeId)} (hT : ∀ w, (underlying t).run x.P w = .ok (.interface ms) w) (he : IsErr v b) (hg : gd ops L ⟨some d, .binOp .neq t y (.const .nilIface) u, ty, pos, aft, g⟩ = some true) (hN : Nat.blt d x.N = true)
    (hy : ev L y = some v) (k : W x ops Q rest H M ((d, .bool b) :: L)) : W x ops Q (⟨some d, .binOp .neq t y (.const .nilIface) u, ty, pos, aft, g⟩ :: rest) H M L :=
  W_pure rfl hg hN (fun c w hs _ => by
    have hz : c.eval (.const .nilIface) = .nilIface := rfl
    rcases he with ⟨rfl, rfl⟩ | ⟨rfl, T, p, rfl⟩
    · have key : ∀ k, (Op.equalIn (k + 1) t .nilIface .nilIface).run x.P w = .ok true w := fun k => by
        unfold Op.equalIn
        simp [hT]
      have h' : (Op.equal t .nilIface .nilIface).run x.P w = .ok true w := key 9999
      simp only [execOp, hs.ev hy, hz, Sem.run_bind, eqGuard, binOp]
      simp [h']
    · have key : ∀ k, (Op.equalIn (k + 1) t (.iface T p) .nilIface).run x.P w = .ok false w := fun k => by
        unfold Op.equalIn
        simp [hT]
      have h' : (Op.equal t (.iface T p) .nilIface).run x.P w = .ok false w := key 9999
      simp only [execOp, hs.ev hy, hz, Sem.run_bind, eqGuard, binOp]
      simp [h']) k

/-- A part of an array, from some index on; the array is only read from here on. -/
theorem W_sliceArr {α : Type} [Rep α] {t e : TypeId} {y z : Operand} {v : Value} {xs : List α} {n : Nat} {kk : IntKind} {i : Int} (hg : gd ops L ⟨some d, .slice t y (some z) none none, ty, pos, aft, g⟩ = some true) (hN : Nat.blt d x.N = true)
    (hT : ∀ w, (underlying t).run x.P w = .ok (.array n e) w) (hs : ∀ w, (sizeOf e).run x.P w = .ok (Rep.sz α) w)
    (hy : ev L y = some (.pointer (some (Value.base v)))) (hz : ev L z = some (.int kk i)) (hR : RdS H v xs) (hx : xs.length = n) (hn : Nat.blt 0 n = true) (h0 : 0 ≤ i) (h1 : i ≤ (n : Int))
    (k : ∀ v', RdS H v' (xs.drop i.toNat) → W x ops Q rest H M ((d, v') :: L)) :
    W x ops Q (⟨some d, .slice t y (some z) none none, ty, pos, aft, g⟩ :: rest) H M L := by
  have hn' : 0 < n := by simpa [Nat.blt_eq] using hn
  rcases hR with ⟨_, rfl⟩ | ⟨b, off, cap, arr, T, fz, rfl, h2, h3, h4, h5, h6⟩
  · simp at hx; omega
  refine W_pure (v := .slice (some (if n = i.toNat then ⟨b, off, none⟩ else (⟨b, off, none⟩ : Addr).add (i.toNat * Rep.sz α))) (n - i.toNat) (n - i.toNat)) rfl hg hN (fun c w hsl ht => ?_) (k _ ?_)
  · have hb : (Instr.sliceBounds false n n (some (.int kk i)) none none).run x.P w = .ok (i.toNat, n, n) w := by
      simp only [Instr.sliceBounds, Sem.run_bind, Sem.run_pure, Result.andThen_ok, run_sliceBound h0 h1]
    simp only [execOp, hsl.ev hy, hsl.ev hz, Option.map_some, Option.map_none, Sem.run_bind, Instr.sliceAt, hT, Result.andThen_ok, Instr.sureAddr, Value.base, Sem.run_pure, hb, hs]
  · by_cases hml : n = i.toNat
    · rw [if_pos hml, show n - i.toNat = 0 by omega]
      exact .inl ⟨⟨_, rfl⟩, by rw [List.drop_eq_nil_iff]; omega⟩
    · rw [if_neg hml, Addr.add_lit]
      have hle : i.toNat ≤ n := by omega
      have hlen : (xs.drop i.toNat).length = n - i.toNat := by rw [List.length_drop, hx]
      have hmul : i.toNat * Rep.sz α + (n - i.toNat) * Rep.sz α ≤ cap * Rep.sz α := by
        rw [← Nat.add_mul]; exact Nat.mul_le_mul_right _ (by omega)
      refine .inr ⟨b, off + i.toNat * Rep.sz α, n - i.toNat, arr, T, fz, by rw [hlen], by omega, by omega, h4, by omega, fun j el hel => ?_⟩
      rw [List.getElem?_drop] at hel
      obtain ⟨cs, q1, q2⟩ := h6 (i.toNat + j) el hel
      refine ⟨cs, q1, fun q c hc => ?_⟩
      rw [show off + i.toNat * Rep.sz α + j * Rep.sz α + q = off + (i.toNat + j) * Rep.sz α + q by rw [Nat.add_mul]; omega]
      exact q2 q c hc

/-- The text of some bytes. -/
def bstr (l : List U8) : ByteArray := ⟨(l.map fun y => UInt8.ofNat y.n.toNat).toArray⟩
theorem foldl_bstr : ∀ (ns : List Int) (r : ByteArray), ns.foldl (fun r n => r.push (UInt8.ofNat n.toNat)) r = ⟨r.data ++ (ns.map fun n => UInt8.ofNat n.toNat).toArray⟩
  | [], r => by simp
  | n :: ns, r => by
    rw [List.foldl_cons, foldl_bstr ns]
    simp [ByteArray.push]
theorem RdS.bytes {H : Hp} {v : Value} {l : List U8} (hR : RdS H v l) {B : Nat} {w0 w : World} {M : List Res} {P : Program} (ht : St B w0 H M w) : (Conv.bytesToString v).run P w = .ok (.string (bstr l)) w := by
  rcases hR with ⟨⟨a, rfl⟩, rfl⟩ | ⟨b, off, cap, arr, T, fz, rfl, h2, h3, h4, h5, h6⟩
  · cases a with
    | none => rfl
    | some a =>
      rw [run_bytesToString w a 0 0 [] (by simp [loadCells, loadCellsFrom, Sem.run_pure])]
      rfl
  · have hl := run_loadCells_list (P := P) w ⟨b, off, none⟩ ((l.map fun y => y.n).map (Value.int .u8)) (fun j v hj => by
      rw [List.getElem?_map, List.getElem?_map, Option.map_map, Option.map_eq_some_iff] at hj
      obtain ⟨y, hy, rfl⟩ := hj
      obtain ⟨cs, q1, q2⟩ := h6 j y hy
      have q1 : cs = [.int .u8 y.n] := q1
      have := q2 0 (.int .u8 y.n) (by rw [q1]; rfl)
      have hb := ht.hin b _ h4
      rw [Addr.add_lit]
      simp only [World.cell?, hb]
      simpa [Rep.sz] using this)
    simp only [List.length_map] at hl
    rw [run_bytesToString w ⟨b, off, none⟩ l.length cap _ hl, foldl_bstr]
    have he0 : ByteArray.empty.data = #[] := rfl
    rw [he0]
    simp [bstr, List.map_map, Function.comp_def]
theorem W_convToStr {src dst e : TypeId} {y : Operand} {v : Value} {l : List U8} (hg : gd ops L ⟨some d, .convert src dst y, ty, pos, aft, g⟩ = some true) (hN : Nat.blt d x.N = true)
    (hs : x.P.underlying src = some (.slice e)) (he : x.P.underlying e = some (.int .u8)) (hd : x.P.underlying dst = some .string)
    (hy : ev L y = some v) (hR : RdS H v l) (k : W x ops Q rest H M ((d, .string (bstr l)) :: L)) :
    W x ops Q (⟨some d, .convert src dst y, ty, pos, aft, g⟩ :: rest) H M L :=
  W_pure rfl hg hN (fun c w hsl ht => by
    have hv : ∃ a n m, v = .slice a n m := by
      rcases hR with ⟨⟨a, rfl⟩, _⟩ | ⟨b, off, cap, arr, T, fz, rfl, _⟩
      · exact ⟨_, _, _, rfl⟩
      · exact ⟨_, _, _, rfl⟩
    have hb := hR.bytes (P := x.P) ht
    obtain ⟨a, n, m, rfl⟩ := hv
    simp only [execOp, hsl.ev hy, Sem.run_bind, run_convert_bytes_string w src dst e a n m hs he hd, hb, Result.andThen_ok, Sem.run_pure]) k
/-- Bytes, all zero. -/
theorem RdC.zeros (H : Hp) (n : Nat) : RdC H ((List.replicate n (0 : Int)).map (Value.int .u8)) (List.replicate n (⟨0⟩ : U8)) := by
  induction n with
  | zero => exact RdC.nil
  | succ n ih =>
    rw [List.replicate_succ, List.replicate_succ, List.map_cons]
    exact ⟨[.int .u8 0], _, rfl, rfl, ih⟩
end
/-- What strconv.Itoa and strconv.Atoi answer. -/
def itoaB (n : Int) : ByteArray := ⟨(Lib.itoa n).toArray⟩
def atoiB (s : ByteArray) : Int × Bool := match Lib.atoiAll s.data.toList with
  | .ok v => (v, false)
  | .syntax => (0, true)
  | .range => (Lib.atoiSat s.data.toList, true)
end Go.Sim
