/-
  One rule for each operation.
-/
import Derived.Test.YtfmhkgnbceoclaaSimB
namespace Go.Sim
open Go Go.RowKit

/-- In every world of the state the cell at an address holds this. -/
def CellAt (x : Cx) (H : Hp) (M : List Res) (ad : Addr) (v : Value) : Prop := ∀ w, St x.B x.w0 H M w → w.cell? ad = some v

/-- A cell that the heap facts tell. -/
def HCell (H : Hp) (ad : Addr) (v : Value) : Prop := ∃ arr T fz, H ad.block = some (.cells arr T fz) ∧ ad.spot = none ∧ arr[ad.off]? = some v

theorem cell_of {w : World} {ad : Addr} {arr : Array Value} {T : TypeId} {fz : Nat × Nat} {v : Value} (h : w.heap[ad.block]? = some (.cells arr T fz)) (hs : ad.spot = none) (hv : arr[ad.off]? = some v) :
    w.cell? ad = some v := by
  simp [World.cell?, h, hs, hv]

theorem HCell.at {x : Cx} {H : Hp} {M : List Res} {ad : Addr} {v : Value} (h : HCell H ad v) : CellAt x H M ad v := by
  obtain ⟨arr, T, fz, hb, hs, hv⟩ := h
  exact fun w ht => cell_of (ht.hin _ _ hb) hs hv

theorem HCell.mono {H H' : Hp} {ad : Addr} {v : Value} (hle : H.le H') (h : HCell H ad v) : HCell H' ad v := by
  obtain ⟨arr, T, fz, hb, hs, hv⟩ := h
  exact ⟨arr, T, fz, hle _ _ hb, hs, hv⟩

/-- A cell of an owned block. -/
theorem own_at {x : Cx} {H : Hp} {M : List Res} {b off : Nat} {l : List Value} {T : TypeId} {fz : Nat × Nat} {v : Value}
    (hm : Res.obj b (.cells l.toArray T fz) ∈ M) (hv : l[off]? = some v) : CellAt x H M ⟨b, off, none⟩ v := by
  intro w ht
  exact cell_of (ht.obj_ok hm) rfl (by simpa using hv)

/-- A run of cells. -/
def CellsAt (x : Cx) (H : Hp) (M : List Res) (ad : Addr) (cs : List Value) : Prop := ∀ j c, cs[j]? = some c → CellAt x H M (ad.add j) c
def HCells (H : Hp) (ad : Addr) (cs : List Value) : Prop := ∀ j c, cs[j]? = some c → HCell H (ad.add j) c
theorem HCells.at {x : Cx} {H : Hp} {M : List Res} {ad : Addr} {cs : List Value} (h : HCells H ad cs) : CellsAt x H M ad cs := fun j c hc => (h j c hc).at
theorem HCells.mono {H H' : Hp} {ad : Addr} {cs : List Value} (hle : H.le H') (h : HCells H ad cs) : HCells H' ad cs := fun j c hc => (h j c hc).mono hle

theorem own_all {x : Cx} {H : Hp} {M : List Res} {b : Nat} {l : List Value} {T : TypeId} {fz : Nat × Nat}
    (hm : Res.obj b (.cells l.toArray T fz) ∈ M) : CellsAt x H M ⟨b, 0, none⟩ l := by
  intro j c hc
  rw [Addr.add_lit, Nat.zero_add]
  exact own_at hm hc

theorem run_loadCellsFrom {P : Program} {w : World} {ad : Addr} : ∀ (cs : List Value) (i : Nat) (acc : Array Value), (∀ j c, cs[j]? = some c → w.cell? (ad.add (i + j)) = some c) →
    (loadCellsFrom ad i cs.length acc).run P w = .ok (acc ++ cs.toArray) w
  | [], i, acc, _ => by simp [loadCellsFrom]
  | c :: cs, i, acc, h => by
    have h0 := h 0 c rfl
    simp only [Nat.add_zero] at h0
    have ih := run_loadCellsFrom (P := P) (w := w) (ad := ad) cs (i + 1) (acc.push c) (fun j d hd => by have := h (j + 1) d (by simpa using hd); rwa [show i + (j + 1) = i + 1 + j from by omega] at this)
    simp only [List.length_cons, loadCellsFrom, load, Sem.run_bind, Sem.run, h0, Result.andThen_ok]
    rw [ih]
    simp

section
variable {x : Cx} {ops : Array Oper} {Q : Post} {rest : List Oper} {H : Hp} {M M' : List Res} {L L' : Env}
variable {d : Nat} {ty : TypeId} {pos : String} {aft : Array Edge} {g : Option (Nat × Bool)}

theorem W_move {y : Operand} {v : Value} (hg : gd ops L ⟨some d, .move y, ty, pos, aft, g⟩ = some true) (hN : Nat.blt d x.N = true)
    (hy : ev L y = some v) (k : W x ops Q rest H M ((d, v) :: L)) : W x ops Q (⟨some d, .move y, ty, pos, aft, g⟩ :: rest) H M L :=
  W_pure rfl hg hN (fun a w hs _ => by simp [execOp, hs.ev hy]) k

theorem W_assign {y : Operand} {v : Value} (hg : gd ops L ⟨some d, .assign y, ty, pos, aft, g⟩ = some true) (hN : Nat.blt d x.N = true)
    (hy : ev L y = some v) (k : W x ops Q rest H M ((d, v) :: L)) : W x ops Q (⟨some d, .assign y, ty, pos, aft, g⟩ :: rest) H M L :=
  W_pure rfl hg hN (fun a w hs _ => by simp [execOp, hs.ev hy]) k

theorem W_pick {c y z : Operand} {b : Bool} {v : Value} (hg : gd ops L ⟨some d, .pick c y z, ty, pos, aft, g⟩ = some true) (hN : Nat.blt d x.N = true)
    (hc : ev L c = some (.bool b)) (hy : (if b then ev L y else ev L z) = some v) (k : W x ops Q rest H M ((d, v) :: L)) :
    W x ops Q (⟨some d, .pick c y z, ty, pos, aft, g⟩ :: rest) H M L :=
  W_pure rfl hg hN (fun a w hs _ => by
    cases b
    · simp only [Bool.false_eq_true, if_false] at hy; simp [execOp, hs.ev hc, hs.ev hy, asBool]
    · simp only [if_true] at hy; simp [execOp, hs.ev hc, hs.ev hy, asBool]) k

/-- Operators that never fail. -/
def binVal : BinOp → Value → Value → Option Value
  | .add, .int k a, .int k' b => if k = k' then some (.int k (k.wrap (a + b))) else none
  | .sub, .int k a, .int k' b => if k = k' then some (.int k (k.wrap (a - b))) else none
  | .mul, .int k a, .int k' b => if k = k' then some (.int k (k.wrap (a * b))) else none
  | .lss, .int k a, .int k' b => if k = k' then some (.bool (decide (a < b))) else none
  | .leq, .int k a, .int k' b => if k = k' then some (.bool (decide (a ≤ b))) else none
  | .gtr, .int k a, .int k' b => if k = k' then some (.bool (decide (b < a))) else none
  | .geq, .int k a, .int k' b => if k = k' then some (.bool (decide (b ≤ a))) else none
  | .eql, .int k a, .int k' b => if k = k' then some (.bool (decide (a = b))) else none
  | .neq, .int k a, .int k' b => if k = k' then some (.bool (!decide (a = b))) else none
  | .and, .int k a, .int k' b => if k = k' then some (.int k (k.wrap (BitVec.ofInt k.bits a &&& BitVec.ofInt k.bits b).toNat)) else none
  | .or, .int k a, .int k' b => if k = k' then some (.int k (k.wrap (BitVec.ofInt k.bits a ||| BitVec.ofInt k.bits b).toNat)) else none
  | .xor, .int k a, .int k' b => if k = k' then some (.int k (k.wrap (BitVec.ofInt k.bits a ^^^ BitVec.ofInt k.bits b).toNat)) else none
  | .eql, .string s, .string t => some (.bool (decide (s = t)))
  | .neq, .string s, .string t => some (.bool (!decide (s = t)))
  | .lss, .string s, .string t => some (.bool (Op.bytesLess s.toList t.toList))
  | _, _, _ => none

theorem ba_beq (s t : ByteArray) : (s.toList == t.toList) = decide (s = t) := by
  rw [Bool.eq_iff_iff]
  simp only [beq_iff_eq, decide_eq_true_eq]
  constructor
  · intro h
    have hs : ∀ u : ByteArray, u.toList = u.data.toList := ByteArray.toList_eq
    rw [hs, hs] at h
    exact ByteArray.ext (Array.ext' h)
  · intro h; rw [h]

theorem int_beq (a b : Int) : (a == b) = decide (a = b) := by rw [Bool.eq_iff_iff]; simp

theorem ite_none {p : Prop} [Decidable p] {v w : Value} (h : (if p then some v else none) = some w) : p ∧ v = w := by
  split at h
  · exact ⟨‹_›, by simpa using h⟩
  · cases h

theorem binOp_run {op : BinOp} {a b v : Value} (t : TypeId) (P : Program) (w : World) (h : binVal op a b = some v) : (binOp op t a b).run P w = .ok v w := by
  unfold binVal at h
  split at h
  case h_1 | h_2 | h_3 | h_4 | h_5 | h_6 | h_7 | h_8 | h_9 | h_10 | h_11 | h_12 =>
    obtain ⟨rfl, rfl⟩ := ite_none h
    first
      | (simp [binOp, Op.intArith]; done)
      | (simp [binOp, Op.intBits]; done)
      | (simp [binOp, Op.intCmp]; done)
      | (simp [binOp, Op.intCmp, bne, int_beq]; done)
  case h_13 | h_14 | h_15 => cases h; simp [binOp, Op.stringOp, ← ba_beq]
  case h_16 => cases h

theorem eqGuard_run {op : BinOp} {a b v : Value} (t : TypeId) (y z : Operand) (P : Program) (w : World) (h : binVal op a b = some v) : (eqGuard op t y z a b).run P w = .ok () w := by
  unfold binVal at h
  split at h <;> first
    | (simp [eqGuard]; done)
    | (cases h; done)

theorem W_bin {op : BinOp} {t u : TypeId} {y z : Operand} {a b v : Value} (hg : gd ops L ⟨some d, .binOp op t y z u, ty, pos, aft, g⟩ = some true) (hN : Nat.blt d x.N = true)
    (hy : ev L y = some a) (hz : ev L z = some b) (hv : binVal op a b = some v) (k : W x ops Q rest H M ((d, v) :: L)) :
    W x ops Q (⟨some d, .binOp op t y z u, ty, pos, aft, g⟩ :: rest) H M L :=
  W_pure rfl hg hN (fun c w hs _ => by
    simp only [execOp, hs.ev hy, hs.ev hz, Sem.run_bind, eqGuard_run t y z x.P w hv, Result.andThen_ok, binOp_run t x.P w hv, Sem.run_pure]) k

theorem W_quo {t u : TypeId} {y z : Operand} {kk : IntKind} {m n : Int} (hg : gd ops L ⟨some d, .binOp .quo t y z u, ty, pos, aft, g⟩ = some true) (hN : Nat.blt d x.N = true)
    (hy : ev L y = some (.int kk m)) (hz : ev L z = some (.int kk n)) (hn : n ≠ 0) (k : W x ops Q rest H M ((d, .int kk (kk.wrap (m.tdiv n))) :: L)) :
    W x ops Q (⟨some d, .binOp .quo t y z u, ty, pos, aft, g⟩ :: rest) H M L :=
  W_pure rfl hg hN (fun c w hs _ => by
    simp [execOp, hs.ev hy, hs.ev hz, eqGuard, binOp, Op.intDiv, hn]) k

theorem W_rem {t u : TypeId} {y z : Operand} {kk : IntKind} {m n : Int} (hg : gd ops L ⟨some d, .binOp .rem t y z u, ty, pos, aft, g⟩ = some true) (hN : Nat.blt d x.N = true)
    (hy : ev L y = some (.int kk m)) (hz : ev L z = some (.int kk n)) (hn : n ≠ 0) (k : W x ops Q rest H M ((d, .int kk (m.tmod n)) :: L)) :
    W x ops Q (⟨some d, .binOp .rem t y z u, ty, pos, aft, g⟩ :: rest) H M L :=
  W_pure rfl hg hN (fun c w hs _ => by
    simp [execOp, hs.ev hy, hs.ev hz, eqGuard, binOp, Op.intDiv, hn]) k

def unVal : UnOp → Value → Option Value
  | .neg, .int k n => some (.int k (k.wrap (0 - n)))
  | .not, .bool b => some (.bool !b)
  | .xor, .int k n => some (.int k (k.wrap (BitVec.ofInt k.bits (if k.signed then -1 else k.max) ^^^ BitVec.ofInt k.bits n).toNat))
  | _, _ => none

theorem W_un {op : UnOp} {t : TypeId} {y : Operand} {a v : Value} (hg : gd ops L ⟨some d, .unOp op t y, ty, pos, aft, g⟩ = some true) (hN : Nat.blt d x.N = true)
    (hy : ev L y = some a) (hv : unVal op a = some v) (k : W x ops Q rest H M ((d, v) :: L)) :
    W x ops Q (⟨some d, .unOp op t y, ty, pos, aft, g⟩ :: rest) H M L :=
  W_pure rfl hg hN (fun c w hs _ => by
    simp only [execOp, hs.ev hy]
    unfold unVal at hv
    split at hv <;> first
      | (cases hv; simp [Op.unary, Op.intArith, Op.intBits]; done)
      | cases hv) k

theorem W_box {T : TypeId} {y : Operand} {v : Value} {cs : List Value} (hg : gd ops L ⟨some d, .box T y, ty, pos, aft, g⟩ = some true) (hN : Nat.blt d x.N = true)
    (hy : ev L y = some v) (hcs : v.cells = cs.toArray)
    (k : ∀ b, W x ops Q rest H (.obj b (.cells cs.toArray T (0, 0)) :: M) ((d, .pointer (some ⟨b, 0, none⟩)) :: L)) :
    W x ops Q (⟨some d, .box T y, ty, pos, aft, g⟩ :: rest) H M L :=
  W_run rfl hg hN (fun c w hs ht => ⟨_, w.alloc (.cells cs.toArray T), by
    simp only [execOp, hs.ev hy, Instr.box, newVar, newRow, newObj, Sem.run_bind, Sem.run_pure, Sem.run, Result.andThen_ok, hcs, World.alloc], _, _, ht.alloc _, k _⟩)

theorem W_alloc {T : TypeId} {z : Value} {cs : List Value} (hg : gd ops L ⟨some d, .alloc T, ty, pos, aft, g⟩ = some true) (hN : Nat.blt d x.N = true)
    (hz : ∀ w, (zeroValue T).run x.P w = .ok z w) (hcs : z.cells = cs.toArray)
    (k : ∀ b, W x ops Q rest H (.obj b (.cells cs.toArray T (0, 0)) :: M) ((d, .pointer (some ⟨b, 0, none⟩)) :: L)) :
    W x ops Q (⟨some d, .alloc T, ty, pos, aft, g⟩ :: rest) H M L :=
  W_run rfl hg hN (fun c w hs ht => ⟨_, w.alloc (.cells cs.toArray T), by
    simp only [execOp, Instr.alloc, hz, newVar, newRow, newObj, Sem.run_bind, Sem.run_pure, Sem.run, Result.andThen_ok, hcs, World.alloc], _, _, ht.alloc _, k _⟩)

theorem W_load {T : TypeId} {y : Operand} {ad : Addr} {v : Value} (hg : gd ops L ⟨some d, .load T y, ty, pos, aft, g⟩ = some true) (hN : Nat.blt d x.N = true)
    (hT : ∀ w, (isAgg T).run x.P w = .ok false w) (hy : ev L y = some (.pointer (some ad))) (hc : CellAt x H M ad v)
    (k : W x ops Q rest H M ((d, v) :: L)) : W x ops Q (⟨some d, .load T y, ty, pos, aft, g⟩ :: rest) H M L :=
  W_pure rfl hg hN (fun c w hs ht => by
    simp [execOp, hs.ev hy, Instr.loadAt, Instr.sureAddr, loadVar, hT, load, Sem.run, hc w ht]) k

theorem W_loadAgg {T : TypeId} {n : Nat} {y : Operand} {ad : Addr} {cs : List Value} (hg : gd ops L ⟨some d, .load T y, ty, pos, aft, g⟩ = some true) (hN : Nat.blt d x.N = true)
    (hT : ∀ w, (isAgg T).run x.P w = .ok true w) (hn : ∀ w, (sizeOf T).run x.P w = .ok n w) (hy : ev L y = some (.pointer (some ad))) (hc : CellsAt x H M ad cs) (hl : cs.length = n)
    (k : W x ops Q rest H M ((d, .agg cs.toArray) :: L)) : W x ops Q (⟨some d, .load T y, ty, pos, aft, g⟩ :: rest) H M L :=
  W_pure rfl hg hN (fun c w hs ht => by
    have h := run_loadCellsFrom (P := x.P) (w := w) (ad := ad) cs 0 #[] (fun j v hv => by rw [Nat.zero_add]; exact hc j v hv w ht)
    rw [hl] at h
    simp [execOp, hs.ev hy, Instr.loadAt, Instr.sureAddr, loadVar, hT, hn, loadCells, h]) k

theorem W_field {T : TypeId} {y : Operand} {ad : Addr} {f n o : Nat} {fs : Array Field} {fd : Field} (hg : gd ops L ⟨some d, .fieldAddr T y f, ty, pos, aft, g⟩ = some true) (hN : Nat.blt d x.N = true)
    (hT : ∀ w, (underlying T).run x.P w = .ok (.struct fs) w) (hf : fs[f]? = some fd) (hn : ∀ w, (sizeOf fd.type).run x.P w = .ok n w) (hn0 : Nat.beq n 0 = false) (ho : fd.offset = o)
    (hy : ev L y = some (.pointer (some ad))) (k : W x ops Q rest H M ((d, .pointer (some (ad.add o))) :: L)) :
    W x ops Q (⟨some d, .fieldAddr T y f, ty, pos, aft, g⟩ :: rest) H M L :=
  W_pure rfl hg hN (fun c w hs ht => by
    have h0 : ¬ n = 0 := fun e => by subst e; simp at hn0
    simp [execOp, hs.ev hy, Instr.fieldAt, hT, hf, Instr.sureAddr, fieldPlace, hn, h0, ho]) k

theorem W_nilCheck {y : Operand} {ad : Addr} (hg : gd ops L ⟨some d, .nilCheck y, ty, pos, aft, g⟩ = some true) (hN : Nat.blt d x.N = true)
    (hy : ev L y = some (.pointer (some ad))) (k : W x ops Q rest H M ((d, .pointer (some ad)) :: L)) :
    W x ops Q (⟨some d, .nilCheck y, ty, pos, aft, g⟩ :: rest) H M L :=
  W_pure rfl hg hN (fun c w hs ht => by simp [execOp, hs.ev hy]) k

theorem W_extract {y : Operand} {vs : Array Value} {i : Nat} {v : Value} (hg : gd ops L ⟨some d, .extract y i, ty, pos, aft, g⟩ = some true) (hN : Nat.blt d x.N = true)
    (hy : ev L y = some (.tuple vs)) (hv : vs[i]? = some v) (k : W x ops Q rest H M ((d, v) :: L)) :
    W x ops Q (⟨some d, .extract y i, ty, pos, aft, g⟩ :: rest) H M L :=
  W_pure rfl hg hN (fun c w hs ht => by simp [execOp, hs.ev hy, Instr.extract, hv]) k

theorem W_min {y z : Operand} {tys : Array TypeId} {kk : IntKind} {m n : Int} (hg : gd ops L ⟨some d, .call ⟨.builtin .min, #[y, z], tys⟩, ty, pos, aft, g⟩ = some true) (hN : Nat.blt d x.N = true)
    (hy : ev L y = some (.int kk m)) (hz : ev L z = some (.int kk n)) (k : W x ops Q rest H M ((d, .int kk (min m n)) :: L)) :
    W x ops Q (⟨some d, .call ⟨.builtin .min, #[y, z], tys⟩, ty, pos, aft, g⟩ :: rest) H M L :=
  W_pure rfl hg hN (fun c w hs ht => by
    have : (if n < m then n else m) = min m n := by rw [Int.min_def]; split <;> split <;> omega
    simp [execOp, resolve, invoke, builtin, hs.ev hy, hs.ev hz, Builtin.min_, Builtin.min2, this]) k

theorem W_max {y z : Operand} {tys : Array TypeId} {kk : IntKind} {m n : Int} (hg : gd ops L ⟨some d, .call ⟨.builtin .max, #[y, z], tys⟩, ty, pos, aft, g⟩ = some true) (hN : Nat.blt d x.N = true)
    (hy : ev L y = some (.int kk m)) (hz : ev L z = some (.int kk n)) (k : W x ops Q rest H M ((d, .int kk (max m n)) :: L)) :
    W x ops Q (⟨some d, .call ⟨.builtin .max, #[y, z], tys⟩, ty, pos, aft, g⟩ :: rest) H M L :=
  W_pure rfl hg hN (fun c w hs ht => by
    have : (if n > m then n else m) = max m n := by rw [Int.max_def]; split <;> split <;> omega
    simp [execOp, resolve, invoke, builtin, hs.ev hy, hs.ev hz, Builtin.max_, Builtin.max2, this]) k

theorem W_lenS {t e : TypeId} {y : Operand} {a : Option Addr} {m n : Nat} (hg : gd ops L ⟨some d, .call ⟨.builtin .len, #[y], #[t]⟩, ty, pos, aft, g⟩ = some true) (hN : Nat.blt d x.N = true)
    (hT : ∀ w, (underlying t).run x.P w = .ok (.slice e) w) (hy : ev L y = some (.slice a n m)) (k : W x ops Q rest H M ((d, .int .i64 n) :: L)) :
    W x ops Q (⟨some d, .call ⟨.builtin .len, #[y], #[t]⟩, ty, pos, aft, g⟩ :: rest) H M L :=
  W_pure rfl hg hN (fun c w hs ht => by
    simp [execOp, resolve, invoke, builtin, hs.ev hy, Builtin.len_, hT, goInt]) k

theorem W_lenStr {t : TypeId} {y : Operand} {s : ByteArray} (hg : gd ops L ⟨some d, .call ⟨.builtin .len, #[y], #[t]⟩, ty, pos, aft, g⟩ = some true) (hN : Nat.blt d x.N = true)
    (hT : ∀ w, (underlying t).run x.P w = .ok .string w) (hy : ev L y = some (.string s)) (k : W x ops Q rest H M ((d, .int .i64 s.size) :: L)) :
    W x ops Q (⟨some d, .call ⟨.builtin .len, #[y], #[t]⟩, ty, pos, aft, g⟩ :: rest) H M L :=
  W_pure rfl hg hN (fun c w hs ht => by
    simp [execOp, resolve, invoke, builtin, hs.ev hy, Builtin.len_, hT, goInt]) k

theorem W_indexA {t e : TypeId} {sz : Nat} {y z : Operand} {ad : Addr} {n m : Nat} {kk : IntKind} {i : Int} (hg : gd ops L ⟨some d, .indexAddr t y z, ty, pos, aft, g⟩ = some true) (hN : Nat.blt d x.N = true)
    (hT : ∀ w, (underlying t).run x.P w = .ok (.slice e) w) (hs : ∀ w, (sizeOf e).run x.P w = .ok sz w)
    (hy : ev L y = some (.slice (some ad) n m)) (hz : ev L z = some (.int kk i)) (h0 : 0 ≤ i) (h1 : i.toNat < n)
    (k : W x ops Q rest H M ((d, .pointer (some (ad.add (i.toNat * sz)))) :: L)) :
    W x ops Q (⟨some d, .indexAddr t y z, ty, pos, aft, g⟩ :: rest) H M L :=
  W_pure rfl hg hN (fun c w hsl ht => by
    have h1' : i < (n : Int) := by omega
    simp [execOp, hsl.ev hy, hsl.ev hz, Instr.indexAt, asIntOf, hT, hs, h0, h1']) k
end
end Go.Sim
