/-
  What comes in: from 'the argument reads as data' to lists and numbers; what goes out: every argument reads as it did.
-/
import Derived.Test.YticgbjeijocojaaMg21
import Derived.ProofKit
set_option linter.unusedVariables false
set_option linter.unusedSimpArgs false
namespace Go.Sim
open Go Go.RowKit Go.ChangeShapes Go.WideShapes Go.ChangeAt
set_option linter.unusedVariables false
set_option linter.unusedSimpArgs false
set_option linter.unusedSectionVars false
set_option linter.unnecessarySimpa false

/-- What is known of a value that came in. -/
class Ok (α : Type) where
  ok : α → Prop
abbrev ok {α : Type} [Ok α] (x : α) : Prop := Ok.ok x
def i64ok (n : Int) : Prop := -9223372036854775808 ≤ n ∧ n ≤ 9223372036854775807
instance : Ok Int := ⟨i64ok⟩
instance : Ok Bool := ⟨fun _ => True⟩
instance : Ok ByteArray := ⟨fun s => s.size ≤ maxLen⟩
instance : Ok U8 := ⟨fun x => 0 ≤ x.n ∧ x.n ≤ 255⟩
instance : Ok U16 := ⟨fun x => 0 ≤ x.n ∧ x.n ≤ 65535⟩
instance : Ok U32 := ⟨fun x => 0 ≤ x.n ∧ x.n ≤ 4294967295⟩
instance : Ok U64 := ⟨fun x => 0 ≤ x.n ∧ x.n ≤ 18446744073709551615⟩
instance : Ok I32 := ⟨fun x => -2147483648 ≤ x.n ∧ x.n ≤ 2147483647⟩
instance {α : Type} [Ok α] : Ok (List α) := ⟨fun xs => xs.length ≤ maxLen ∧ ∀ x ∈ xs, ok x⟩

theorem wf_i64 {n : Int} (h : (Lit.int .i64 n).wf = true) : i64ok n := by
  simp [Lit.wf, IntKind.min, IntKind.max, IntKind.signed, IntKind.bits] at h; exact ⟨by omega, by omega⟩
theorem wf_u8 {n : Int} (h : (Lit.int .u8 n).wf = true) : 0 ≤ n ∧ n ≤ 255 := by
  simp [Lit.wf, IntKind.min, IntKind.max, IntKind.signed, IntKind.bits] at h; omega
theorem wf_u16 {n : Int} (h : (Lit.int .u16 n).wf = true) : 0 ≤ n ∧ n ≤ 65535 := by
  simp [Lit.wf, IntKind.min, IntKind.max, IntKind.signed, IntKind.bits] at h; omega
theorem wf_u32 {n : Int} (h : (Lit.int .u32 n).wf = true) : 0 ≤ n ∧ n ≤ 4294967295 := by
  simp [Lit.wf, IntKind.min, IntKind.max, IntKind.signed, IntKind.bits] at h; omega
theorem wf_u64 {n : Int} (h : (Lit.int .u64 n).wf = true) : 0 ≤ n ∧ n ≤ 18446744073709551615 := by
  simp [Lit.wf, IntKind.min, IntKind.max, IntKind.signed, IntKind.bits] at h; omega
theorem wf_i32 {n : Int} (h : (Lit.int .i32 n).wf = true) : -2147483648 ≤ n ∧ n ≤ 2147483647 := by
  simp [Lit.wf, IntKind.min, IntKind.max, IntKind.signed, IntKind.bits] at h; omega

/-- A type's reading is a value of α. -/
def Tread (P : Program) (T : TypeId) (α : Type) [Rep α] [Ok α] : Prop :=
  ∀ (Hd : Type) (enc : TypeId × Value → Hd) (w : World) (fuel : Nat) (cs : List Value) (d : DataW Hd × List MemPlace),
    DataW.trod enc P w 0 (fun _ => true) true fuel T cs = some d → ∃ x : α, Rep.E (snap w) cs x ∧ ok x

section
variable {P : Program} {T : TypeId}
theorem tread_int (ht : P.underlying T = some (.int .i64)) : Tread P T Int := fun _ _ _ _ _ _ h => by
  obtain ⟨n, rfl, rfl, hw⟩ := DataW.trod_int ht h; exact ⟨n, rfl, wf_i64 hw⟩
theorem tread_u8 (ht : P.underlying T = some (.int .u8)) : Tread P T U8 := fun _ _ _ _ _ _ h => by
  obtain ⟨n, rfl, rfl, hw⟩ := DataW.trod_int ht h; exact ⟨⟨n⟩, rfl, wf_u8 hw⟩
theorem tread_u16 (ht : P.underlying T = some (.int .u16)) : Tread P T U16 := fun _ _ _ _ _ _ h => by
  obtain ⟨n, rfl, rfl, hw⟩ := DataW.trod_int ht h; exact ⟨⟨n⟩, rfl, wf_u16 hw⟩
theorem tread_u32 (ht : P.underlying T = some (.int .u32)) : Tread P T U32 := fun _ _ _ _ _ _ h => by
  obtain ⟨n, rfl, rfl, hw⟩ := DataW.trod_int ht h; exact ⟨⟨n⟩, rfl, wf_u32 hw⟩
theorem tread_u64 (ht : P.underlying T = some (.int .u64)) : Tread P T U64 := fun _ _ _ _ _ _ h => by
  obtain ⟨n, rfl, rfl, hw⟩ := DataW.trod_int ht h; exact ⟨⟨n⟩, rfl, wf_u64 hw⟩
theorem tread_i32 (ht : P.underlying T = some (.int .i32)) : Tread P T I32 := fun _ _ _ _ _ _ h => by
  obtain ⟨n, rfl, rfl, hw⟩ := DataW.trod_int ht h; exact ⟨⟨n⟩, rfl, wf_i32 hw⟩
theorem tread_bool (ht : P.underlying T = some .bool) : Tread P T Bool := fun _ _ _ _ _ _ h => by
  obtain ⟨b, rfl, rfl⟩ := DataW.trod_bool ht h; exact ⟨b, rfl, trivial⟩
theorem tread_string (ht : P.underlying T = some .string) : Tread P T ByteArray := fun _ _ _ _ _ _ h => by
  obtain ⟨s, rfl, rfl, hs⟩ := DataW.trod_string ht h; exact ⟨s, rfl, hs⟩

theorem choose_list {α : Type} {p : Nat → α → Prop} : ∀ n, (∀ i, i < n → ∃ x, p i x) → ∃ xs : List α, xs.length = n ∧ ∀ i x, xs[i]? = some x → p i x := by
  intro n
  induction n with
  | zero => exact fun _ => ⟨[], rfl, by simp⟩
  | succ n ih =>
    intro h
    obtain ⟨xs, hl, hx⟩ := ih fun i hi => h i (by omega)
    obtain ⟨y, hy⟩ := h n (by omega)
    refine ⟨xs ++ [y], by simp [hl], fun i x hi => ?_⟩
    rw [List.getElem?_append] at hi
    split at hi
    · exact hx i x hi
    · have : i - xs.length = 0 := by
        have := (List.getElem?_eq_some_iff.1 hi).1
        simp at this; omega
      rw [this] at hi
      simp at hi; subst hi
      rw [show i = n from by omega]; exact hy

theorem tread_slice {e : TypeId} {α : Type} [Rep α] [Ok α] (ht : P.underlying T = some (.slice e)) (hs : P.cellsOf e = Rep.sz α) (h0 : Nat.blt 0 (Rep.sz α) = true) (he : Tread P e α) : Tread P T (List α) := fun Hd enc w fuel cs d h => by
  have h0' : 0 < Rep.sz α := by simpa [Nat.blt_eq] using h0
  rcases DataW.trod_slice ht h with ⟨rfl, rfl⟩ | ⟨a, len, cap, elems, rest, n, rfl, rfl, rfl, _, hl, hm, hel, hE, hR, _⟩
  · exact ⟨[], ⟨_, rfl, .inl ⟨⟨_, rfl⟩, rfl⟩⟩, ⟨Nat.zero_le _, fun _ h => by cases h⟩⟩
  · by_cases hc : cap = 0
    · subst hc
      obtain rfl : len = 0 := by omega
      exact ⟨[], ⟨_, rfl, .inl ⟨⟨_, rfl⟩, rfl⟩⟩, ⟨Nat.zero_le _, fun _ h => by cases h⟩⟩
    · have hall : ∀ i, i < cap → ∃ cs' d, w.cells? 0 (a.add (i * P.cellsOf e)) (P.cellsOf e) = some cs' ∧ DataW.trod enc P w 0 (fun _ => true) true n e cs' = some d := by
        intro i hi
        have : ∃ d, (w.cells? 0 (a.add (i * P.cellsOf e)) (P.cellsOf e)).bind (DataW.trod enc P w 0 (fun _ => true) true n e) = some d := by
          by_cases hil : i < len
          · exact ⟨elems[i]'(by omega), by rw [hE i hil]; exact List.getElem?_eq_getElem _⟩
          · have := (hR rfl).2 (i - len) (by omega)
            rw [show len + (i - len) = i from by omega] at this
            exact ⟨rest[i - len]'(by have := (hR rfl).1; omega), by rw [this]; exact List.getElem?_eq_getElem _⟩
        obtain ⟨d, hd⟩ := this
        obtain ⟨cs', h1, h2⟩ := Option.bind_eq_some_iff.1 hd
        exact ⟨cs', d, h1, h2⟩
      have hcell : ∀ i, i < cap → ∀ j, j < Rep.sz α → ∃ c, w.cell? ((a.add (i * Rep.sz α)).add j) = some c := by
        intro i hi j hj
        obtain ⟨cs', d, h1, _⟩ := hall i hi
        rw [hs] at h1
        obtain ⟨_, h2, h3⟩ := World.cells?_some h1
        exact ⟨cs'[j]'(by omega), by rw [h3 j hj]; exact List.getElem?_eq_getElem _⟩
      obtain ⟨ab, ao, asp⟩ := a
      have hb : asp = none ∧ ∃ arr T fz, w.heap[ab]? = some (.cells arr T fz) := by
        obtain ⟨c, hc'⟩ := hcell 0 (by omega) 0 h0'
        rw [Nat.zero_mul] at hc'
        simp only [Addr.add, if_true, World.cell?] at hc'
        split at hc'
        · rename_i arr T fz hh
          refine ⟨?_, arr, T, fz, hh⟩
          split at hc'
          · cases hc'
          · rename_i hn; cases asp <;> simp_all
        · cases hc'
      obtain ⟨rfl, arr, T', fz, hh⟩ := hb
      have hat : ∀ i, i < cap → ∀ j, j < Rep.sz α → w.cell? (((⟨ab, ao, none⟩ : Addr).add (i * Rep.sz α)).add j) = arr[ao + i * Rep.sz α + j]? := by
        intro i hi j hj
        rw [Addr.add_lit, Addr.add_lit]
        simp [World.cell?, hh]
      have hsz : ao + cap * Rep.sz α ≤ arr.size := by
        obtain ⟨c, hc'⟩ := hcell (cap - 1) (by omega) (Rep.sz α - 1) (by omega)
        rw [hat (cap - 1) (by omega) _ (by omega)] at hc'
        have := (Array.getElem?_eq_some_iff.1 hc').1
        have e1 : cap * Rep.sz α = (cap - 1) * Rep.sz α + Rep.sz α := by
          have : cap = (cap - 1) + 1 := by omega
          rw [this, Nat.add_mul, Nat.one_mul]; simp
        omega
      obtain ⟨xs, hxl, hxs⟩ := choose_list (p := fun i (x : α) => ok x ∧ ∃ cs, Rep.E (snap w) cs x ∧ ∀ j c, cs[j]? = some c → arr[ao + i * Rep.sz α + j]? = some c) len (by
        intro i hi
        obtain ⟨cs', d, h1, h2⟩ := hall i (by omega)
        obtain ⟨x, hx, hok⟩ := he _ _ _ _ _ _ h2
        refine ⟨x, hok, cs', hx, fun j c hj => ?_⟩
        rw [hs] at h1
        obtain ⟨_, h3, h4⟩ := World.cells?_some h1
        have hjl := (List.getElem?_eq_some_iff.1 hj).1
        rw [← hat i (by omega) j (by omega), h4 j (by omega), hj])
      subst hxl
      refine ⟨xs, ⟨_, rfl, .inr ⟨ab, ao, cap, arr, T', fz, rfl, hl, hm, hh, hsz, fun k x hk => (hxs k x hk).2⟩⟩, by omega, fun x hx => ?_⟩
      obtain ⟨k, hk⟩ := List.mem_iff_getElem?.1 hx
      exact (hxs k x hk).1

/-- A struct's field. -/
theorem field_tread {Hd : Type} {enc : TypeId × Value → Hd} {w : World} {n : Nat} {cs : List Value} {fs : Array Field} {xs : List (DataW Hd × List MemPlace)} {α : Type} [Rep α] [Ok α]
    (hlen : xs.length = fs.size) (hf : ∀ (i : Nat) (f : Field), fs[i]? = some f → DataW.trod enc P w 0 (fun _ => true) true n f.type ((cs.drop f.offset).take (P.cellsOf f.type)) = xs[i]?)
    (i : Nat) {f : Field} {o : Nat} (hi : fs[i]? = some f) (ho : f.offset = o) (hn : P.cellsOf f.type = Rep.sz α) (ht : Tread P f.type α) : ∃ x : α, Rep.E (snap w) ((cs.drop o).take (Rep.sz α)) x ∧ ok x := by
  have h := hf i f hi
  have hlt : i < xs.length := by rw [hlen]; exact (Array.getElem?_eq_some_iff.1 hi).1
  rw [List.getElem?_eq_getElem hlt] at h
  obtain ⟨x, hx, hok⟩ := ht _ _ _ _ _ _ h
  subst ho
  rw [hn] at hx
  exact ⟨x, hx, hok⟩
/-- An array's element. -/
theorem elem_tread {Hd : Type} {enc : TypeId × Value → Hd} {w : World} {n m : Nat} {e : TypeId} {cs : List Value} {xs : List (DataW Hd × List MemPlace)} {α : Type} [Rep α] [Ok α]
    (hlen : xs.length = m) (hf : ∀ (i : Nat), i < m → DataW.trod enc P w 0 (fun _ => true) true n e ((cs.drop (i * P.cellsOf e)).take (P.cellsOf e)) = xs[i]?)
    (i : Nat) {o : Nat} (hi : Nat.blt i m = true) (hn : P.cellsOf e = Rep.sz α) (ho : i * Rep.sz α = o) (ht : Tread P e α) : ∃ x : α, Rep.E (snap w) ((cs.drop o).take (Rep.sz α)) x ∧ ok x := by
  have hi' : i < m := by simpa [Nat.blt_eq] using hi
  have h := hf i hi'
  rw [List.getElem?_eq_getElem (by omega)] at h
  obtain ⟨x, hx, hok⟩ := ht _ _ _ _ _ _ h
  rw [hn, ho] at hx
  exact ⟨x, hx, hok⟩
theorem piece {cs r s : List Value} {o n m : Nat} (h : (cs.drop o).take n = r) (hm : o + n = m) (k : cs.drop m = s) : cs.drop o = r ++ s := by
  subst hm
  rw [← h, ← k, ← List.drop_drop, List.take_append_drop]
theorem piece_end {cs : List Value} {n m : Nat} (h : cs.length = n) (hm : n = m) : cs.drop m = [] := by subst hm; rw [← h]; exact List.drop_length
end

/-! ### One argument -/
section
variable {Hd : Type} {enc : TypeId × Value → Hd} {P : Program} {W : World} {T : TypeId} {v : Value} {d : DataW Hd} {p : List MemPlace} {base : Nat}
theorem arg_cell {α : Type} [Rep α] [Ok α] (ht : Tread P T α) (h : DataW.Trod enc P W 0 (fun _ => true) true T v d p) : ∃ x : α, Rep.E (snap W) v.cells.toList x ∧ ok x := by
  obtain ⟨n, h⟩ := h; exact ht _ _ _ _ _ _ h
theorem arg_int (hu : P.underlying T = some (.int .i64)) (hv : Value.okWide P W .any base T v) (h : DataW.Trod enc P W 0 (fun _ => true) true T v d p) : ∃ x : Int, v = .int .i64 x ∧ i64ok x := by
  obtain ⟨n, rfl⟩ := okWide_int hu hv
  obtain ⟨x, hx, hok⟩ := arg_cell (tread_int hu) h
  simp [Value.cells, Rep.E] at hx; subst hx; exact ⟨n, rfl, hok⟩
theorem arg_u8 (hu : P.underlying T = some (.int .u8)) (hv : Value.okWide P W .any base T v) (h : DataW.Trod enc P W 0 (fun _ => true) true T v d p) : ∃ x : Int, v = .int .u8 x ∧ 0 ≤ x ∧ x ≤ 255 := by
  obtain ⟨n, rfl⟩ := okWide_int hu hv
  obtain ⟨x, hx, hok⟩ := arg_cell (tread_u8 hu) h
  simp [Value.cells, Rep.E] at hx; subst hx; exact ⟨_, rfl, hok⟩
theorem arg_u32 (hu : P.underlying T = some (.int .u32)) (hv : Value.okWide P W .any base T v) (h : DataW.Trod enc P W 0 (fun _ => true) true T v d p) : ∃ x : Int, v = .int .u32 x ∧ 0 ≤ x ∧ x ≤ 4294967295 := by
  obtain ⟨n, rfl⟩ := okWide_int hu hv
  obtain ⟨x, hx, hok⟩ := arg_cell (tread_u32 hu) h
  simp [Value.cells, Rep.E] at hx; subst hx; exact ⟨_, rfl, hok⟩
theorem arg_u64 (hu : P.underlying T = some (.int .u64)) (hv : Value.okWide P W .any base T v) (h : DataW.Trod enc P W 0 (fun _ => true) true T v d p) : ∃ x : Int, v = .int .u64 x ∧ 0 ≤ x ∧ x ≤ 18446744073709551615 := by
  obtain ⟨n, rfl⟩ := okWide_int hu hv
  obtain ⟨x, hx, hok⟩ := arg_cell (tread_u64 hu) h
  simp [Value.cells, Rep.E] at hx; subst hx; exact ⟨_, rfl, hok⟩
theorem arg_bool (hu : P.underlying T = some .bool) (hv : Value.okWide P W .any base T v) (h : DataW.Trod enc P W 0 (fun _ => true) true T v d p) : ∃ x : Bool, v = .bool x := by
  obtain ⟨n, rfl⟩ := okWide_bool hu hv; exact ⟨n, rfl⟩
theorem arg_string (hu : P.underlying T = some .string) (hv : Value.okWide P W .any base T v) (h : DataW.Trod enc P W 0 (fun _ => true) true T v d p) : ∃ x : ByteArray, v = .string x ∧ x.size ≤ maxLen := by
  obtain ⟨n, rfl⟩ := okWide_string hu hv
  obtain ⟨x, hx, hok⟩ := arg_cell (tread_string hu) h
  simp [Value.cells, Rep.E] at hx; subst hx; exact ⟨n, rfl, hok⟩
theorem arg_slice {e : TypeId} {α : Type} [Rep α] [Ok α] (hu : P.underlying T = some (.slice e)) (ht : Tread P T (List α)) (hv : Value.okWide P W .any base T v) (h : DataW.Trod enc P W 0 (fun _ => true) true T v d p) :
    ∃ x : List α, RdS (snap W) v x ∧ ok x := by
  obtain ⟨a, l, c, rfl⟩ := okWide_slice hu hv
  obtain ⟨x, ⟨u, hx, hr⟩, hok⟩ := arg_cell ht h
  simp [Value.cells] at hx; subst hx; exact ⟨x, hr, hok⟩
theorem arg_struct {fs : Array Field} {α : Type} [Rep α] [Ok α] (hu : P.underlying T = some (.struct fs)) (ht : Tread P T α) (hv : Value.okWide P W .any base T v) (h : DataW.Trod enc P W 0 (fun _ => true) true T v d p) :
    ∃ (x : α) (cs : List Value), v = .agg cs.toArray ∧ Rep.E (snap W) cs x ∧ ok x := by
  obtain ⟨cs, rfl, _⟩ := okWide_struct hu hv
  obtain ⟨x, hx, hok⟩ := arg_cell ht h
  exact ⟨x, cs.toList, by simp, hx, hok⟩
end

/-! ### Sizes of what came in -/
theorem sz_cons {Hd : Type} {P : Program} {t : TypeId} {ts : List TypeId} {d : DataW Hd} {r : List (DataW Hd)} (h : (DataW.weightsEach P (t :: ts) (d :: r)).all (· ≤ reachBytes) = true) :
    (d.weights P t).all (· ≤ reachBytes) = true ∧ (DataW.weightsEach P ts r).all (· ≤ reachBytes) = true := by
  rw [DataW.weightsEach, List.all_append, Bool.and_eq_true] at h; exact h
theorem size_slice {Hd : Type} {enc : TypeId × Value → Hd} {P : Program} {W : World} {T : TypeId} {v : Value} {d : DataW Hd} {p : List MemPlace} {e : TypeId} {α : Type} [Rep α] {x : List α} {B : Nat}
    (hu : P.underlying T = some (.slice e)) (hB : P.bytesOf e = B) (h : DataW.Trod enc P W 0 (fun _ => true) true T v d p) (hw : (d.weights P T).all (· ≤ reachBytes) = true) (hr : RdS (snap W) v x) :
    x.length * B ≤ 140737488351232 := by
  obtain ⟨n, h⟩ := h
  subst hB
  rcases hr with ⟨_, rfl⟩ | ⟨b, off, cap, arr, T', fz, rfl, hl, hm, _⟩
  · simp
  · simp only [Value.cells] at h
    rcases DataW.trod_slice hu h with ⟨hc, hd⟩ | ⟨a, len, cap', elems, rest, n, _, hc, hd, _, hl', hm', hel, _, hR, _⟩
    · simp at hc
    · simp at hc
      obtain ⟨rfl, rfl, rfl⟩ := hc
      have hd1 : d = .slice (elems.map (·.1)) (rest.map (·.1)) := congrArg Prod.fst hd
      subst hd1
      rw [DataW.weights, hu] at hw
      simp only [List.all_cons, Bool.and_eq_true, decide_eq_true_eq, List.length_map] at hw
      have h1 := hw.1
      have h2 := (hR rfl).1
      rw [h2, hel, Nat.add_sub_cancel' hl] at h1
      exact Nat.le_trans (Nat.mul_le_mul_right _ hl) (by unfold reachBytes at h1; exact h1)

theorem weightsEach_get {Hd : Type} {P : Program} : ∀ {ts : List TypeId} {ds : List (DataW Hd)} {i : Nat} {t : TypeId} {d : DataW Hd}, (DataW.weightsEach P ts ds).all (· ≤ reachBytes) = true → ts[i]? = some t → ds[i]? = some d → (d.weights P t).all (· ≤ reachBytes) = true
  | [], _, _, _, _, _, ht, _ => by simp at ht
  | _ :: _, [], _, _, _, _, _, hd => by simp at hd
  | _ :: _, _ :: _, 0, _, _, h, ht, hd => by simp at ht hd; subst ht; subst hd; exact (sz_cons h).1
  | _ :: _, _ :: _, i + 1, _, _, h, ht, hd => weightsEach_get (i := i) (sz_cons h).2 (by simpa using ht) (by simpa using hd)
/-- A slice that is a field of an argument. -/
theorem size_field {Hd : Type} {enc : TypeId × Value → Hd} {P : Program} {W : World} {T : TypeId} {cs : List Value} {vi : Value} {d : DataW Hd} {p : List MemPlace} {fs : Array Field} {f : Field} {e : TypeId} {α : Type} [Rep α] {x : List α} {B i o : Nat}
    (hu : P.underlying T = some (.struct fs)) (hi : fs[i]? = some f) (ho : f.offset = o) (hn : P.cellsOf f.type = 1) (hus : P.underlying f.type = some (.slice e)) (hB : P.bytesOf e = B)
    (h : DataW.Trod enc P W 0 (fun _ => true) true T (.agg cs.toArray) d p) (hw : (d.weights P T).all (· ≤ reachBytes) = true) (hc : (cs.drop o).take 1 = [vi]) (hr : RdS (snap W) vi x) :
    x.length * B ≤ 140737488351232 := by
  obtain ⟨n, h⟩ := h
  obtain ⟨xs, m, rfl, hx, hl, hlen, hf⟩ := DataW.trod_struct hu h
  have h1 := hf i f hi
  rw [hn, ho, show (Value.agg cs.toArray).cells.toList = cs from by simp [Value.cells], hc] at h1
  have hlt : i < xs.length := by rw [hlen]; exact (Array.getElem?_eq_some_iff.1 hi).1
  rw [List.getElem?_eq_getElem hlt] at h1
  simp only [Prod.mk.injEq] at hx
  rw [hx.1, DataW.weights, hu] at hw
  have hw1 := weightsEach_get (i := i) (t := f.type) (d := xs[i].1) hw (by simp [hi]) (by simp [hlt])
  refine size_slice (enc := enc) hus hB (v := vi) (d := xs[i].1) (p := xs[i].2) ⟨m, ?_⟩ hw1 hr
  rw [show vi.cells.toList = [vi] by rcases hr with ⟨⟨_, rfl⟩, _⟩ | ⟨_, _, _, _, _, _, rfl, _⟩ <;> simp [Value.cells]]
  exact h1

/-! ### The way back -/
theorem trodAll_below {Hd : Type} {enc : TypeId × Value → Hd} {P : Program} (hl : laidOutB P = true) {W W' : World} (hb : Below W.heap.size W W') : ∀ {ts : List TypeId} {vs : List Value} {ds : List (DataW Hd)} {ps : List MemPlace},
    (ts.all fun t => P.readableRec t && Nat.blt t P.types.size) = true → DataW.TrodAll enc P W 0 (fun _ => true) true ts vs ds ps → DataW.TrodAll enc P W' 0 (fun b => decide (b < W.heap.size)) true ts vs ds ps
  | [], [], [], _, _, h => h
  | t :: ts, v :: vs, d :: ds, ps, ht, h => by
    obtain ⟨p, q, h1, h2, rfl⟩ := h
    simp only [List.all_cons, Bool.and_eq_true, Nat.blt_eq] at ht
    have hlt : ∀ x ∈ p, x.block < W.heap.size := by obtain ⟨m, hm⟩ := h1; exact DataW.trod_lt m _ _ _ hm
    exact ⟨p, q, Below.trod hl ht.1.1 ht.1.2 h1 hb hlt, trodAll_below hl hb ht.2 h2, rfl⟩
  | [], _ :: _, _, _, _, h => absurd h (by simp [DataW.TrodAll])
  | [], [], _ :: _, _, _, h => absurd h (by simp [DataW.TrodAll])
  | _ :: _, [], _, _, _, h => absurd h (by simp [DataW.TrodAll])
  | _ :: _, _ :: _, [], _, _, h => absurd h (by simp [DataW.TrodAll])

theorem trodAll_length {Hd : Type} {enc : TypeId × Value → Hd} {P : Program} {W : World} {base : Nat} {spare : Nat → Bool} {held : Bool} : ∀ {ts : List TypeId} {vs : List Value} {ds : List (DataW Hd)} {ps : List MemPlace},
    DataW.TrodAll enc P W base spare held ts vs ds ps → ds.length = ts.length
  | [], [], [], _, _ => rfl
  | t :: ts, v :: vs, d :: ds, ps, h => by
    obtain ⟨p, q, h1, h2, rfl⟩ := h
    simp [trodAll_length h2]
  | [], _ :: _, _, _, h => absurd h (by simp [DataW.TrodAll])
  | [], [], _ :: _, _, h => absurd h (by simp [DataW.TrodAll])
  | _ :: _, [], _, _, h => absurd h (by simp [DataW.TrodAll])
  | _ :: _, _ :: _, [], _, h => absurd h (by simp [DataW.TrodAll])

/-- A law that returned true and wrote nothing that was there. -/
theorem law_post {Hd : Type} {enc : TypeId × Value → Hd} {P : Program} {fn : Func} {s : ChangeSpec} {W W' : World} {args : Array Value} {ds gs : List (DataW Hd)} {before : List MemPlace} {tb : TypeId}
    (hl : laidOutB P = true) (hs : s.vars = []) (hr : fn.resultTypes = #[tb]) (hb : P.underlying tb = some .bool) (hp : (fn.params.toList.all fun t => P.readableRec t && Nat.blt t P.types.size) = true)
    (hW : DataW.Whole enc P fn.params.toList s.vars false W args.toList ds gs before)
    (hfn : ds.length = fn.params.toList.length → s.fn Hd (ds ++ []) = { results := [.lit (.bool true)], args := ds })
    (bel : Below W.heap.size W W') : s.post enc P fn false true false false W args (.bool true) W' := by
  have hW' := hW
  obtain ⟨p, q, hA, hV, rfl, hfz, hnd⟩ := hW
  rw [hs] at hV
  obtain ⟨rfl, rfl⟩ := trodVars_none hV
  have hlen : ds.length = fn.params.toList.length := by
    exact trodAll_length hA
  have e := hfn hlen
  have hA' := trodAll_below hl bel hp hA
  refine ⟨ds, [], _, [], p, [], hW', ?_, ?_, ?_, bel.frame _, fun h => by cases h⟩
  · rw [hr, e]; exact trodAll_mk1 (shut_bool hb _)
  · rw [e]; exact hA'
  · rw [hs, e]; rfl
end Go.Sim
