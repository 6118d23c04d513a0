/-
  strings.Builder: its own address, bytes of a text behind an owned row, the text of a row of bytes.
-/
import Derived.Test.YtfakgoeoclfoaaaGreatDoorSimK
import Derived.Lib.UnsafeStr
import Derived.Lib.Builder
import Derived.Lib.AppendStr
namespace Go.Sim
open Go Go.RowKit
set_option linter.unusedVariables false
set_option linter.unusedSimpArgs false
set_option linter.unusedSectionVars false
set_option linter.unnecessarySimpa false

/-- A builder's 'addr': nil, or its own address. -/
def BAd (b : Nat) (p : Value) : Prop := p = .pointer none ∨ p = .pointer (some ⟨b, 0, none⟩)
theorem strCells_bytesL (s : ByteArray) : Lib.strCells s = (bytesL s).map (fun y => Value.int .u8 y.n) := by
  simp [Lib.strCells, bytesL, Function.comp_def]
theorem RdC.u8 (H : Hp) (l : List U8) : RdC H (l.map fun y => Value.int .u8 y.n) l := by
  induction l with
  | nil => exact RdC.nil
  | cons y l ih => exact ⟨[.int .u8 y.n], _, rfl, rfl, ih⟩

/-- append of a text's bytes to an owned slice of bytes. -/
theorem run_append_R_str {P : Program} {w : World} {t u ty e : TypeId} {i : TypeInfo} (ht : P.underlying t = some (.slice e)) (hu : P.underlying u = some .string) (hi : P.info? e = some i) (hz : i.zero = some (.int .u8 0))
    (hsize : i.size = 1) (hby : i.bytes = 1) {v : Value} {n : Nat} {xs : List Value} (hown : OwnsR w e 1 v n xs) (s : ByteArray) (h63 : n + s.size ≤ maxLen) (hbytes : n + s.size ≤ 140737488355328) :
    ∃ v' w', (Builtin.append_ #[t, u] ty #[v, .string s]).run P w = .ok v' w' ∧ OwnsR w' e 1 v' (n + s.size) (xs ++ Lib.strCells s) ∧ w.grownBy w' v.ownBlock ∧
      (∀ b, v'.ownBlock = some b → v.ownBlock = some b ∨ w.heap.size ≤ b) := by
  have hsmall : n + s.size ≤ 9223372036854775807 := by simp only [maxLen] at h63; omega
  have hxl : xs.length = n := by simpa using hown.1
  have hlen : (xs ++ Lib.strCells s).length = (n + s.size) * 1 := by rw [List.length_append, hxl, Lib.strCells_length, Nat.mul_one]
  have grown : ∀ (old : Nat) (row : Option Nat),
      OwnsR (w.drew.alloc (.cells (xs.toArray ++ (Lib.strCells s).toArray ++ Builtin.zeroCells (Value.int .u8 0).cells (grownCap w (n + s.size) old e - (n + s.size))) e)) e 1
        (.slice (some ⟨w.heap.size, 0, none⟩) (n + s.size) (grownCap w (n + s.size) old e)) (n + s.size) (xs ++ Lib.strCells s) ∧
      w.grownBy (w.drew.alloc (.cells (xs.toArray ++ (Lib.strCells s).toArray ++ Builtin.zeroCells (Value.int .u8 0).cells (grownCap w (n + s.size) old e - (n + s.size))) e)) row := by
    intro old row
    have hge := grownCap_ge w (n + s.size) old e
    have hcm : grownCap w (n + s.size) old e ≤ maxLen := grownCap_le_maxLen w (n + s.size) old e h63
    refine ⟨⟨hlen, .inr ⟨w.heap.size, 0, _, _, rfl, heap_alloc_new w.drew _, hge, hcm, ?_, ?_⟩⟩, ⟨rfl, rfl, rfl, by simp, fun k hk _ => heap_alloc_old w.drew _ hk⟩⟩
    · have hz1 : (Value.int IntKind.u8 0).cells.size = 1 := rfl
      simp only [Array.size_append, List.size_toArray, size_zeroCells, hz1, hxl, Lib.strCells_length]
      omega
    · simp only [List.drop_zero, Array.toList_append, List.append_assoc]
      rw [← List.append_assoc, ← hlen]
      exact List.take_left
  rcases hown.2 with ⟨rfl, rfl⟩ | ⟨g, off, cap, cur, rfl, hg, hnc, hcm, hcs, htake⟩
  · have hx : xs = [] := List.eq_nil_of_length_eq_zero hxl
    subst hx
    by_cases hm : s.size = 0
    · have hn : Lib.strCells s = [] := List.eq_nil_of_length_eq_zero (by rw [Lib.strCells_length]; exact hm)
      refine ⟨.slice none 0 0, w, ?_, by rw [hm, hn]; exact OwnsR.nil w e 1, ⟨rfl, rfl, rfl, Nat.le_refl _, fun _ _ _ => rfl⟩, by simp [Value.ownBlock]⟩
      have hf := Lib.run_firstCells_string (P := P) w 1 s
      rw [hm] at hf
      simp [Builtin.append_, run_underlying ht, run_underlying hu, sizeOf, typeInfo, hi, hsize, Builtin.lenOf, hm, hf]
    · have hr := run_append_nil_string (P := P) w t u ty e i (.int .u8 0) ht hu hi hz s (by omega) (by omega) (by rw [hby]; omega)
      have hgr := grown 0 (Value.ownBlock (.slice none 0 0))
      simp only [Nat.zero_add, List.nil_append, Array.empty_append] at hgr ⊢
      have e1 : (s.data.map fun b => Value.int .u8 b.toNat) = (Lib.strCells s).toArray := by
        apply Array.ext'
        simp [Lib.strCells]
      rw [e1] at hr
      exact ⟨_, _, hr, hgr.1, hgr.2, fun b hb => .inr (by simp only [Value.ownBlock, Option.some.injEq] at hb; omega)⟩
  · have hcs' : off + cap ≤ cur.size := by simpa using hcs
    by_cases hroom : n + s.size ≤ cap
    · have hf := Lib.run_firstCells_string (P := P) w 1 s
      obtain ⟨w', hst, hh, hgr⟩ := run_storeCells_obj (P := P) g (off + n) e (Lib.strCells s) 0 cur.toList w (by simpa using hg) (by rw [Lib.strCells_length]; simp; omega) (Lib.strCells_oneCell s)
      refine ⟨.slice (some ⟨g, off, none⟩) (n + s.size) cap, w', ?_, ⟨hlen, .inr ⟨g, off, cap, _, rfl, hh, hroom, hcm, ?_, ?_⟩⟩, hgr, fun b hb => .inl hb⟩
      · simp [Builtin.append_, run_underlying ht, run_underlying hu, sizeOf, typeInfo, hi, hsize, Builtin.lenOf, hroom, hf, Addr.add_lit, hst]
      · simpa [over_length] using hcs
      · rw [List.toList_toArray, Nat.add_zero, over_eq _ _ _ (by rw [Lib.strCells_length]; simp; omega)]
        have hd : (cur.toList.take (off + n)).drop off = xs := by rw [List.drop_take, Nat.add_sub_cancel_left]; simpa using htake
        rw [List.append_assoc, List.drop_append_of_le_length (by simp; omega), hd, ← List.append_assoc, ← hlen]
        exact List.take_left
    · have holds : ∀ j u, xs[j]? = some u → w.cell? ((⟨g, off, none⟩ : Addr).add j) = some u := by
        intro j u hu
        rw [Addr.add_lit]
        refine cell_of hg rfl ?_
        rw [← htake, List.getElem?_take] at hu
        split at hu
        · rw [List.getElem?_drop] at hu; simpa using hu
        · cases hu
      have hr := Lib.run_append_grow_string (P := P) w t u ty e i (.int .u8 0) ht hu hi hz ⟨g, off, none⟩ n cap xs (by rw [hsize]; simpa using hxl) holds s (by omega) (by omega) (by rw [hby]; exact growslice_fits (by omega) (by omega))
      have hgr := grown cap (Value.ownBlock (.slice (some ⟨g, off, none⟩) n cap))
      exact ⟨_, _, hr, hgr.1, hgr.2, fun b hb => .inr (by simp only [Value.ownBlock, Option.some.injEq] at hb; omega)⟩

section
variable {x : Cx} {ops : Array Oper} {Q : Post} {rest : List Oper} {H : Hp} {M M' : List Res} {L L' : Env}
variable {d : Nat} {ty : TypeId} {pos : String} {aft : Array Edge} {g : Option (Nat × Bool)}
theorem W_appendStr {t u e : TypeId} {n : Nat} {y z : Operand} {v : Value} {xs : List Value} {l : List U8} {s : ByteArray}
    (hg : gd ops L ⟨some d, .call ⟨.builtin .append, #[y, z], #[t, u]⟩, ty, pos, aft, g⟩ = some true) (hN : Nat.blt d x.N = true)
    (hT : x.P.underlying t = some (.slice e)) (hU : x.P.underlying u = some .string) (hi : TyI x.P e 1 1 (.int .u8 0))
    (hy : ev L y = some v) (hz : ev L z = some (.string s)) (hx : Rw H v xs l) (hb : l.length + s.size ≤ 140737488355328)
    (k : ∀ v' xs', Rw H v' xs' (l ++ bytesL s) → W x ops Q rest H (.row v' e (Rep.sz U8) (l ++ bytesL s).length xs' :: M) ((d, v') :: L)) :
    W x ops Q (⟨some d, .call ⟨.builtin .append, #[y, z], #[t, u]⟩, ty, pos, aft, g⟩ :: rest) H (.row v e (Rep.sz U8) n xs :: M) L := by
  obtain ⟨i, h1, h2, h3, h4⟩ := hi.ex
  refine W_run rfl hg hN fun a w hsl ht => ?_
  have hown : OwnsR w e 1 v n xs := ht.ok _ (List.mem_cons_self ..)
  have hn : n = l.length := by
    have := hx.rd.len
    rw [hown.1] at this
    exact Nat.eq_of_mul_eq_mul_right (Nat.zero_lt_one) this
  subst hn
  obtain ⟨v', w', hr, ho, hgr, hfr⟩ := run_append_R_str (P := x.P) (ty := ty) hT hU h1 h4 h2 h3 hown s (by unfold maxLen; omega) hb
  have hlen : (l ++ bytesL s).length = l.length + s.size := by rw [List.length_append, bytesL_len]
  have hok : Res.ok w' (.row v' e (Rep.sz U8) (l ++ bytesL s).length (xs ++ Lib.strCells s)) := by rw [hlen]; exact ho
  refine ⟨v', w', ?_, H, _, ht.upd (r' := .row v' e (Rep.sz U8) (l ++ bytesL s).length (xs ++ Lib.strCells s)) hgr hok hfr, k v' _ ⟨?_, ho.shape⟩⟩
  · simp [execOp, resolve, invoke, builtin, hsl.ev hy, hsl.ev hz, hr]
  · rw [strCells_bytesL]
    exact hx.rd.app (RdC.u8 H _)

/-- A pointer is not another than itself. -/
theorem W_ptrNeSame {t e u : TypeId} {y z : Operand} {a : Addr} (hi : ∃ j, x.P.info? e = some j) (hg : gd ops L ⟨some d, .binOp .neq t y z u, ty, pos, aft, g⟩ = some true) (hN : Nat.blt d x.N = true)
    (hT : x.P.underlying t = some (.pointer e)) (hy : ev L y = some (.pointer (some a))) (hz : ev L z = some (.pointer (some a)))
    (k : W x ops Q rest H M ((d, .bool false) :: L)) : W x ops Q (⟨some d, .binOp .neq t y z u, ty, pos, aft, g⟩ :: rest) H M L :=
  W_pure rfl hg hN (fun c w hs _ => by
    obtain ⟨j, hj⟩ := hi
    have h := Lib.run_neq_ptr_same (P := x.P) w a hT hj
    simp only [execOp, hs.ev hy, hs.ev hz, Sem.run_bind, eqGuard]
    simp [h]) k
theorem own_shape {B : Nat} {w0 w : World} {b : Nat} {cs : List Value} {T : TypeId} (ht : St B w0 H M w) (hm : Res.obj b (.cells cs.toArray T (0, 0)) ∈ M) : w.shape? b = some (T, cs.length) := by
  have h := ht.obj_ok hm
  simp [World.shape?, h]
theorem W_toUnsafe {src dst T e : TypeId} {y : Operand} {b o : Nat} {cs : List Value} (hm : Res.obj b (.cells cs.toArray e (0, 0)) ∈ M) (ho : Nat.blt o cs.length = true)
    (hi : ∃ j, x.P.info? T = some j ∧ Nat.beq j.size 0 = false) (hg : gd ops L ⟨some d, .convert src dst y, ty, pos, aft, g⟩ = some true) (hN : Nat.blt d x.N = true)
    (hs : x.P.underlying src = some (.pointer T)) (hd : x.P.underlying dst = some .unsafePointer) (hy : ev L y = some (.pointer (some ⟨b, o, none⟩)))
    (k : W x ops Q rest H M ((d, .pointer (some ⟨b, o, none⟩)) :: L)) : W x ops Q (⟨some d, .convert src dst y, ty, pos, aft, g⟩ :: rest) H M L :=
  W_pure rfl hg hN (fun c w hsl ht => by
    obtain ⟨j, hj, hj0⟩ := hi
    have h := Lib.run_to_unsafe (P := x.P) w ⟨b, o, none⟩ hs hd hj (fun e => by rw [e] at hj0; cases hj0) (own_shape ht hm) (by simpa [Nat.blt_eq] using ho)
    simp only [execOp, hsl.ev hy, Sem.run_bind, h, Result.andThen_ok, Sem.run_pure]) k
theorem W_fromUnsafe {src dst T e : TypeId} {y : Operand} {b o : Nat} {cs : List Value} (hm : Res.obj b (.cells cs.toArray e (0, 0)) ∈ M)
    (hi : ∃ j, x.P.info? T = some j) (hl : liesAt x.P x.P.depth e (cs.length / x.P.cellsOf e) o T 1 = true) (hg : gd ops L ⟨some d, .convert src dst y, ty, pos, aft, g⟩ = some true) (hN : Nat.blt d x.N = true)
    (hs : x.P.underlying src = some .unsafePointer) (hd : x.P.underlying dst = some (.pointer T)) (hy : ev L y = some (.pointer (some ⟨b, o, none⟩)))
    (k : W x ops Q rest H M ((d, .pointer (some ⟨b, o, none⟩)) :: L)) : W x ops Q (⟨some d, .convert src dst y, ty, pos, aft, g⟩ :: rest) H M L :=
  W_pure rfl hg hN (fun c w hsl ht => by
    obtain ⟨j, hj⟩ := hi
    have h := Lib.run_from_unsafe (P := x.P) w ⟨b, o, none⟩ hs hd hj (own_shape ht hm) hl
    simp only [execOp, hsl.ev hy, Sem.run_bind, h, Result.andThen_ok, Sem.run_pure]) k
theorem noesc_extern {P : Program} {f : FuncId} {fn : Func} (hf : P.funcs[f]? = some fn) (h1 : (fn.name == "runtime.NumGoroutine") = false) (h2 : fn.body.isNone = true) (h3 : Extern.findNext fn = none) (h4 : Extern.find fn = some Extern.AbiNoEscape.same) (v : Value) :
    ∀ w, (callFunc f [v].toArray).run P w = .ok (.value v) w := fun w => by
  rw [run_callFunc_extern hf h1 h2 h3 h4, show [v].toArray = #[v] from rfl, Lib.run_noEscape]
  rfl

/-- unsafe.SliceData. -/
theorem W_sliceData {ts : Array TypeId} {y : Operand} {a : Addr} {n c : Nat} (hg : gd ops L ⟨some d, .call ⟨.builtin .unsafeSliceData, #[y], ts⟩, ty, pos, aft, g⟩ = some true) (hN : Nat.blt d x.N = true)
    (hy : ev L y = some (.slice (some a) n c)) (hc : c ≠ 0) (k : W x ops Q rest H M ((d, .pointer (some a)) :: L)) :
    W x ops Q (⟨some d, .call ⟨.builtin .unsafeSliceData, #[y], ts⟩, ty, pos, aft, g⟩ :: rest) H M L :=
  W_pure rfl hg hN (fun s w hsl ht => by
    have h := Lib.run_unsafeSliceData_row (P := x.P) w ts ty a n c hc
    simp [execOp, resolve, invoke, builtin, hsl.ev hy, h]) k

theorem run_loadBytesU {P : Program} (w : World) : ∀ (l : List U8) (a : Addr) (acc : ByteArray), (∀ j y, l[j]? = some y → w.cell? (a.add j) = some (.int .u8 y.n)) →
    (loadBytes a acc l.length).run P w = .ok ⟨acc.data ++ (l.map fun y => UInt8.ofNat y.n.toNat).toArray⟩ w
  | [], a, acc, _ => by simp [loadBytes]
  | y :: l, a, acc, h => by
    have h0 : w.cell? a = some (.int .u8 y.n) := by
      have := h 0 y rfl
      simpa [Addr.add] using this
    have ih := run_loadBytesU (P := P) w l (a.add 1) (acc.push (UInt8.ofNat y.n.toNat)) (fun j z hz => by
      have := h (j + 1) z (by simpa using hz)
      have e : (a.add 1).add j = a.add (j + 1) := by
        unfold Addr.add
        by_cases hj : j = 0
        · subst hj; simp
        · simp [hj]; omega
      rw [e]; exact this)
    have hx : (y.n.toNat).toUInt8 = UInt8.ofNat y.n.toNat := rfl
    simp only [List.length_cons, loadBytes, Sem.run_bind, run_load, h0, Result.andThen, hx]
    rw [ih]
    congr 1
    apply ByteArray.ext
    simp [ByteArray.push]
theorem liesAt_bytesO {P : Program} {e : TypeId} (hc : P.cellsOf e = 1) (count off n : Nat) (hn : off + n ≤ count) : liesAt P P.depth e count off e n = true := by
  have hd : P.depth = (2 * (P.types.size + Made.depth) + 1) + 1 := rfl
  rw [hd]
  simp only [liesAt, Bool.or_eq_true]
  left
  rw [hd]
  simp [rowAt, hc, hn, sameLayout, Nat.mod_one]

/-- unsafe.String of a row of bytes: the bytes are frozen, and nobody's any more. -/
theorem W_unsafeStr {pt it e : TypeId} {y z : Operand} {gb off n cap : Nat} {xs : List Value} {l : List U8}
    (hg : gd ops L ⟨some d, .call ⟨.builtin .unsafeString, #[y, z], #[pt, it]⟩, ty, pos, aft, g⟩ = some true) (hN : Nat.blt d x.N = true)
    (hp : x.P.underlying pt = some (.pointer e)) (hc : x.P.cellsOf e = 1)
    (hy : ev L y = some (.pointer (some ⟨gb, off, none⟩))) (hz : ev L z = some (.int .i64 (l.length : Int))) (h0 : 0 < l.length)
    (hx : Rw H (.slice (some ⟨gb, off, none⟩) n cap) xs l)
    (k : W x ops Q rest H M ((d, .string (bstr l)) :: L)) :
    W x ops Q (⟨some d, .call ⟨.builtin .unsafeString, #[y, z], #[pt, it]⟩, ty, pos, aft, g⟩ :: rest) H (.row (.slice (some ⟨gb, off, none⟩) n cap) e (Rep.sz U8) n xs :: M) L := by
  refine W_run rfl hg hN fun a w hsl ht => ?_
  have hown : OwnsR w e 1 (.slice (some ⟨gb, off, none⟩) n cap) n xs := ht.ok _ (List.mem_cons_self ..)
  have hn : n = l.length := by
    have := hx.rd.len
    rw [hown.1] at this
    exact Nat.eq_of_mul_eq_mul_right (Nat.zero_lt_one) this
  rcases hown.2 with ⟨h, _⟩ | ⟨g', off', cap', cur, he, hgc, hnc, hcm, hcs, htake⟩
  · cases h
  cases he
  have hcs' : off + cap ≤ cur.size := by simpa using hcs
  have hsh : w.shape? gb = some (e, cur.size) := by simp [World.shape?, hgc]
  have hcell : ∀ j y, l[j]? = some y → w.cell? ((⟨gb, off, none⟩ : Addr).add j) = some (.int .u8 y.n) := by
    intro j y hj
    obtain ⟨cs, h1, h2⟩ := hx.rd.get j y hj
    have h1 : cs = [.int .u8 y.n] := h1
    have h3 := h2 0 (.int .u8 y.n) (by rw [h1]; rfl)
    rw [Addr.add_lit]
    refine cell_of hgc rfl ?_
    rw [← htake, List.getElem?_take] at h3
    split at h3
    · rw [List.getElem?_drop] at h3
      simpa [Rep.sz] using h3
    · cases h3
  have hlb := run_loadBytesU (P := x.P) w l ⟨gb, off, none⟩ .empty hcell
  have hlies := liesAt_bytesO (P := x.P) hc (cur.size / x.P.cellsOf e) off l.length (by rw [hc, Nat.div_one]; omega)
  have hmax : IntKind.i64.max = 9223372036854775807 := rfl
  have hl0 : l.length ≠ 0 := by omega
  have h63' : ¬ (9223372036854775807 : Int) < (l.length : Int) := by unfold maxLen at hcm; omega
  have hneg : ¬ (l.length : Int) < 0 := by omega
  have hrun : (Builtin.unsafeString_ #[pt, it] ty #[.pointer (some ⟨gb, off, none⟩), .int .i64 l.length]).run x.P w = .ok (.string (bstr l)) (w.freeze ⟨gb, off, none⟩ l.length) := by
    have hdef : Builtin.unsafeString_ #[pt, it] ty #[.pointer (some ⟨gb, off, none⟩), .int .i64 l.length] =
        (do
          let n ← asInt (.int .i64 l.length)
          if n < 0 then runtimePanic (.error "unsafe.String: len out of range")
          if n > IntKind.i64.max then unsupported (.unsafePointer "String: a length above the largest int")
          if n = 0 then pure (.string .empty)
          else if ← variablesAt ⟨gb, off, none⟩ (← elemOf pt) n.toNat then do
            let s ← loadBytes ⟨gb, off, none⟩ .empty n.toNat
            freeze ⟨gb, off, none⟩ n.toNat
            pure (.string s)
          else unsupported (.unsafePointer "String: not so many bytes at ptr")) := rfl
    rw [hdef]
    have he0 : ByteArray.empty.data = #[] := rfl
    simp [asInt, asIntOf, hmax, h63', hneg, hl0, variablesAt, hsh, elemOf, run_underlying hp, hlies, hlb, bstr]
  have hgr : w.grownBy (w.freeze ⟨gb, off, none⟩ l.length) (some gb) := by
    unfold World.freeze
    split
    · exact ⟨rfl, rfl, rfl, Nat.le_refl _, fun _ _ _ => rfl⟩
    · exact ⟨rfl, rfl, rfl, by simp, fun q hq hne => by
        simp only [Array.getElem?_modify]
        rw [if_neg (by intro e; exact hne (by rw [e]))]⟩
  have h1 := ht.upd (r' := .row (.slice none 0 0) 0 1 0 []) hgr (OwnsR.nil _ _ _) (by intro b hb; simp [Res.foot, Value.ownBlock] at hb)
  refine ⟨.string (bstr l), w.freeze ⟨gb, off, none⟩ l.length, ?_, H, M, h1.tail, k⟩
  simp [execOp, resolve, invoke, builtin, hsl.ev hy, hsl.ev hz, hrun]
end
end Go.Sim
