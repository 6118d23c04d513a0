/-
  Bytes of a text in memory of one's own: read, written, made a text again.
-/
import Derived.Test.YtldmgakhhhjhoaaDoorSimZ
namespace Go.Sim
open Go Go.RowKit
set_option linter.unusedVariables false
set_option linter.unusedSimpArgs false
set_option linter.unusedSectionVars false
set_option linter.unnecessarySimpa false
section
variable {x : Cx} {ops : Array Oper} {Q : Post} {rest : List Oper} {H : Hp} {M M' : List Res} {L L' : Env}
variable {d : Nat} {ty : TypeId} {pos : String} {aft : Array Edge} {g : Option (Nat × Bool)}

/-- The cells of bytes, with room behind them. -/
def bcl (l : List U8) (cap : Nat) : List Value := l.map (fun y => Value.int .u8 y.n) ++ List.replicate (cap - l.length) (.int .u8 0)
def bres (b : Nat) (e : TypeId) (l : List U8) (cap : Nat) : Res := .obj b (.cells (bcl l cap).toArray e ((bcl l cap).length, (bcl l cap).length + 1))
theorem bcl_get {l : List U8} {cap k : Nat} {y : U8} (h : l[k]? = some y) : (bcl l cap)[k]? = some (.int .u8 y.n) := by
  have hk := (List.getElem?_eq_some_iff.1 h).1
  unfold bcl
  rw [List.getElem?_append_left (by simpa using hk), List.getElem?_map, h]; rfl
theorem bcells_bcl (s : ByteArray) (cap : Nat) : bcells s cap = (bcl (bytesL s) cap).toArray := by
  apply Array.ext'
  simp [bcells, bcl, bytesL, Function.comp_def]
theorem W_convBytesB {t u e : TypeId} {y : Operand} {s : ByteArray} (hg : gd ops L ⟨some d, .convert t u y, ty, pos, aft, g⟩ = some true) (hN : Nat.blt d x.N = true)
    (ht : ∀ w, (underlying t).run x.P w = .ok .string w) (hu : ∀ w, (underlying u).run x.P w = .ok (.slice e) w) (he : ∀ w, (underlying e).run x.P w = .ok (.int .u8) w)
    (hy : ev L y = some (.string s)) (hs : s.size ≤ maxLen)
    (k : ∀ b cap, (bytesL s).length ≤ cap → W x ops Q rest H (bres b e (bytesL s) cap :: M) ((d, .slice (some ⟨b, 0, none⟩) (bytesL s).length cap) :: L)) :
    W x ops Q (⟨some d, .convert t u y, ty, pos, aft, g⟩ :: rest) H M L := by
  refine W_run rfl hg hN fun a w hsl h => ?_
  have h' : St x.B x.w0 H M w.drew := h.drewN (w.drawn + 1)
  have hge := grownCap_ge w s.size 0 e
  generalize hcap : grownCap w s.size 0 e = cap at hge
  have ha := h'.alloc (.cells (bcells s cap) e ((bcells s cap).size, (bcells s cap).size + 1))
  have hres : Res.obj w.drew.heap.size (.cells (bcells s cap) e ((bcells s cap).size, (bcells s cap).size + 1)) = bres w.heap.size e (bytesL s) cap := by
    rw [bcells_bcl]
    unfold bres
    rw [List.size_toArray]
    rfl
  rw [hres] at ha
  refine ⟨.slice (some ⟨w.heap.size, 0, none⟩) (bytesL s).length cap, w.drew.alloc (.cells (bcells s cap) e ((bcells s cap).size, (bcells s cap).size + 1)), ?_, H, _, ha, k _ _ (by rw [bytesL_len]; exact hge)⟩
  have hr := run_stringToBytes (P := x.P) (w := w) (e := e) (s := s)
  rw [hcap] at hr
  rw [bytesL_len]
  simp only [execOp, hsl.ev hy, convert, Sem.run_bind, ht, hu, he, Result.andThen_ok, hr, Sem.run_pure]
theorem W_sliceB {t e : TypeId} {sz : Nat} {y z : Operand} {b n cap : Nat} {kk : IntKind} {i : Int} (hg : gd ops L ⟨some d, .slice t y none (some z) none, ty, pos, aft, g⟩ = some true) (hN : Nat.blt d x.N = true)
    (hT : ∀ w, (underlying t).run x.P w = .ok (.slice e) w) (hs : ∀ w, (sizeOf e).run x.P w = .ok sz w)
    (hy : ev L y = some (.slice (some ⟨b, 0, none⟩) n cap)) (hz : ev L z = some (.int kk i)) (h0 : 0 ≤ i) (h1 : i ≤ (n : Int)) (hc : n ≤ cap)
    (k : W x ops Q rest H M ((d, .slice (some ⟨b, 0, none⟩) i.toNat cap) :: L)) :
    W x ops Q (⟨some d, .slice t y none (some z) none, ty, pos, aft, g⟩ :: rest) H M L := by
  refine W_pure rfl hg hN (fun c w hsl ht => ?_) k
  have hr := run_sliceAt (P := x.P) (w := w) (t := t) (e := e) (sz := sz) (len := n) (cap := cap) (a := some ⟨b, 0, none⟩) (lo := none) (hi := some (.int kk i)) (mx := none) (l := 0) (h := i.toNat) (m := cap) hT hs (.inl rfl) (.inl ⟨rfl, rfl⟩) (.inr ⟨kk, i, rfl, h0, by omega, rfl⟩) (.inl ⟨rfl, rfl⟩)
  have ha : (if cap = 0 then some (⟨b, 0, none⟩ : Addr) else (some (⟨b, 0, none⟩ : Addr)).map (·.add (0 * sz))) = some ⟨b, 0, none⟩ := by
    split
    · rfl
    · simp [Addr.add_lit]
  rw [ha] at hr
  simp only [Nat.sub_zero] at hr
  simp only [execOp, hsl.ev hy, hsl.ev hz, Option.map_some, Option.map_none, Sem.run_bind, hr, Result.andThen_ok, Sem.run_pure]
theorem W_convToStrB {src dst e e' : TypeId} {y : Operand} {b n cap : Nat} {l : List U8} (hm : bres b e' l cap ∈ M) (hg : gd ops L ⟨some d, .convert src dst y, ty, pos, aft, g⟩ = some true) (hN : Nat.blt d x.N = true)
    (hs : x.P.underlying src = some (.slice e)) (he : x.P.underlying e = some (.int .u8)) (hd : x.P.underlying dst = some .string)
    (hy : ev L y = some (.slice (some ⟨b, 0, none⟩) n cap)) (hn : n ≤ l.length) (k : W x ops Q rest H M ((d, .string (bstr (l.take n))) :: L)) :
    W x ops Q (⟨some d, .convert src dst y, ty, pos, aft, g⟩ :: rest) H M L :=
  W_pure rfl hg hN (fun c w hsl ht => by
    have hb := ht.obj_ok hm
    have hl := run_loadCells_list (P := x.P) w ⟨b, 0, none⟩ (((l.take n).map fun y => y.n).map (Value.int .u8)) (fun j v hj => by
      rw [List.getElem?_map, List.getElem?_map, Option.map_map, Option.map_eq_some_iff] at hj
      obtain ⟨y, hy, rfl⟩ := hj
      have hy' : l[j]? = some y := by
        rw [List.getElem?_take] at hy
        split at hy
        · exact hy
        · cases hy
      have := bcl_get (cap := cap) hy'
      rw [Addr.add_lit]
      simp only [World.cell?, hb]
      simpa using this)
    simp only [List.length_map, List.length_take, Nat.min_eq_left hn] at hl
    have hbs : (Conv.bytesToString (.slice (some ⟨b, 0, none⟩) n cap)).run x.P w = .ok (.string (bstr (l.take n))) w := by
      rw [run_bytesToString w ⟨b, 0, none⟩ n cap _ hl, foldl_bstr]
      have he0 : ByteArray.empty.data = #[] := rfl
      rw [he0]
      simp [bstr, List.map_map, Function.comp_def]
    simp only [execOp, hsl.ev hy, Sem.run_bind, run_convert_bytes_string w src dst e _ _ _ hs he hd, hbs, Result.andThen_ok, Sem.run_pure]) k
theorem own_atB {b e k : Nat} {l : List U8} {cap : Nat} {y : U8} (hm : bres b e l cap ∈ M) (hy : l[k]? = some y) : CellAt x H M (Addr.add ⟨b, 0, none⟩ (k * 1)) (.int .u8 y.n) := by
  have h := own_at (x := x) (H := H) hm (bcl_get (cap := cap) hy)
  rw [Addr.add_lit]
  simpa using h
/-- One byte is written. -/
theorem W_storeB {T E : TypeId} {y z : Operand} {b k cap : Nat} {l : List U8} {v : Int} {y0 : U8} (hg : gd ops L ⟨none, .store T y z, ty, pos, aft, g⟩ = some true)
    (hn : ∀ w, (sizeOf T).run x.P w = .ok 1 w) (hy : ev L y = some (.pointer (some (Addr.add ⟨b, 0, none⟩ (k * 1))))) (hz : ev L z = some (.int .u8 v)) (hk : l[k]? = some y0)
    (kk : W x ops Q rest H (bres b E (l.set k ⟨v⟩) cap :: M) L) :
    W x ops Q (⟨none, .store T y z, ty, pos, aft, g⟩ :: rest) H (bres b E l cap :: M) L :=
  W_skip rfl hg (fun a w hs ht => by
    have hkl := (List.getElem?_eq_some_iff.1 hk).1
    have hob : w.heap[b]? = some (.cells (bcl l cap).toArray E ((bcl l cap).length, (bcl l cap).length + 1)) := ht.obj_ok (List.mem_cons_self ..)
    have hlt : k < (bcl l cap).length := by simp [bcl]; omega
    have had : (Addr.add ⟨b, 0, none⟩ (k * 1) : Addr) = ⟨b, k, none⟩ := by rw [Addr.add_lit]; simp
    rw [had] at hy
    have hc : w.cell? ⟨b, k, none⟩ = some (bcl l cap)[k] := cell_of (w := w) (ad := ⟨b, k, none⟩) hob rfl (by simp [hlt])
    have hf : w.frozen? ⟨b, k, none⟩ = false := by
      simp [World.frozen?, hob]
      omega
    have hset : (bcl l cap).set k (.int .u8 v) = bcl (l.set k ⟨v⟩) cap := by
      unfold bcl
      rw [List.set_append_left _ _ (by simpa using hkl), List.map_set, List.length_set]
    have hlen : (bcl (l.set k ⟨v⟩) cap).length = (bcl l cap).length := by rw [← hset, List.length_set]
    have h' : (w.setCell ⟨b, k, none⟩ (.int .u8 v)).heap[b]? = some (.cells (bcl (l.set k ⟨v⟩) cap).toArray E ((bcl (l.set k ⟨v⟩) cap).length, (bcl (l.set k ⟨v⟩) cap).length + 1)) := by
      rw [hlen, ← hset]
      simp [World.setCell, Array.getElem?_modify, hob]
    have hgr : w.grownBy (w.setCell ⟨b, k, none⟩ (.int .u8 v)) (some b) := ⟨rfl, rfl, rfl, by simp [World.setCell], fun q hq hne => Below.heap_setCell _ _ _ _ (by intro e; subst e; exact hne rfl)⟩
    refine ⟨w.setCell ⟨b, k, none⟩ (.int .u8 v), ?_, H, _, ht.upd (r' := bres b E (l.set k ⟨v⟩) cap) hgr h' (fun c hc => .inl hc), kk⟩
    have hst : (Sem.store Mode.plain ⟨b, k, none⟩ (.int .u8 v) (Sem.pure ())).run x.P w = .ok () (w.setCell ⟨b, k, none⟩ (.int .u8 v)) := by
      simp [Sem.run, hc, hf]
    have hsc : (storeCells ⟨b, k, none⟩ [.int .u8 v] 0).run x.P w = .ok () (w.setCell ⟨b, k, none⟩ (.int .u8 v)) := by
      simp only [storeCells, Sem.run_bind, store, Addr.add_lit, Nat.add_zero, hst, Result.andThen_ok, Sem.run_pure]
    have hvc : (Value.int .u8 v).cells = #[.int .u8 v] := rfl
    simp [execOp, hs.ev hy, hs.ev hz, Instr.storeAt, Instr.sureAddr, storeVar, hn, hvc, hsc])
end
end Go.Sim
