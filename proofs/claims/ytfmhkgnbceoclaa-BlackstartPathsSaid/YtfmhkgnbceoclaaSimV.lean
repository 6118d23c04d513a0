/-
  What the contracts of Go's library are proved with.
-/
import Derived.Test.YtfmhkgnbceoclaaSimU
import Derived.Lib.AppendZeros
namespace Go.Sim
open Go Go.RowKit
set_option linter.unusedVariables false
set_option linter.unusedSimpArgs false
set_option linter.unusedSectionVars false
set_option linter.unnecessarySimpa false

theorem RdS.shape {α : Type} [Rep α] {H : Hp} {v : Value} {xs : List α} (h : RdS H v xs) : ∃ o n c, v = .slice o n c := by
  obtain ⟨a, c, rfl, _⟩ := h.len; exact ⟨_, _, _, rfl⟩
theorem RdS.isNil {α : Type} [Rep α] {H : Hp} {n c : Nat} {xs : List α} (h : RdS H (.slice none n c) xs) : xs = [] := by
  rcases h with ⟨_, h⟩ | ⟨b, off, cap, arr, T, fz, h, _⟩
  · exact h
  · cases h

/-- Nil just if empty. -/
def NilE {α : Type} (v : Value) (l : List α) : Prop := (∃ n c, v = .slice none n c ∧ l = []) ∨ (∃ a n c, v = .slice (some a) n c ∧ l ≠ [])
theorem NilE.nil {α : Type} : NilE (.slice none 0 0) ([] : List α) := .inl ⟨_, _, rfl, rfl⟩
theorem NilE.ofS {α : Type} [Rep α] {H : Hp} {v : Value} {xs : List α} (h : RdS H v xs) (hl : 0 < xs.length) : NilE v xs := by
  rcases h with ⟨_, h⟩ | ⟨b, off, cap, arr, T, fz, h, _⟩
  · subst h; simp at hl
  · exact .inr ⟨_, _, _, h, fun e => by subst e; simp at hl⟩

/-- append within the capacity. -/
theorem run_append_C {P : Program} {w : World} {t ty e : TypeId} {i : TypeInfo} {z : Value} {size : Nat} (ht : P.underlying t = some (.slice e)) (hi : P.info? e = some i) (hz : i.zero = some z)
    (hsize : i.size = size) (hzs : z.cells.size = size) (hsz : 0 < size)
    {v : Value} {n : Nat} {xs : List Value} (hown : OwnsR w e size v n xs)
    {a : Addr} {m c : Nat} {news : List Value} (hl : news.length = m * size) (hnews : ∀ j u, news[j]? = some u → w.cell? (a.add j) = some u) (h1 : ∀ u ∈ news, u.oneCell' = true)
    (hroom : n + m ≤ Value.cap' v) :
    ∃ v' w', (Builtin.append_ #[t, t] ty #[v, .slice (some a) m c]).run P w = .ok v' w' ∧ OwnsR w' e size v' (n + m) (xs ++ news) ∧ w.grownBy w' v.ownBlock ∧
      (∀ b, v'.ownBlock = some b → v.ownBlock = some b ∨ w.heap.size ≤ b) ∧ Value.cap' v' = Value.cap' v := by
  subst hsize
  have hlen : (xs ++ news).length = (n + m) * i.size := by rw [List.length_append, hown.1, hl, Nat.add_mul]
  rcases hown.2 with ⟨rfl, rfl⟩ | ⟨g, off, cap, cur, rfl, hg, hnc, hcm, hcs, htake⟩
  · have hx : xs = [] := List.eq_nil_of_length_eq_zero (by simpa using hown.1)
    subst hx
    have hm : m = 0 := by simp only [Value.cap'] at hroom; omega
    subst hm
    have hn : news = [] := List.eq_nil_of_length_eq_zero (by simpa using hl)
    subst hn
    refine ⟨.slice none 0 0, w, ?_, OwnsR.nil w e i.size, ⟨rfl, rfl, rfl, Nat.le_refl _, fun _ _ _ => rfl⟩, by simp [Value.ownBlock], rfl⟩
    simp [Builtin.append_, run_underlying ht, sizeOf, typeInfo, hi, Builtin.lenOf, Builtin.firstCells, loadCells, loadCellsFrom]
  · simp only [Value.cap'] at hroom
    have hfit : off + n * i.size + news.length ≤ cur.size := by
      have : (n + m) * i.size ≤ cap * i.size := Nat.mul_le_mul_right _ hroom
      rw [Nat.add_mul] at this
      omega
    have hf := run_firstCells_some (P := P) w i.size m a m c news hl hnews
    obtain ⟨w', hst, hh, hgr⟩ := run_storeCells_obj (P := P) g (off + n * i.size) e news 0 cur.toList w (by simpa using hg) (by simpa using hfit) h1
    refine ⟨.slice (some ⟨g, off, none⟩) (n + m) cap, w', ?_, ⟨hlen, .inr ⟨g, off, cap, _, rfl, hh, hroom, hcm, ?_, ?_⟩⟩, hgr, fun b hb => .inl hb, rfl⟩
    · simp [Builtin.append_, run_underlying ht, sizeOf, typeInfo, hi, Builtin.lenOf, hroom, hf, Addr.add_lit, hst]
    · simpa [over_length] using hcs
    · rw [List.toList_toArray, Nat.add_zero, over_eq _ _ _ (by simpa using hfit)]
      have hd : (cur.toList.take (off + n * i.size)).drop off = xs := by rw [List.drop_take, Nat.add_sub_cancel_left]; exact htake
      rw [List.append_assoc, List.drop_append_of_le_length (by simp; omega), hd, ← List.append_assoc, ← hlen]
      exact List.take_left

section
variable {x : Cx} {ops : Array Oper} {Q : Post} {rest : List Oper} {H : Hp} {M M' : List Res} {L L' : Env}
variable {d : Nat} {ty : TypeId} {pos : String} {aft : Array Edge} {g : Option (Nat × Bool)}

theorem W_capS {t e : TypeId} {y : Operand} {a : Option Addr} {m n : Nat} (hg : gd ops L ⟨some d, .call ⟨.builtin .cap, #[y], #[t]⟩, ty, pos, aft, g⟩ = some true) (hN : Nat.blt d x.N = true)
    (hT : ∀ w, (underlying t).run x.P w = .ok (.slice e) w) (hy : ev L y = some (.slice a m n)) (k : W x ops Q rest H M ((d, .int .i64 n) :: L)) :
    W x ops Q (⟨some d, .call ⟨.builtin .cap, #[y], #[t]⟩, ty, pos, aft, g⟩ :: rest) H M L :=
  W_pure rfl hg hN (fun c w hs ht => by simp [execOp, resolve, invoke, builtin, hs.ev hy, Builtin.cap_, hT, goInt]) k
theorem W_eqNilE {α : Type} {v : Value} {l : List α} {t e u : TypeId} {y z : Operand} (hg : gd ops L ⟨some d, .binOp .eql t y z u, ty, pos, aft, g⟩ = some true) (hN : Nat.blt d x.N = true)
    (hT : ∀ w, (underlying t).run x.P w = .ok (.slice e) w) (hy : ev L y = some v) (hz : ev L z = some (.slice none 0 0)) (hv : NilE v l)
    (k : W x ops Q rest H M ((d, .bool (l.isEmpty)) :: L)) :
    W x ops Q (⟨some d, .binOp .eql t y z u, ty, pos, aft, g⟩ :: rest) H M L := by
  rcases hv with ⟨n, c, rfl, rfl⟩ | ⟨a, n, c, rfl, hl⟩
  · exact W_eqNil hg hN hT hy hz k
  · refine W_eqNil hg hN hT hy hz ?_
    cases l with
    | nil => exact absurd rfl hl
    | cons _ _ => exact k
theorem W_neNilE {α : Type} {v : Value} {l : List α} {t e u : TypeId} {y z : Operand} (hg : gd ops L ⟨some d, .binOp .neq t y z u, ty, pos, aft, g⟩ = some true) (hN : Nat.blt d x.N = true)
    (hT : ∀ w, (underlying t).run x.P w = .ok (.slice e) w) (hy : ev L y = some v) (hz : ev L z = some (.slice none 0 0)) (hv : NilE v l)
    (k : W x ops Q rest H M ((d, .bool (!l.isEmpty)) :: L)) :
    W x ops Q (⟨some d, .binOp .neq t y z u, ty, pos, aft, g⟩ :: rest) H M L := by
  rcases hv with ⟨n, c, rfl, rfl⟩ | ⟨a, n, c, rfl, hl⟩
  · exact W_neNil hg hN hT hy hz k
  · refine W_neNil hg hN hT hy hz ?_
    cases l with
    | nil => exact absurd rfl hl
    | cons _ _ => exact k
theorem W_appendC {α : Type} [Rep α] {t e : TypeId} {bytes n : Nat} {z : Value} {y u : Operand} {v vu : Value} {xs : List Value} {l ys : List α}
    (hg : gd ops L ⟨some d, .call ⟨.builtin .append, #[y, u], #[t, t]⟩, ty, pos, aft, g⟩ = some true) (hN : Nat.blt d x.N = true)
    (hT : x.P.underlying t = some (.slice e)) (hi : TyI x.P e (Rep.sz α) bytes z) (hz : z.cells.size = Rep.sz α) (hs : Nat.blt 0 (Rep.sz α) = true)
    (hy : ev L y = some v) (hu : ev L u = some vu) (hx : Rw H v xs l) (hR : RdS H vu ys) (hb : l.length + ys.length ≤ Value.cap' v)
    (k : ∀ v' xs', Rw H v' xs' (l ++ ys) → Value.cap' v' = Value.cap' v → W x ops Q rest H (.row v' e (Rep.sz α) (l ++ ys).length xs' :: M) ((d, v') :: L)) :
    W x ops Q (⟨some d, .call ⟨.builtin .append, #[y, u], #[t, t]⟩, ty, pos, aft, g⟩ :: rest) H (.row v e (Rep.sz α) n xs :: M) L := by
  obtain ⟨i, h1, h2, h3, h4⟩ := hi.ex
  have hs' : 0 < Rep.sz α := by simpa [Nat.blt_eq] using hs
  refine W_run rfl hg hN fun a w hsl ht => ?_
  have hown : OwnsR w e (Rep.sz α) v n xs := ht.ok _ (List.mem_cons_self ..)
  have hn : n = l.length := by
    have := hx.rd.len
    rw [hown.1] at this
    exact Nat.eq_of_mul_eq_mul_right hs' this
  subst hn
  obtain ⟨cs, hcs, hcase⟩ := hR.flat
  rcases hcase with ⟨⟨ea, rfl⟩, rfl⟩ | ⟨hc, b, off, c, rfl⟩
  · have hcs' : cs = [] := hcs
    subst hcs'
    refine ⟨v, w, ?_, H, .row v e (Rep.sz α) (l ++ []).length xs :: M, by simpa using ht, k v xs (by simpa using hx) rfl⟩
    rcases hown.2 with ⟨rfl, h0⟩ | ⟨g, off, cap, cur, rfl, hg2, hnc, _⟩ <;> cases ea
    · simp [execOp, resolve, invoke, builtin, hsl.ev hy, hsl.ev hu, Builtin.append_, run_underlying hT, sizeOf, typeInfo, h1, Builtin.lenOf, Builtin.firstCells]
    · simp [execOp, resolve, invoke, builtin, hsl.ev hy, hsl.ev hu, Builtin.append_, run_underlying hT, sizeOf, typeInfo, h1, Builtin.lenOf, Builtin.firstCells, loadCells, loadCellsFrom]
    · simp [execOp, resolve, invoke, builtin, hsl.ev hy, hsl.ev hu, Builtin.append_, run_underlying hT, sizeOf, typeInfo, h1, Builtin.lenOf, Builtin.firstCells, storeCells, hnc]
    · simp [execOp, resolve, invoke, builtin, hsl.ev hy, hsl.ev hu, Builtin.append_, run_underlying hT, sizeOf, typeInfo, h1, Builtin.lenOf, Builtin.firstCells, storeCells, hnc, loadCells, loadCellsFrom]
  · obtain ⟨v', w', hr, ho, hgr, hfr, hcap⟩ := run_append_C (P := x.P) (ty := ty) hT h1 h4 h2 hz hs' hown (a := ⟨b, off, none⟩) (m := ys.length) (c := c) (news := cs) hcs.len
      (fun j u hu => ((hc j u hu).at (x := x) (M := .row v e (Rep.sz α) l.length xs :: M)) w ht) hcs.one hb
    refine ⟨v', w', ?_, H, .row v' e (Rep.sz α) (l ++ ys).length (xs ++ cs) :: M, by rw [List.length_append]; exact ht.upd (r' := .row v' e (Rep.sz α) (l.length + ys.length) (xs ++ cs)) hgr ho hfr, k v' _ ⟨hx.rd.app hcs, ho.shape⟩ hcap⟩
    simp [execOp, resolve, invoke, builtin, hsl.ev hy, hsl.ev hu, hr]
theorem W_sliceNil {t e : TypeId} {sz : Nat} {y z : Operand} {kk : IntKind} (hg : gd ops L ⟨some d, .slice t y none (some z) none, ty, pos, aft, g⟩ = some true) (hN : Nat.blt d x.N = true)
    (hT : ∀ w, (underlying t).run x.P w = .ok (.slice e) w) (hs : ∀ w, (sizeOf e).run x.P w = .ok sz w) (hy : ev L y = some (.slice none 0 0)) (hz : ev L z = some (.int kk 0))
    (k : W x ops Q rest H M ((d, .slice none 0 0) :: L)) :
    W x ops Q (⟨some d, .slice t y none (some z) none, ty, pos, aft, g⟩ :: rest) H M L :=
  W_pure rfl hg hN (fun c w hsl ht => by
    have hr := run_sliceAt (P := x.P) (w := w) (t := t) (e := e) (sz := sz) (len := 0) (cap := 0) (a := none) (lo := none) (hi := some (.int kk 0)) (mx := none) (l := 0) (h := 0) (m := 0) hT hs (.inl rfl) (.inl ⟨rfl, rfl⟩) (.inr ⟨kk, 0, rfl, by omega, by omega, rfl⟩) (.inl ⟨rfl, rfl⟩)
    simp only [Nat.sub_self, if_true] at hr
    simp only [execOp, hsl.ev hy, hsl.ev hz, Option.map_none, Option.map_some, Sem.run_bind, hr, Result.andThen_ok, Sem.run_pure]) k
theorem zero_rd {α : Type} [Rep α] {H : Hp} {zs : List Value} {ze : α} (hE : Rep.E H zs ze) (hzl : zs.length = Rep.sz α) : ∀ q, RdC H ((List.range (q * Rep.sz α)).map (zs.toArray[· % zs.length]!)) (List.replicate q ze) := by
  intro q
  induction q with
  | zero => rw [Nat.zero_mul]; exact rfl
  | succ q ih =>
    have hsplit : (List.range ((q + 1) * Rep.sz α)).map (zs.toArray[· % zs.length]!) = zs ++ (List.range (q * Rep.sz α)).map (zs.toArray[· % zs.length]!) := by
      apply List.ext_getElem?
      intro j
      rw [List.getElem?_append, List.getElem?_map]
      by_cases hj : j < zs.length
      · rw [if_pos hj, List.getElem?_range (by rw [Nat.add_mul]; omega)]
        simp [Nat.mod_eq_of_lt hj, hj]
      · rw [if_neg hj, List.getElem?_map]
        by_cases hj2 : j < (q + 1) * Rep.sz α
        · rw [List.getElem?_range hj2, List.getElem?_range (by rw [Nat.add_mul] at hj2; omega)]
          simp only [Option.map_some]
          rw [← Nat.mod_eq_sub_mod (by omega)]
        · rw [List.getElem?_eq_none (by simp; omega), List.getElem?_eq_none (by rw [Nat.add_mul] at hj2; simp; omega)]
    rw [hsplit]
    exact ⟨zs, _, rfl, hE, ih⟩
/-- 'append([]T(nil), make([]T, n)...)' -/
theorem W_growNil {α : Type} [Rep α] {t tn e : TypeId} {bytes : Nat} {z : Value} {zs : List Value} {ze : α} {y u : Operand} {kk : IntKind} {n : Int}
    (hg : gd ops L ⟨some d, .call ⟨.builtin .append, #[y, u], #[t, tn]⟩, ty, pos, aft, g⟩ = some true) (hN : Nat.blt d x.N = true)
    (hT : x.P.underlying t = some (.slice e)) (hTn : x.P.underlying tn = some (.int .i64)) (hi : TyI x.P e (Rep.sz α) bytes z) (hz : z.cells = zs.toArray) (hs : Nat.blt 0 (Rep.sz α) = true) (hb0 : Nat.blt 0 bytes = true)
    (hE : Rep.E (fun _ => none) zs ze) (hy : ev L y = some (.slice none 0 0)) (hu : ev L u = some (.int kk n)) (h0 : 0 < n) (hb : n * bytes ≤ 281474976710656)
    (k : ∀ v' xs' (l : List α), Rw H v' xs' l → l.length = n.toNat → n ≤ Value.cap' v' → W x ops Q rest H (.row v' e (Rep.sz α) l.length xs' :: M) ((d, v') :: L)) :
    W x ops Q (⟨some d, .call ⟨.builtin .append, #[y, u], #[t, tn]⟩, ty, pos, aft, g⟩ :: rest) H M L := by
  obtain ⟨i, h1, h2, h3, h4⟩ := hi.ex
  obtain ⟨m, rfl⟩ : ∃ m : Nat, n = m := ⟨n.toNat, by omega⟩
  have hs' : 0 < Rep.sz α := by simpa [Nat.blt_eq] using hs
  have hb0' : 0 < bytes := by simpa [Nat.blt_eq] using hb0
  have hm0 : 0 < m := by omega
  have hcast : ((m * bytes : Nat) : Int) = (m : Int) * (bytes : Int) := Int.natCast_mul m bytes
  have hbn : m * bytes ≤ 281474976710656 := by omega
  have hm : m ≤ m * bytes := Nat.le_mul_of_pos_right _ hb0'
  have hmax : m ≤ maxLen := by unfold maxLen; omega
  have hE' : Rep.E H zs ze := Rep.mono (fun _ _ h => by cases h) hE
  have hzl : zs.length = Rep.sz α := Rep.len hE
  have hrd := zero_rd hE' hzl m
  have hlr : (List.replicate m ze).length = m := List.length_replicate
  refine W_run rfl hg hN fun a w hsl ht => ?_
  have hr := Go.Lib.run_append_nil_zeros (P := x.P) w t tn ty e i z kk .i64 hT hTn h1 h4 m hm0 (by omega) (by omega) (by rw [h3]; omega)
  have hge := grownCap_ge w m 0 e
  have hcm : grownCap w m 0 e ≤ maxLen := grownCap_le_maxLen w m 0 e hmax
  have hcells : (Builtin.zeroCells z.cells m).toList = (List.range (m * Rep.sz α)).map (zs.toArray[· % zs.length]!) := by
    unfold Builtin.zeroCells
    rw [hz]
    simp [hzl]
  refine ⟨.slice (some ⟨w.heap.size, 0, none⟩) m (grownCap w m 0 e), w.drew.alloc (.cells (Builtin.zeroCells z.cells m ++ Builtin.zeroCells z.cells (grownCap w m 0 e - m)) e), ?_, H,
    .row (.slice (some ⟨w.heap.size, 0, none⟩) m (grownCap w m 0 e)) e (Rep.sz α) (List.replicate m ze).length (Builtin.zeroCells z.cells m).toList :: M,
    ht.add (r' := .row (.slice (some ⟨w.heap.size, 0, none⟩) m (grownCap w m 0 e)) e (Rep.sz α) (List.replicate m ze).length (Builtin.zeroCells z.cells m).toList) ?_ ?_ ?_, k _ _ (List.replicate m ze) ⟨by rw [hcells]; exact hrd, _, _, _, rfl⟩ (by rw [hlr]; rfl) (by simp only [Value.cap']; omega)⟩
  · simp [execOp, resolve, invoke, builtin, hsl.ev hy, hsl.ev hu, hr]
  · exact ⟨rfl, rfl, rfl, by simp, fun k hk _ => heap_alloc_old w.drew _ hk⟩
  · show OwnsR _ e (Rep.sz α) _ (List.replicate m ze).length _
    rw [hlr]
    have hlen : (Builtin.zeroCells z.cells m).toList.length = m * Rep.sz α := by rw [hcells]; simp
    refine ⟨hlen, .inr ⟨w.heap.size, 0, grownCap w m 0 e, _, rfl, heap_alloc_new w.drew _, hge, hcm, ?_, ?_⟩⟩
    · have hz2 : z.cells.size = Rep.sz α := by rw [hz]; simpa using hzl
      simp only [Array.size_append, size_zeroCells, hz2, Nat.zero_add, ← Nat.add_mul]
      rw [show m + (grownCap w m 0 e - m) = grownCap w m 0 e from by omega]
      exact Nat.le_refl _
    · rw [List.drop_zero, Array.toList_append, ← hlen]
      exact List.take_left
  · intro b hb'
    simp only [Res.foot, Value.ownBlock, Option.some.injEq] at hb'
    omega
end
end Go.Sim
