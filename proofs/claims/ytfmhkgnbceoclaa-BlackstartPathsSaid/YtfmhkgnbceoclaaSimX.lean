/-
  Parts of a row as values; cells that are lent as they are; what slices.Delete and slices.Repeat need.
-/
import Derived.Test.YtfmhkgnbceoclaaSimV
import Derived.Lib.Bytealg
import Derived.Laws.Externs
namespace Go.Sim
open Go Go.RowKit
set_option linter.unusedVariables false
set_option linter.unusedSimpArgs false
set_option linter.unusedSectionVars false
set_option linter.unnecessarySimpa false

/-- A slice whose cells are known. -/
def SlC (H : Hp) (v : Value) (n sz : Nat) (xs : List Value) : Prop :=
  xs.length = n * sz ∧ (∀ u ∈ xs, u.oneCell' = true) ∧
  (((∃ a, v = .slice a 0 0) ∧ n = 0) ∨ ∃ b off cap arr T fz, v = .slice (some ⟨b, off, none⟩) n cap ∧ H b = some (.cells arr T fz) ∧ ∀ j u, xs[j]? = some u → arr[off + j]? = some u)
theorem SlC.shape {H : Hp} {v : Value} {n sz : Nat} {xs : List Value} (h : SlC H v n sz xs) : ∃ o c, v = .slice o n c := by
  rcases h.2.2 with ⟨⟨a, rfl⟩, rfl⟩ | ⟨b, off, cap, arr, T, fz, rfl, _⟩ <;> exact ⟨_, _, rfl⟩
theorem SlC.isNil {H : Hp} {n m c sz : Nat} {xs : List Value} (h : SlC H (.slice none m c) n sz xs) : n = 0 ∧ xs = [] := by
  rcases h.2.2 with ⟨_, h0⟩ | ⟨b, off, cap, arr, T, fz, h0, _⟩
  · subst h0; exact ⟨rfl, List.eq_nil_of_length_eq_zero (by rw [h.1, Nat.zero_mul])⟩
  · cases h0

section
variable {B : Nat} {w0 w : World} {H : Hp} {M : List Res}
/-- An owned row is lent: its cells are known, and it comes back. -/
theorem St.lendRowC {α : Type} [Rep α] {v : Value} {T : TypeId} {n : Nat} {xs : List Value} {ys : List α}
    (h : St B w0 H (.row v T (Rep.sz α) n xs :: M) w) (hx : Rw H v xs ys) (hs : Nat.blt 0 (Rep.sz α) = true) :
    ∃ H', H.le H' ∧ St B w0 H' M w ∧ SlC H' v ys.length (Rep.sz α) xs ∧ ∀ M' w', St B w0 H' M' w' → St B w0 H (.row v T (Rep.sz α) n xs :: M') w' := by
  have hs' : 0 < Rep.sz α := by simpa [Nat.blt_eq] using hs
  have hok := h.ok _ (List.mem_cons_self ..)
  have hone := hx.rd.one
  obtain ⟨H', h1, h2, h3, h4⟩ := h.lendRow hx hs
  obtain ⟨hl, hh⟩ := hok
  have hn : n = ys.length := by
    have := hx.rd.len
    rw [hl] at this
    exact Nat.eq_of_mul_eq_mul_right hs' this
  subst hn
  refine ⟨H', h1, h2, ⟨hl, hone, ?_⟩, h4⟩
  rcases hh with ⟨rfl, h0⟩ | ⟨g, off, cap, cur, rfl, hg, hnc, hcm, hcs, htake⟩
  · exact .inl ⟨⟨_, rfl⟩, h0⟩
  · rcases h3 with ⟨⟨a, he⟩, he2⟩ | ⟨b, off', cap', arr, T', fz, he, _, _, hH, _⟩
    · exact .inl ⟨⟨a, he⟩, by injection he⟩
    · cases he
      refine .inr ⟨g, off, cap, arr, T', fz, rfl, hH, fun j u hu => ?_⟩
      have e := h2.hin _ _ hH
      rw [hg] at e
      cases e
      rw [← htake, List.getElem?_take] at hu
      split at hu
      · rw [List.getElem?_drop] at hu; simpa using hu
      · cases hu
end

section
variable {x : Cx} {ops : Array Oper} {Q : Post} {rest : List Oper} {H : Hp} {M M' : List Res} {L L' : Env}
variable {d : Nat} {ty : TypeId} {pos : String} {aft : Array Edge} {g : Option (Nat × Bool)}

/-- A step whose value is let go. -/
theorem W_letgo {o : Oper} (hd : o.dst = none) (hg : gd ops L o = some true)
    (hrun : ∀ a w, Sl x.N L a → St x.B x.w0 H M w → ∃ v w', (execOp a.eval o).run x.P w = .ok (.value v) w' ∧ ∃ H' M', St x.B x.w0 H' M' w' ∧ W x ops Q rest H' M' L) :
    W x ops Q (o :: rest) H M L := by
  intro a w hs ht
  obtain ⟨v, w', hr, H', M', ht', k⟩ := hrun a w hs ht
  refine wpList_step fun K hK => ?_
  rw [if_pos (hs.gd hg)]
  unfold Oper.wp
  rw [hr]
  simp only [Oper.upon, hd]
  exact hK _ _ (k _ _ hs ht')

/-- 'append(out, xs...)', of cells that are known. -/
theorem W_appendRaw {t e : TypeId} {sz bytes n m : Nat} {z : Value} {y u : Operand} {v vu : Value} {xs news : List Value}
    (hg : gd ops L ⟨some d, .call ⟨.builtin .append, #[y, u], #[t, t]⟩, ty, pos, aft, g⟩ = some true) (hN : Nat.blt d x.N = true)
    (hT : x.P.underlying t = some (.slice e)) (hi : TyI x.P e sz bytes z) (hz : z.cells.size = sz) (hs : Nat.blt 0 sz = true) (hb0 : Nat.blt 0 bytes = true)
    (hy : ev L y = some v) (hu : ev L u = some vu) (hR : SlC H vu m sz news) (hb : (n + m) * bytes ≤ 140737488355328)
    (k : ∀ v', (∃ a n c, v' = .slice a n c) → W x ops Q rest H (.row v' e sz (n + m) (xs ++ news) :: M) ((d, v') :: L)) :
    W x ops Q (⟨some d, .call ⟨.builtin .append, #[y, u], #[t, t]⟩, ty, pos, aft, g⟩ :: rest) H (.row v e sz n xs :: M) L := by
  obtain ⟨i, h1, h2, h3, h4⟩ := hi.ex
  have hs' : 0 < sz := by simpa [Nat.blt_eq] using hs
  have hb0' : 0 < bytes := by simpa [Nat.blt_eq] using hb0
  have hmax : n + m ≤ maxLen := by
    have : n + m ≤ (n + m) * bytes := Nat.le_mul_of_pos_right _ hb0'
    unfold maxLen; omega
  refine W_run rfl hg hN fun a w hsl ht => ?_
  have hown : OwnsR w e sz v n xs := ht.ok _ (List.mem_cons_self ..)
  obtain ⟨hl, hone, hc⟩ := hR
  rcases hc with ⟨⟨ea, rfl⟩, rfl⟩ | ⟨b, off, c, arr, T, fz, rfl, hH, hcell⟩
  · have hn0 : news = [] := List.eq_nil_of_length_eq_zero (by rw [hl, Nat.zero_mul])
    subst hn0
    refine ⟨v, w, ?_, H, .row v e sz (n + 0) (xs ++ []) :: M, by simpa using ht, k v hown.shape⟩
    rcases hown.2 with ⟨rfl, h0⟩ | ⟨g, off, cap, cur, rfl, hg2, hnc, _⟩ <;> cases ea
    · simp [execOp, resolve, invoke, builtin, hsl.ev hy, hsl.ev hu, Builtin.append_, run_underlying hT, sizeOf, typeInfo, h1, Builtin.lenOf, Builtin.firstCells]
    · simp [execOp, resolve, invoke, builtin, hsl.ev hy, hsl.ev hu, Builtin.append_, run_underlying hT, sizeOf, typeInfo, h1, Builtin.lenOf, Builtin.firstCells, loadCells, loadCellsFrom]
    · simp [execOp, resolve, invoke, builtin, hsl.ev hy, hsl.ev hu, Builtin.append_, run_underlying hT, sizeOf, typeInfo, h1, Builtin.lenOf, Builtin.firstCells, storeCells, hnc]
    · simp [execOp, resolve, invoke, builtin, hsl.ev hy, hsl.ev hu, Builtin.append_, run_underlying hT, sizeOf, typeInfo, h1, Builtin.lenOf, Builtin.firstCells, storeCells, hnc, loadCells, loadCellsFrom]
  · obtain ⟨v', w', hr, ho, hgr, hfr⟩ := run_append_R (P := x.P) (ty := ty) hT h1 h4 h2 h3 hz hs' hown (a := ⟨b, off, none⟩) (m := m) (c := c) (news := news) hl
      (fun j u hu => by rw [Addr.add_lit]; exact cell_of (ht.hin _ _ hH) rfl (hcell j u hu)) hone hmax hb
    refine ⟨v', w', ?_, H, _, ht.upd (r' := .row v' e sz (n + m) (xs ++ news)) hgr ho hfr, k v' ho.shape⟩
    simp [execOp, resolve, invoke, builtin, hsl.ev hy, hsl.ev hu, hr]

/-- A part of a slice, as a value. -/
theorem W_sliceV {t e : TypeId} {sz len cap l h m : Nat} {y : Operand} {lo hi mx : Option Operand} {ad : Option Addr}
    (hg : gd ops L ⟨some d, .slice t y lo hi mx, ty, pos, aft, g⟩ = some true) (hN : Nat.blt d x.N = true)
    (hT : ∀ w, (underlying t).run x.P w = .ok (.slice e) w) (hs : ∀ w, (sizeOf e).run x.P w = .ok sz w) (hy : ev L y = some (.slice ad len cap)) (hmh : mx = none ∨ ∃ o, hi = some o)
    (hm : BdO L mx cap cap m) (hh : BdO L hi len m h) (hl : BdO L lo 0 h l)
    {v' : Value} (hv : Value.slice (if m = l then ad else ad.map (·.add (l * sz))) (h - l) (m - l) = v')
    (k : W x ops Q rest H M ((d, v') :: L)) :
    W x ops Q (⟨some d, .slice t y lo hi mx, ty, pos, aft, g⟩ :: rest) H M L :=
  W_pure rfl hg hN (fun c w hsl ht => by
    rw [← hv]
    simp only [execOp, hsl.ev hy, Sem.run_bind, run_sliceAt hT hs (mx_hi hmh) (hm.bd hsl) (hh.bd hsl) (hl.bd hsl), Result.andThen_ok, Sem.run_pure]) k

/-- 'append(s[:i], s[j:]...)' -/
theorem W_appendDel {α : Type} [Rep α] {H0 : Hp} {t e : TypeId} {bytes n i j gb off cap cu : Nat} {z : Value} {y u : Operand} {xs : List Value} {l : List α} {bu : Addr}
    (hg : gd ops L ⟨some d, .call ⟨.builtin .append, #[y, u], #[t, t]⟩, ty, pos, aft, g⟩ = some true) (hN : Nat.blt d x.N = true)
    (hT : x.P.underlying t = some (.slice e)) (hi : TyI x.P e (Rep.sz α) bytes z) (hz : z.cells.size = Rep.sz α) (hs : Nat.blt 0 (Rep.sz α) = true)
    (hx : Rw H0 (.slice (some ⟨gb, off, none⟩) l.length cap) xs l) (hij : i < j) (hj : j ≤ l.length)
    (hy : ev L y = some (.slice (some ⟨gb, off, none⟩) i cap)) (hu : ev L u = some (.slice (some bu) (l.length - j) cu)) (hbu : j < l.length → bu = ⟨gb, off + j * Rep.sz α, none⟩)
    (k : ∀ gb' off' xs', Rw H0 (.slice (some ⟨gb', off', none⟩) (l.take i ++ l.drop j).length cap) xs' (l.take i ++ l.drop j) → l.length ≤ cap →
      W x ops Q rest H (.row (.slice (some ⟨gb', off', none⟩) (l.take i ++ l.drop j).length cap) e (Rep.sz α) (l.take i ++ l.drop j).length xs' :: M) ((d, .slice (some ⟨gb', off', none⟩) (l.take i ++ l.drop j).length cap) :: L)) :
    W x ops Q (⟨some d, .call ⟨.builtin .append, #[y, u], #[t, t]⟩, ty, pos, aft, g⟩ :: rest) H (.row (.slice (some ⟨gb, off, none⟩) l.length cap) e (Rep.sz α) n xs :: M) L := by
  obtain ⟨inf, h1, h2, h3, h4⟩ := hi.ex
  have hs' : 0 < Rep.sz α := by simpa [Nat.blt_eq] using hs
  refine W_run rfl hg hN fun a w hsl ht => ?_
  have hown : OwnsR w e (Rep.sz α) (.slice (some ⟨gb, off, none⟩) l.length cap) n xs := ht.ok _ (List.mem_cons_self ..)
  have hlen := hx.rd.len
  have hone := hx.rd.one
  rcases hown.2 with ⟨h0, _⟩ | ⟨gb2, off2, cap2, cur, he, hgb, hnc, hcm, hcs, htake⟩
  · cases h0
  cases he
  have hmi : i * Rep.sz α ≤ l.length * Rep.sz α := Nat.mul_le_mul_right _ (by omega)
  have hmj : j * Rep.sz α ≤ l.length * Rep.sz α := Nat.mul_le_mul_right _ hj
  have hown' : OwnsR w e (Rep.sz α) (.slice (some ⟨gb, off, none⟩) i cap) i (xs.take (i * Rep.sz α)) := by
    refine ⟨by rw [List.length_take, hlen]; omega, .inr ⟨gb, off, cap, cur, rfl, hgb, by omega, hcm, hcs, ?_⟩⟩
    rw [← htake, List.take_take, Nat.min_eq_left hmi]
  have hl2 : (xs.drop (j * Rep.sz α)).length = (l.length - j) * Rep.sz α := by rw [List.length_drop, hlen, Nat.sub_mul]
  have hcell : ∀ q u, (xs.drop (j * Rep.sz α))[q]? = some u → w.cell? (bu.add q) = some u := by
    intro q u hq
    have hjl : j < l.length := by
      by_cases h : j < l.length
      · exact h
      · have : l.length - j = 0 := by omega
        have hnil : xs.drop (j * Rep.sz α) = [] := List.eq_nil_of_length_eq_zero (by rw [hl2, this, Nat.zero_mul])
        rw [hnil] at hq
        cases hq
    rw [hbu hjl, Addr.add_lit]
    refine cell_of hgb rfl ?_
    rw [List.getElem?_drop, ← htake, List.getElem?_take] at hq
    split at hq
    · rw [List.getElem?_drop] at hq
      simpa [Nat.add_assoc] using hq
    · cases hq
  obtain ⟨v', w', hr, ho, hgr, hfr, hcap⟩ := run_append_C (P := x.P) (ty := ty) hT h1 h4 h2 hz hs' hown' (a := bu) (m := l.length - j) (c := cu) (news := xs.drop (j * Rep.sz α)) hl2 hcell
    (fun u hu => hone u (List.mem_of_mem_drop hu)) (by simp only [Value.cap']; omega)
  have hln : (l.take i ++ l.drop j).length = i + (l.length - j) := by simp; omega
  obtain ⟨rfl, _⟩ | ⟨gb', off', cap', cur', rfl, hgb', hnc', hcm', hcs', htake'⟩ := ho.2
  · simp only [Value.cap'] at hcap
    omega
  · simp only [Value.cap'] at hcap
    subst hcap
    refine ⟨.slice (some ⟨gb', off', none⟩) (l.take i ++ l.drop j).length cap', w', ?_, H,
      .row (.slice (some ⟨gb', off', none⟩) (l.take i ++ l.drop j).length cap') e (Rep.sz α) (l.take i ++ l.drop j).length (xs.take (i * Rep.sz α) ++ xs.drop (j * Rep.sz α)) :: M, ?_, k gb' off' _ ⟨?_, _, _, _, rfl⟩ hnc⟩
    · rw [hln]
      simp [execOp, resolve, invoke, builtin, hsl.ev hy, hsl.ev hu, hr]
    · rw [hln]
      exact ht.upd (r' := .row (.slice (some ⟨gb', off', none⟩) (i + (l.length - j)) cap') e (Rep.sz α) (i + (l.length - j)) (xs.take (i * Rep.sz α) ++ xs.drop (j * Rep.sz α))) hgr ho hfr
    · exact (hx.rd.split i).1.app (hx.rd.split j).2

theorem zeroCells_one {zs : List Value} (h : ∀ u ∈ zs, u.oneCell' = true) (h0 : 0 < zs.length) (n : Nat) : ∀ u ∈ (Builtin.zeroCells zs.toArray n).toList, u.oneCell' = true := by
  intro u hu
  unfold Builtin.zeroCells at hu
  simp only [Array.toList_map, List.size_toArray, Array.toList_range, List.mem_map] at hu
  obtain ⟨q, _, rfl⟩ := hu
  have hlt : q % zs.length < zs.length := Nat.mod_lt _ h0
  have : zs.toArray[q % zs.length]! = zs[q % zs.length] := by simp [hlt]
  rw [this]
  exact h _ (List.getElem_mem _)

/-- 'clear(s[len(s):n])', behind a row's end. -/
theorem W_clearTail {t e : TypeId} {sz m n2 c2 n gb off cap : Nat} {y : Operand} {z : Value} {zs xs : List Value}
    (hg : gd ops L ⟨none, .call ⟨.builtin .clear, #[y], #[t]⟩, ty, pos, aft, g⟩ = some true)
    (hT : x.P.underlying t = some (.slice e)) (hz : ∀ w, (zeroValue e).run x.P w = .ok z w) (hzs : z.cells = zs.toArray) (hzl : zs.length = sz) (h1 : zs.all Value.oneCell' = true) (hs : Nat.blt 0 sz = true)
    (hy : ev L y = some (.slice (some ⟨gb, off + m * sz, none⟩) n2 c2)) (hc : m + n2 ≤ cap)
    (k : W x ops Q rest H (.row (.slice (some ⟨gb, off, none⟩) m cap) e sz n xs :: M) L) :
    W x ops Q (⟨none, .call ⟨.builtin .clear, #[y], #[t]⟩, ty, pos, aft, g⟩ :: rest) H (.row (.slice (some ⟨gb, off, none⟩) m cap) e sz n xs :: M) L := by
  have hs' : 0 < sz := by simpa [Nat.blt_eq] using hs
  refine W_letgo rfl hg fun a w hsl ht => ?_
  have hown : OwnsR w e sz (.slice (some ⟨gb, off, none⟩) m cap) n xs := ht.ok _ (List.mem_cons_self ..)
  rcases hown.2 with ⟨h0, _⟩ | ⟨gb2, off2, cap2, cur, he, hgb, hnc, hcm, hcs, htake⟩
  · cases h0
  cases he
  cases n2 with
  | zero =>
    refine ⟨.tuple #[], w, ?_, H, _, ht, k⟩
    simp [execOp, resolve, invoke, builtin, hsl.ev hy, Builtin.clear_, run_underlying hT]
  | succ q =>
    have hzlen : (Builtin.zeroCells z.cells (q + 1)).toList.length = (q + 1) * sz := by
      unfold Builtin.zeroCells; rw [hzs]; simp [hzl]
    have hmul : (m + (q + 1)) * sz ≤ cap * sz := Nat.mul_le_mul_right _ hc
    rw [Nat.add_mul] at hmul
    have hone : ∀ u ∈ (Builtin.zeroCells z.cells (q + 1)).toList, u.oneCell' = true := by
      rw [hzs]; exact zeroCells_one (fun u hu => List.all_eq_true.1 h1 u hu) (by omega) _
    obtain ⟨w', hst, hh, hgr⟩ := run_storeCells_obj (P := x.P) gb (off + m * sz) e (Builtin.zeroCells z.cells (q + 1)).toList 0 cur.toList w (by simpa using hgb) (by rw [hzlen]; simp; omega) hone
    refine ⟨.tuple #[], w', ?_, H, _, ht.upd (r' := .row (.slice (some ⟨gb, off, none⟩) m cap) e sz m xs) hgr ⟨hown.1, .inr ⟨gb, off, cap, _, rfl, hh, hnc, hcm, ?_, ?_⟩⟩ (fun b hb => .inl hb), k⟩
    · simp [execOp, resolve, invoke, builtin, hsl.ev hy, Builtin.clear_, run_underlying hT, hz, hst]
    · simpa [over_length] using hcs
    · rw [List.toList_toArray, Nat.add_zero, over_eq _ _ _ (by rw [hzlen]; simp; omega)]
      have hd : (cur.toList.take (off + m * sz)).drop off = xs := by rw [List.drop_take, Nat.add_sub_cancel_left]; exact htake
      rw [List.append_assoc, List.drop_append_of_le_length (by simp; omega), hd, ← hown.1]
      exact List.take_left
end
/-! ### copy -/
/-- copy into an owned row. -/
theorem run_copy {P : Program} {w : World} {t tu ty e : TypeId} {sz n gb off cap a dl dc sl sc : Nat} {b : Addr} {xs news : List Value} (hT : P.underlying t = some (.slice e)) (hs : ∀ w, (sizeOf e).run P w = .ok sz w)
    (hown : OwnsR w e sz (.slice (some ⟨gb, off, none⟩) n cap) n xs) (ha : a + dl ≤ n)
    (hl : news.length = min sl dl * sz) (hnews : ∀ j u, news[j]? = some u → w.cell? (b.add j) = some u) (h1 : ∀ u ∈ news, u.oneCell' = true) :
    ∃ w', (Builtin.copy_ #[t, tu] ty #[.slice (some ⟨gb, off + a * sz, none⟩) dl dc, .slice (some b) sl sc]).run P w = .ok (.int .i64 (min sl dl : Nat)) w' ∧
      OwnsR w' e sz (.slice (some ⟨gb, off, none⟩) n cap) n (xs.take (a * sz) ++ news ++ xs.drop ((a + min sl dl) * sz)) ∧ w.grownBy w' (some gb) := by
  rcases hown.2 with ⟨h0, _⟩ | ⟨gb2, off2, cap2, cur, he, hgb, hnc, hcm, hcs, htake⟩
  · cases h0
  cases he
  have hxl : xs.length = n * sz := hown.1
  have hm : (a + min sl dl) * sz ≤ n * sz := Nat.mul_le_mul_right _ (by omega)
  have hmc : n * sz ≤ cap * sz := Nat.mul_le_mul_right _ hnc
  have hadd : (a + min sl dl) * sz = a * sz + min sl dl * sz := Nat.add_mul ..
  have hf := run_firstCells_some (P := P) w sz (min sl dl) b sl sc news hl hnews
  obtain ⟨w', hst, hh, hgr⟩ := run_storeCells_obj (P := P) gb (off + a * sz) e news 0 cur.toList w (by simpa using hgb) (by simp; omega) h1
  refine ⟨w', ?_, ⟨?_, .inr ⟨gb, off, cap, _, rfl, hh, hnc, hcm, ?_, ?_⟩⟩, hgr⟩
  · simp [Builtin.copy_, run_underlying hT, hs, Builtin.lenOf, hf, hst, goInt]
  · simp only [List.length_append, List.length_take, List.length_drop, hl, hxl]; omega
  · simpa [over_length] using hcs
  · rw [List.toList_toArray, Nat.add_zero, over_eq _ _ _ (by simp; omega)]
    have hx1 : xs.take (a * sz) = (cur.toList.take (off + a * sz)).drop off := by
      rw [← htake, List.take_take, Nat.min_eq_left (by omega), List.drop_take, Nat.add_sub_cancel_left]
    have hx2 : xs.drop ((a + min sl dl) * sz) = (cur.toList.drop (off + a * sz + news.length)).take (n * sz - (a + min sl dl) * sz) := by
      rw [← htake, List.drop_take, List.drop_drop]; congr 2; omega
    rw [hx1, hx2, List.append_assoc, List.drop_append_of_le_length (by simp; omega), ← List.append_assoc]
    have hlen : ((cur.toList.take (off + a * sz)).drop off ++ news).length = a * sz + min sl dl * sz := by
      rw [List.length_append, List.length_drop, List.length_take, hl]; simp; omega
    have e : n * sz = ((cur.toList.take (off + a * sz)).drop off ++ news).length + (n * sz - (a + min sl dl) * sz) := by rw [hlen]; omega
    conv => lhs; rw [e]
    rw [List.take_length_add_append]

section
variable {x : Cx} {ops : Array Oper} {Q : Post} {rest : List Oper} {H : Hp} {M M' : List Res} {L L' : Env}
variable {d : Nat} {ty : TypeId} {pos : String} {aft : Array Edge} {g : Option (Nat × Bool)}

theorem C_rowSome {c : Code} {v : Value} {e : TypeId} {sz n : Nat} {xs : List Value} (h0 : 0 < n)
    (k : ∀ gb off cap, v = .slice (some ⟨gb, off, none⟩) n cap → n ≤ cap → Go.Sim.C x c Q H (.row v e sz n xs :: M) L) : Go.Sim.C x c Q H (.row v e sz n xs :: M) L := by
  intro a w hs ht
  have hok : OwnsR w e sz v n xs := ht.ok _ (List.mem_cons_self ..)
  rcases hok.2 with ⟨_, h⟩ | ⟨gb, off, cap, cur, he, _, hnc, _⟩
  · omega
  · exact k gb off cap he hnc a w hs ht
theorem W_rowSome {v : Value} {e : TypeId} {sz n : Nat} {xs : List Value} (h0 : 0 < n)
    (k : ∀ gb off cap, v = .slice (some ⟨gb, off, none⟩) n cap → n ≤ cap → W x ops Q rest H (.row v e sz n xs :: M) L) : W x ops Q rest H (.row v e sz n xs :: M) L := by
  intro a w hs ht
  have hok : OwnsR w e sz v n xs := ht.ok _ (List.mem_cons_self ..)
  rcases hok.2 with ⟨_, h⟩ | ⟨gb, off, cap, cur, he, _, hnc, _⟩
  · omega
  · exact k gb off cap he hnc a w hs ht

/-- 'copy(out, xs)': out is owned; xs only is read, and is not empty. -/
theorem W_copyR {α : Type} [Rep α] {t tu e : TypeId} {y u : Operand} {v vu : Value} {xs : List Value} {l ys : List α}
    (hg : gd ops L ⟨some d, .call ⟨.builtin .copy, #[y, u], #[t, tu]⟩, ty, pos, aft, g⟩ = some true) (hN : Nat.blt d x.N = true)
    (hT : x.P.underlying t = some (.slice e)) (hsz : ∀ w, (sizeOf e).run x.P w = .ok (Rep.sz α) w) (hs : Nat.blt 0 (Rep.sz α) = true)
    (hy : ev L y = some v) (hu : ev L u = some vu) (hx : Rw H v xs l) (hR : RdS H vu ys) (h0 : 0 < ys.length)
    (k : ∀ xs', Rw H v xs' (ys.take (min ys.length l.length) ++ l.drop (min ys.length l.length)) → W x ops Q rest H (.row v e (Rep.sz α) l.length xs' :: M) ((d, .int .i64 (min ys.length l.length : Nat)) :: L)) :
    W x ops Q (⟨some d, .call ⟨.builtin .copy, #[y, u], #[t, tu]⟩, ty, pos, aft, g⟩ :: rest) H (.row v e (Rep.sz α) l.length xs :: M) L := by
  refine W_run rfl hg hN fun a w hsl ht => ?_
  have hown : OwnsR w e (Rep.sz α) v l.length xs := ht.ok _ (List.mem_cons_self ..)
  obtain ⟨cs, hcs, hcase⟩ := hR.flat
  rcases hcase with ⟨_, rfl⟩ | ⟨hc, b, off2, c, rfl⟩
  · simp at h0
  by_cases hl0 : l.length = 0
  · have hm0 : min ys.length l.length = 0 := by omega
    refine ⟨.int .i64 (min ys.length l.length : Nat), w, ?_, H, _, ht, k xs (by rw [hm0]; simpa using hx)⟩
    have hf : (Builtin.firstCells (Rep.sz α) 0 (.slice (some ⟨b, off2, none⟩) ys.length c)).run x.P w = .ok #[] w :=
      run_firstCells_some (P := x.P) w (Rep.sz α) 0 ⟨b, off2, none⟩ ys.length c [] (by simp) (by simp)
    rw [hm0]
    rcases hown.2 with ⟨rfl, _⟩ | ⟨gb, off, cap, cur, rfl, _⟩
    · simp [execOp, resolve, invoke, builtin, hsl.ev hy, hsl.ev hu, Builtin.copy_, run_underlying hT, hsz, Builtin.lenOf, hf, goInt]
    · simp [execOp, resolve, invoke, builtin, hsl.ev hy, hsl.ev hu, Builtin.copy_, run_underlying hT, hsz, Builtin.lenOf, hf, goInt, hl0, storeCells]
  rcases hown.2 with ⟨_, h⟩ | ⟨gb, off, cap, cur, rfl, _⟩
  · exact absurd h hl0
  obtain ⟨w', hr, ho, hgr⟩ := run_copy (P := x.P) (tu := tu) (ty := ty) (a := 0) (dl := l.length) (dc := cap) (b := ⟨b, off2, none⟩) (sl := ys.length) (sc := c) (news := cs.take (min ys.length l.length * Rep.sz α)) hT hsz hown (by omega)
    (by rw [List.length_take, hcs.len]; exact Nat.min_eq_left (Nat.mul_le_mul_right _ (by omega)))
    (fun j u hu => by
      rw [List.getElem?_take] at hu
      split at hu
      · exact ((hc j u hu).at (x := x) (M := .row (.slice (some ⟨gb, off, none⟩) l.length cap) e (Rep.sz α) l.length xs :: M)) w ht
      · cases hu) (fun u hu => hcs.one u (List.mem_of_mem_take hu))
  rw [Nat.zero_mul, List.take_zero, List.nil_append, Nat.zero_add] at ho
  rw [Nat.zero_mul, Nat.add_zero] at hr
  refine ⟨.int .i64 (min ys.length l.length : Nat), w', ?_, H, _, ht.upd (r' := .row (.slice (some ⟨gb, off, none⟩) l.length cap) e (Rep.sz α) l.length _) hgr ho (fun b hb => .inl hb), k _ ⟨(hcs.split _).1.app (hx.rd.split _).2, _, _, _, rfl⟩⟩
  simp [execOp, resolve, invoke, builtin, hsl.ev hy, hsl.ev hu, hr]

/-- 'copy(s[k:], s[:k])' -/
theorem W_copySelf {α : Type} [Rep α] {t tu e : TypeId} {gb off cap q dc sc : Nat} {y u : Operand} {xs : List Value} {l : List α}
    (hg : gd ops L ⟨some d, .call ⟨.builtin .copy, #[y, u], #[t, tu]⟩, ty, pos, aft, g⟩ = some true) (hN : Nat.blt d x.N = true)
    (hT : x.P.underlying t = some (.slice e)) (hsz : ∀ w, (sizeOf e).run x.P w = .ok (Rep.sz α) w) (hs : Nat.blt 0 (Rep.sz α) = true)
    (hx : Rw H (.slice (some ⟨gb, off, none⟩) l.length cap) xs l) (hq : q ≤ l.length)
    (hy : ev L y = some (.slice (some ⟨gb, off + q * Rep.sz α, none⟩) (l.length - q) dc)) (hu : ev L u = some (.slice (some ⟨gb, off, none⟩) q sc))
    (k : ∀ xs', Rw H (.slice (some ⟨gb, off, none⟩) l.length cap) xs' (l.take q ++ l.take (min q (l.length - q)) ++ l.drop (q + min q (l.length - q))) →
      W x ops Q rest H (.row (.slice (some ⟨gb, off, none⟩) l.length cap) e (Rep.sz α) l.length xs' :: M) ((d, .int .i64 (min q (l.length - q) : Nat)) :: L)) :
    W x ops Q (⟨some d, .call ⟨.builtin .copy, #[y, u], #[t, tu]⟩, ty, pos, aft, g⟩ :: rest) H (.row (.slice (some ⟨gb, off, none⟩) l.length cap) e (Rep.sz α) l.length xs :: M) L := by
  refine W_run rfl hg hN fun a w hsl ht => ?_
  have hown : OwnsR w e (Rep.sz α) (.slice (some ⟨gb, off, none⟩) l.length cap) l.length xs := ht.ok _ (List.mem_cons_self ..)
  have hlen := hx.rd.len
  have hone := hx.rd.one
  have hmm : min q (l.length - q) * Rep.sz α ≤ l.length * Rep.sz α := Nat.mul_le_mul_right _ (by omega)
  have hcell : ∀ j u, (xs.take (min q (l.length - q) * Rep.sz α))[j]? = some u → w.cell? ((⟨gb, off, none⟩ : Addr).add j) = some u := by
    intro j u hj
    rcases hown.2 with ⟨h0, _⟩ | ⟨gb2, off2, cap2, cur, he, hgb, hnc, hcm, hcs, htake⟩
    · cases h0
    cases he
    rw [Addr.add_lit]
    refine cell_of hgb rfl ?_
    rw [List.getElem?_take] at hj
    split at hj
    · rw [← htake, List.getElem?_take] at hj
      split at hj
      · rw [List.getElem?_drop] at hj; simpa using hj
      · cases hj
    · cases hj
  obtain ⟨w', hr, ho, hgr⟩ := run_copy (P := x.P) (tu := tu) (ty := ty) (a := q) (dl := l.length - q) (dc := dc) (b := ⟨gb, off, none⟩) (sl := q) (sc := sc) (news := xs.take (min q (l.length - q) * Rep.sz α)) hT hsz hown (by omega)
    (by rw [List.length_take, hlen]; omega) hcell (fun u hu => hone u (List.mem_of_mem_take hu))
  refine ⟨.int .i64 (min q (l.length - q) : Nat), w', ?_, H, _, ht.upd (r' := .row (.slice (some ⟨gb, off, none⟩) l.length cap) e (Rep.sz α) l.length _) hgr ho (fun b hb => .inl hb), k _ ⟨?_, _, _, _, rfl⟩⟩
  · simp [execOp, resolve, invoke, builtin, hsl.ev hy, hsl.ev hu, hr]
  · exact ((hx.rd.split q).1.app (hx.rd.split (min q (l.length - q))).1).app (hx.rd.split (q + min q (l.length - q))).2
end

/-- An element of an array that is a value, itself of several cells. -/
theorem W_indexVA {x : Cx} {ops : Array Oper} {Q : Post} {rest : List Oper} {H : Hp} {M : List Res} {L : Env} {d : Nat} {ty : TypeId} {pos : String} {aft : Array Edge} {g : Option (Nat × Bool)}
    {α : Type} [Rep α] {t e : TypeId} {y z : Operand} {n : Nat} {cs : List Value} {ys : List α} {el : α} {kk : IntKind} {i : Int} (hg : gd ops L ⟨some d, .index t y z, ty, pos, aft, g⟩ = some true) (hN : Nat.blt d x.N = true)
    (hT : ∀ w, (underlying t).run x.P w = .ok (.array n e) w) (hA : ∀ w, (isAgg e).run x.P w = .ok true w) (hn : ∀ w, (sizeOf e).run x.P w = .ok (Rep.sz α) w)
    (hy : ev L y = some (.agg cs.toArray)) (hz : ev L z = some (.int kk i)) (hl : ys.length = n) (h0 : 0 ≤ i) (he : ys[i.toNat]? = some el) (hr : RdC H cs ys)
    (k : ∀ c, Rep.E H c el → W x ops Q rest H M ((d, .agg c.toArray) :: L)) :
    W x ops Q (⟨some d, .index t y z, ty, pos, aft, g⟩ :: rest) H M L := by
  obtain ⟨c, hE, hc⟩ := hr.get _ _ he
  have hcl := Rep.len hE
  have h1 : i.toNat < ys.length := (List.getElem?_eq_some_iff.1 he).1
  have h1' : i < (n : Int) := by omega
  have hlen := hr.len
  have hmul : i.toNat * Rep.sz α + Rep.sz α ≤ ys.length * Rep.sz α := by
    have := Nat.mul_le_mul_right (Rep.sz α) h1
    rw [Nat.succ_mul] at this; exact this
  have hex : (cs.drop (i.toNat * Rep.sz α)).take (Rep.sz α) = c := by
    apply List.ext_getElem?
    intro j
    rw [List.getElem?_take, List.getElem?_drop]
    by_cases hj : j < Rep.sz α
    · rw [if_pos hj, List.getElem?_eq_getElem (l := c) (by omega)]
      exact hc j _ (List.getElem?_eq_getElem (by omega))
    · rw [if_neg hj, List.getElem?_eq_none (by omega)]
  refine W_pure rfl hg hN (fun a w hs ht => ?_) (k c hE)
  simp [execOp, hs.ev hy, hs.ev hz, Instr.index, asIntOf, hT, h0, h1', hn, part, hA, hex]
/-- A call of a function that the model itself answers. -/
theorem W_extern {x : Cx} {ops : Array Oper} {Q : Post} {rest : List Oper} {H : Hp} {M : List Res} {L : Env} {d : Nat} {f : FuncId} {args : List Operand} {tys : Array TypeId} {ty : TypeId} {pos : String} {aft : Array Edge} {g : Option (Nat × Bool)} {vs : List Value} {v : Value}
    (hx : ∀ w, (callFunc f vs.toArray).run x.P w = .ok (.value v) w)
    (hg : gd ops L ⟨some d, .call ⟨.value (.func f), args.toArray, tys⟩, ty, pos, aft, g⟩ = some true) (hN : Nat.blt d x.N = true)
    (hv : evs L args = some vs) (k : W x ops Q rest H M ((d, v) :: L)) :
    W x ops Q (⟨some d, .call ⟨.value (.func f), args.toArray, tys⟩, ty, pos, aft, g⟩ :: rest) H M L :=
  W_pure rfl hg hN (fun a w hs ht => by
    have hargs : args.toArray.map a.eval = vs.toArray := by simp [hs.evs hv]
    simp only [execOp, resolve, hargs, Act.eval, Deferred.ofValue, Sem.run_bind, Sem.run_pure, Result.andThen_ok, invoke]
    simp [hx]) k
/-- What strings.Compare answers. -/
def cmpS (a b : ByteArray) : Int := Extern.BytealgCompare.cmp a b
theorem run_cmpS {P : Program} (a b : ByteArray) (w : World) : (Extern.BytealgCompare.compare #[.string a, .string b]).run P w = .ok (.int .i64 (cmpS a b)) w := by
  change Sem.run P (do pure (goInt (Extern.BytealgCompare.cmp (← Extern.Bytes.bytesOf (.string a)) (← Extern.Bytes.bytesOf (.string b))))) w = _
  simp only [Extern.Bytes.bytesOf, Sem.run_bind, Sem.run_pure, Result.andThen]
  rfl
theorem cmpS_extern {P : Program} {f : FuncId} {fn : Func} (hf : P.funcs[f]? = some fn) (h1 : (fn.name == "runtime.NumGoroutine") = false) (h2 : fn.body.isNone = true) (h3 : Extern.findNext fn = none) (h4 : Extern.find fn = some Extern.BytealgCompare.compare) (a b : ByteArray) :
    ∀ w, (callFunc f [.string a, .string b].toArray).run P w = .ok (.value (.int .i64 (cmpS a b))) w := fun w => by
  rw [run_callFunc_extern hf h1 h2 h3 h4, show [Value.string a, .string b].toArray = #[.string a, .string b] from rfl, run_cmpS]
  rfl
/-- What strings.IndexByte and the count of a byte answer. -/
def idxB (s : ByteArray) (c : Int) : Int := Go.Lib.indexByte s.data.toList c.toNat.toUInt8
def cntB (s : ByteArray) (c : Int) : Int := (Go.Lib.countByte s.data.toList c.toNat.toUInt8 : Nat)
theorem idxB_extern {P : Program} {f : FuncId} {fn : Func} (hf : P.funcs[f]? = some fn) (h1 : (fn.name == "runtime.NumGoroutine") = false) (h2 : fn.body.isNone = true) (h3 : Extern.findNext fn = none) (h4 : Extern.find fn = some Extern.BytealgIndexByte.indexByte) (s : ByteArray) (c : Int) :
    ∀ w, (callFunc f [.string s, .int .u8 c].toArray).run P w = .ok (.value (.int .i64 (idxB s c))) w := fun w => by
  rw [run_callFunc_extern hf h1 h2 h3 h4, show [Value.string s, .int .u8 c].toArray = #[.string s, .int .u8 c] from rfl, Go.Lib.run_indexByteString]
  rfl
theorem cntB_extern {P : Program} {f : FuncId} {fn : Func} (hf : P.funcs[f]? = some fn) (h1 : (fn.name == "runtime.NumGoroutine") = false) (h2 : fn.body.isNone = true) (h3 : Extern.findNext fn = none) (h4 : Extern.find fn = some Extern.BytealgCount.count) (s : ByteArray) (c : Int) :
    ∀ w, (callFunc f [.string s, .int .u8 c].toArray).run P w = .ok (.value (.int .i64 (cntB s c))) w := fun w => by
  rw [run_callFunc_extern hf h1 h2 h3 h4, show [Value.string s, .int .u8 c].toArray = #[.string s, .int .u8 c] from rfl, Go.Lib.run_countString]
  rfl
section
variable {x : Cx} {ops : Array Oper} {Q : Post} {rest : List Oper} {H : Hp} {M M' : List Res} {L L' : Env}
variable {d : Nat} {ty : TypeId} {pos : String} {aft : Array Edge} {g : Option (Nat × Bool)}
theorem W_clear0 {t e : TypeId} {y : Operand} {ad : Option Addr} {c2 : Nat}
    (hg : gd ops L ⟨none, .call ⟨.builtin .clear, #[y], #[t]⟩, ty, pos, aft, g⟩ = some true)
    (hT : x.P.underlying t = some (.slice e)) (hy : ev L y = some (.slice ad 0 c2)) (k : W x ops Q rest H M L) :
    W x ops Q (⟨none, .call ⟨.builtin .clear, #[y], #[t]⟩, ty, pos, aft, g⟩ :: rest) H M L :=
  W_letgo rfl hg fun a w hsl ht => ⟨.tuple #[], w, by
    cases ad <;> simp [execOp, resolve, invoke, builtin, hsl.ev hy, Builtin.clear_, run_underlying hT], H, M, ht, k⟩
/-- 'clear(s[i:])', within a row. -/
theorem W_clearPart {t e : TypeId} {sz m n gb off cap i c2 : Nat} {y : Operand} {z : Value} {zs xs : List Value}
    (hg : gd ops L ⟨none, .call ⟨.builtin .clear, #[y], #[t]⟩, ty, pos, aft, g⟩ = some true)
    (hT : x.P.underlying t = some (.slice e)) (hz : ∀ w, (zeroValue e).run x.P w = .ok z w) (hzs : z.cells = zs.toArray) (hzl : zs.length = sz) (h1 : zs.all Value.oneCell' = true) (hs : Nat.blt 0 sz = true)
    (hi : i < m) (hy : ev L y = some (.slice (some ⟨gb, off + i * sz, none⟩) (m - i) c2))
    (k : W x ops Q rest H (.row (.slice (some ⟨gb, off, none⟩) m cap) e sz m (xs.take (i * sz) ++ (Builtin.zeroCells z.cells (m - i)).toList) :: M) L) :
    W x ops Q (⟨none, .call ⟨.builtin .clear, #[y], #[t]⟩, ty, pos, aft, g⟩ :: rest) H (.row (.slice (some ⟨gb, off, none⟩) m cap) e sz n xs :: M) L := by
  have hs' : 0 < sz := by simpa [Nat.blt_eq] using hs
  refine W_letgo rfl hg fun a w hsl ht => ?_
  have hown : OwnsR w e sz (.slice (some ⟨gb, off, none⟩) m cap) n xs := ht.ok _ (List.mem_cons_self ..)
  rcases hown.2 with ⟨h0, _⟩ | ⟨gb2, off2, cap2, cur, he, hgb, hnc, hcm, hcs, htake⟩
  · cases h0
  cases he
  obtain ⟨q, hq⟩ : ∃ q, m - i = q + 1 := ⟨m - i - 1, by omega⟩
  have hzlen : (Builtin.zeroCells z.cells (m - i)).toList.length = (m - i) * sz := by
    unfold Builtin.zeroCells; rw [hzs]; simp [hzl]
  have hmul : m * sz ≤ cap * sz := Nat.mul_le_mul_right _ hnc
  have hsplit : i * sz + (m - i) * sz = m * sz := by rw [← Nat.add_mul]; congr 1; omega
  have hone : ∀ u ∈ (Builtin.zeroCells z.cells (m - i)).toList, u.oneCell' = true := by
    rw [hzs]; exact zeroCells_one (fun u hu => List.all_eq_true.1 h1 u hu) (by omega) _
  obtain ⟨w', hst, hh, hgr⟩ := run_storeCells_obj (P := x.P) gb (off + i * sz) e (Builtin.zeroCells z.cells (m - i)).toList 0 cur.toList w (by simpa using hgb) (by rw [hzlen]; simp; omega) hone
  refine ⟨.tuple #[], w', ?_, H, _, ht.upd (r' := .row (.slice (some ⟨gb, off, none⟩) m cap) e sz m (xs.take (i * sz) ++ (Builtin.zeroCells z.cells (m - i)).toList)) hgr ⟨?_, .inr ⟨gb, off, cap, _, rfl, hh, hnc, hcm, ?_, ?_⟩⟩ (fun b hb => .inl hb), k⟩
  · rw [hq] at hst hy
    simp [execOp, resolve, invoke, builtin, hsl.ev hy, Builtin.clear_, run_underlying hT, hz, hst]
  · rw [List.length_append, List.length_take, hzlen, hown.1]
    omega
  · simpa [over_length] using hcs
  · rw [List.toList_toArray, Nat.add_zero, over_eq _ _ _ (by rw [hzlen]; simp; omega)]
    have hd : (cur.toList.take (off + i * sz)).drop off = xs.take (i * sz) := by
      rw [List.drop_take, Nat.add_sub_cancel_left, ← htake, List.take_take, Nat.min_eq_left (by omega)]
    have hlen2 : ((cur.toList.take (off + i * sz)).drop off ++ (Builtin.zeroCells z.cells (m - i)).toList).length = m * sz := by
      rw [List.length_append, hd, List.length_take, hzlen, hown.1]; omega
    rw [List.append_assoc, List.drop_append_of_le_length (by simp; omega), ← List.append_assoc, ← hlen2]
    rw [List.take_left, hd]
/-- 'clear(s[i:])': the slice and the clearing together. -/
theorem W_clearFrom {α : Type} [Rep α] {t e : TypeId} {n : Nat} {y lo : Operand} {v : Value} {z : Value} {zs xs : List Value} {l : List α} {ze : α} {kk : IntKind} {i : Int} {ty2 : TypeId} {pos2 : String} {aft2 : Array Edge} {g2 : Option (Nat × Bool)}
    (hg : gd ops L ⟨some d, .slice t y (some lo) none none, ty, pos, aft, g⟩ = some true) (hN : Nat.blt d x.N = true)
    (hg2 : ∀ u, gd ops ((d, u) :: L) ⟨none, .call ⟨.builtin .clear, #[.tmp d], #[t]⟩, ty2, pos2, aft2, g2⟩ = some true)
    (hT : x.P.underlying t = some (.slice e)) (hT2 : ∀ w, (underlying t).run x.P w = .ok (.slice e) w) (hsz : ∀ w, (sizeOf e).run x.P w = .ok (Rep.sz α) w)
    (hz : ∀ w, (zeroValue e).run x.P w = .ok z w) (hzs : z.cells = zs.toArray) (h1 : zs.all Value.oneCell' = true) (hs : Nat.blt 0 (Rep.sz α) = true) (hE : Rep.E H zs ze)
    (hy : ev L y = some v) (hlo : ev L lo = some (.int kk i)) (hx : Rw H v xs l) (hb : 0 ≤ i ∧ i ≤ (l.length : Int))
    (k : ∀ u xs', Rw H v xs' (l.take i.toNat ++ List.replicate (l.length - i.toNat) ze) → W x ops Q rest H (.row v e (Rep.sz α) (l.take i.toNat ++ List.replicate (l.length - i.toNat) ze).length xs' :: M) ((d, u) :: L)) :
    W x ops Q (⟨some d, .slice t y (some lo) none none, ty, pos, aft, g⟩ :: ⟨none, .call ⟨.builtin .clear, #[.tmp d], #[t]⟩, ty2, pos2, aft2, g2⟩ :: rest) H (.row v e (Rep.sz α) n xs :: M) L := by
  obtain ⟨hb0, hb1⟩ := hb
  obtain ⟨q, rfl⟩ : ∃ q : Nat, i = q := ⟨i.toNat, by omega⟩
  have hql : q ≤ l.length := by omega
  rw [Int.toNat_natCast] at k
  have hs' : 0 < Rep.sz α := by simpa [Nat.blt_eq] using hs
  have hlen : (l.take q ++ List.replicate (l.length - q) ze).length = l.length := by simp; omega
  have hlk : ∀ u, ev ((d, u) :: L) (.tmp d) = some u := fun u => by simp [ev, lk_cons]
  -- how long the row is
  have hn : ∀ {a : Act} {w : World}, St x.B x.w0 H (.row v e (Rep.sz α) n xs :: M) w → n = l.length := fun {a w} ht => by
    have hok : OwnsR w e (Rep.sz α) v n xs := ht.ok _ (List.mem_cons_self ..)
    have h1 := hx.rd.len
    rw [hok.1] at h1
    exact Nat.eq_of_mul_eq_mul_right hs' h1
  have same : l.length = q → ∀ {L2 : Env}, (∀ xs', Rw H v xs' (l.take q ++ List.replicate (l.length - q) ze) → W x ops Q rest H (.row v e (Rep.sz α) (l.take q ++ List.replicate (l.length - q) ze).length xs' :: M) L2) → W x ops Q rest H (.row v e (Rep.sz α) n xs :: M) L2 := by
    intro hq L2 kk a w hsl ht
    have hnn := hn (a := a) ht
    subst hnn
    have e : l.take q ++ List.replicate (l.length - q) ze = l := by rw [hq, Nat.sub_self, ← hq, List.take_length]; simp
    have := kk xs (by rw [e]; exact hx)
    rw [e] at this
    exact this a w hsl ht
  intro a w hsl ht
  have hnn := hn (a := a) ht
  subst hnn
  have hok : OwnsR w e (Rep.sz α) v l.length xs := ht.ok _ (List.mem_cons_self ..)
  revert a w
  suffices hh : ∀ (oo : Option Addr) (cap : Nat), v = .slice oo l.length cap → l.length ≤ cap → (q < l.length → ∃ gb off, oo = some ⟨gb, off, none⟩) →
      W x ops Q (⟨some d, .slice t y (some lo) none none, ty, pos, aft, g⟩ :: ⟨none, .call ⟨.builtin .clear, #[.tmp d], #[t]⟩, ty2, pos2, aft2, g2⟩ :: rest) H (.row v e (Rep.sz α) l.length xs :: M) L by
    intro a w hsl ht hok
    rcases hok.2 with ⟨e0, h0⟩ | ⟨gb, off, cap, cur, e0, _, hnc, _⟩
    · exact hh none 0 (by rw [h0]; exact e0) (by omega) (fun h => by omega) a w hsl ht
    · exact hh (some ⟨gb, off, none⟩) cap e0 hnc (fun _ => ⟨gb, off, rfl⟩) a w hsl ht
  intro oo cap hv hnc hsome
  subst hv
  by_cases hq : l.length = q
  · refine W_sliceV (m := cap) (h := l.length) (l := q) hg hN hT2 hsz hy (.inl rfl) (.inl ⟨rfl, rfl⟩) (.inl ⟨rfl, rfl⟩) (.inr ⟨_, _, _, rfl, hlo, by omega, by omega, by omega⟩) (v' := .slice (if cap = q then oo else oo.map (·.add (q * Rep.sz α))) 0 (cap - q)) (by rw [hq, Nat.sub_self]) ?_
    exact W_clear0 (hg2 _) hT (hlk _) (same hq (fun xs' hx' => k _ xs' hx'))
  · obtain ⟨gb, off, rfl⟩ := hsome (by omega)
    refine W_sliceV (m := cap) (h := l.length) (l := q) hg hN hT2 hsz hy (.inl rfl) (.inl ⟨rfl, rfl⟩) (.inl ⟨rfl, rfl⟩) (.inr ⟨_, _, _, rfl, hlo, by omega, by omega, by omega⟩) (v' := .slice (some ⟨gb, off + q * Rep.sz α, none⟩) (l.length - q) (cap - q)) (by rw [if_neg (by omega), Option.map_some, Addr.add_lit]) ?_
    have hzl : zs.length = Rep.sz α := Rep.len hE
    refine W_clearPart (i := q) (sz := Rep.sz α) (hg2 _) hT hz hzs hzl h1 hs (by omega) (hlk _) ?_
    have hcells : (Builtin.zeroCells z.cells (l.length - q)).toList = (List.range ((l.length - q) * Rep.sz α)).map (zs.toArray[· % zs.length]!) := by
      unfold Builtin.zeroCells
      rw [hzs]
      simp [hzl]
    have hrw : Rw H (.slice (some ⟨gb, off, none⟩) l.length cap) (xs.take (q * Rep.sz α) ++ (Builtin.zeroCells z.cells (l.length - q)).toList) (l.take q ++ List.replicate (l.length - q) ze) :=
      ⟨(hx.rd.split q).1.app (by rw [hcells]; exact zero_rd hE hzl _), _, _, _, rfl⟩
    have := k (.slice (some ⟨gb, off + q * Rep.sz α, none⟩) (l.length - q) (cap - q)) _ hrw
    rw [hlen] at this
    exact this
end
theorem shr_u64_32 (k : Nat) : shrV .u64 (k : Int) 32 = ((k / 4294967296 : Nat) : Int) := by
  unfold shrV
  rw [show (2 : Int) ^ (min (32 : Int).toNat IntKind.u64.bits) = 4294967296 from rfl]
  rw [Int.fdiv_eq_ediv_of_nonneg _ (by decide)]
  omega
/-! ### What slices.Repeat makes -/
def repL {α : Type} (s : List α) (n : Int) : List α := (List.replicate n.toNat s).flatten
theorem repL_one {α : Type} (a : α) (m : Nat) : repL [a] (m : Int) = List.replicate m a := by
  unfold repL
  rw [Int.toNat_natCast]
  induction m with
  | zero => rfl
  | succ m ih => rw [List.replicate_succ, List.replicate_succ, List.flatten_cons, ih]; rfl
theorem rep_step {α : Type} {a : α} {l : List α} {q : Nat} (h : l.take q = List.replicate q a) (hq : q ≤ l.length) :
    (l.take q ++ l.take (min q (l.length - q)) ++ l.drop (q + min q (l.length - q))).take (q + min q (l.length - q)) = List.replicate (q + min q (l.length - q)) a := by
  have h2 : l.take (min q (l.length - q)) = List.replicate (min q (l.length - q)) a := by
    have := congrArg (List.take (min q (l.length - q))) h
    rwa [List.take_take, List.take_replicate, show min (min q (l.length - q)) q = min q (l.length - q) by omega] at this
  rw [h, h2, List.replicate_append_replicate]
  rw [List.take_append_of_le_length (by simp), List.take_of_length_le (by simp)]
end Go.Sim
