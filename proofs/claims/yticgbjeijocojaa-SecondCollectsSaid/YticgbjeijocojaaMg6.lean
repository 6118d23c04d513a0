/-
  What the contracts of Go's library are proved with.
-/
import Derived.Test.YticgbjeijocojaaMg5
import Derived.Lib.AppendZeros
set_option linter.unusedVariables false
set_option linter.unusedSimpArgs false
set_option linter.unusedSimpArgs false
set_option linter.unusedVariables false
namespace Go.Sim
open Go Go.RowKit
set_option linter.unusedVariables false
set_option linter.unusedSimpArgs false
set_option linter.unusedSectionVars false
set_option linter.unnecessarySimpa false

theorem RdS.shape {α : Type} [Rep α] {H : Hp} {v : Value} {xs : List α} (h : RdS H v xs) : ∃ o n c, v = .slice o n c := by
  obtain ⟨a, c, rfl, _⟩ := h.len; exact ⟨_, _, _, rfl⟩
theorem RdS.isNil {α : Type} [Rep α] {H : Hp} {n c : Nat} {xs : List α} (h : RdS H (.slice none n c) xs) : xs = [] := by
  rcases h with ⟨_, h⟩ | ⟨b, off, cap, arr, T, fz, h, _⟩
  · exact h
  · cases h

/-- Nil just if empty. -/
def NilE {α : Type} (v : Value) (l : List α) : Prop := (∃ n c, v = .slice none n c ∧ l = []) ∨ (∃ a n c, v = .slice (some a) n c ∧ l ≠ [])
theorem NilE.nil {α : Type} : NilE (.slice none 0 0) ([] : List α) := .inl ⟨_, _, rfl, rfl⟩
theorem NilE.ofS {α : Type} [Rep α] {H : Hp} {v : Value} {xs : List α} (h : RdS H v xs) (hl : 0 < xs.length) : NilE v xs := by
  rcases h with ⟨_, h⟩ | ⟨b, off, cap, arr, T, fz, h, _⟩
  · subst h; simp at hl
  · exact .inr ⟨_, _, _, h, fun e => by subst e; simp at hl⟩

/-- append within the capacity. -/
theorem run_append_C {P : Program} {w : World} {t ty e : TypeId} {i : TypeInfo} {z : Value} {size : Nat} (ht : P.underlying t = some (.slice e)) (hi : P.info? e = some i) (hz : i.zero = some z)
    (hsize : i.size = size) (hzs : z.cells.size = size) (hsz : 0 < size)
    {v : Value} {n : Nat} {xs : List Value} (hown : OwnsR w e size v n xs)
    {a : Addr} {m c : Nat} {news : List Value} (hl : news.length = m * size) (hnews : ∀ j u, news[j]? = some u → w.cell? (a.add j) = some u) (h1 : ∀ u ∈ news, u.oneCell' = true)
    (hroom : n + m ≤ Value.cap' v) :
    ∃ v' w', (Builtin.append_ #[t, t] ty #[v, .slice (some a) m c]).run P w = .ok v' w' ∧ OwnsR w' e size v' (n + m) (xs ++ news) ∧ w.grownBy w' v.ownBlock ∧
      (∀ b, v'.ownBlock = some b → v.ownBlock = some b ∨ w.heap.size ≤ b) ∧ Value.cap' v' = Value.cap' v := by
  subst hsize
  have hlen : (xs ++ news).length = (n + m) * i.size := by rw [List.length_append, hown.1, hl, Nat.add_mul]
  rcases hown.2 with ⟨rfl, rfl⟩ | ⟨g, off, cap, cur, rfl, hg, hnc, hcm, hcs, htake⟩
  · have hx : xs = [] := List.eq_nil_of_length_eq_zero (by simpa using hown.1)
    subst hx
    have hm : m = 0 := by simp only [Value.cap'] at hroom; omega
    subst hm
    have hn : news = [] := List.eq_nil_of_length_eq_zero (by simpa using hl)
    subst hn
    refine ⟨.slice none 0 0, w, ?_, OwnsR.nil w e i.size, ⟨rfl, rfl, rfl, Nat.le_refl _, fun _ _ _ => rfl⟩, by simp [Value.ownBlock], rfl⟩
    simp [Builtin.append_, run_underlying ht, sizeOf, typeInfo, hi, Builtin.lenOf, Builtin.firstCells, loadCells, loadCellsFrom]
  · simp only [Value.cap'] at hroom
    have hfit : off + n * i.size + news.length ≤ cur.size := by
      have : (n + m) * i.size ≤ cap * i.size := Nat.mul_le_mul_right _ hroom
      rw [Nat.add_mul] at this
      omega
    have hf := run_firstCells_some (P := P) w i.size m a m c news hl hnews
    obtain ⟨w', hst, hh, hgr⟩ := run_storeCells_obj (P := P) g (off + n * i.size) e news 0 cur.toList w (by simpa using hg) (by simpa using hfit) h1
    refine ⟨.slice (some ⟨g, off, none⟩) (n + m) cap, w', ?_, ⟨hlen, .inr ⟨g, off, cap, _, rfl, hh, hroom, hcm, ?_, ?_⟩⟩, hgr, fun b hb => .inl hb, rfl⟩
    · simp [Builtin.append_, run_underlying ht, sizeOf, typeInfo, hi, Builtin.lenOf, hroom, hf, Addr.add_lit, hst]
    · simpa [over_length] using hcs
    · rw [List.toList_toArray, Nat.add_zero, over_eq _ _ _ (by simpa using hfit)]
      have hd : (cur.toList.take (off + n * i.size)).drop off = xs := by rw [List.drop_take, Nat.add_sub_cancel_left]; exact htake
      rw [List.append_assoc, List.drop_append_of_le_length (by simp; omega), hd, ← List.append_assoc, ← hlen]
      exact List.take_left

theorem events_append_C {P : Program} {w : World} {Ok : Event → Prop} {t ty e : TypeId} {i : TypeInfo} {size : Nat} (ht : P.underlying t = some (.slice e)) (hi : P.info? e = some i)
    (hsize : i.size = size)
    {v : Value} {n : Nat} {xs : List Value} (hown : OwnsR w e size v n xs)
    {a : Addr} {m c : Nat} {news : List Value} (hl : news.length = m * size) (hnews : ∀ j u, news[j]? = some u → w.cell? (a.add j) = some u ∧ Ok ⟨.cell (a.add j), false, false⟩) (h1 : ∀ u ∈ news, u.oneCell' = true)
    (hroom : n + m ≤ Value.cap' v) (hok : ∀ g, v.ownBlock = some g → ∀ j wr, Ok ⟨.cell ⟨g, j, none⟩, wr, false⟩) :
    ∀ ev ∈ (Builtin.append_ #[t, t] ty #[v, .slice (some a) m c]).events P w #[], Ok ev := by
  subst hsize
  have none0 : ∀ e ∈ (#[] : Array Event), Ok e := by intro e he; simp at he
  intro ev hev
  rcases hown.2 with ⟨rfl, rfl⟩ | ⟨g, off, cap, cur, rfl, hg, hnc, hcm, hcs, htake⟩
  · have hm : m = 0 := by simp only [Value.cap'] at hroom; omega
    subst hm
    simp [Builtin.append_, run_underlying ht, sizeOf, typeInfo, hi, Builtin.lenOf] at hev
    exact events_firstCells (P := P) (w := w) (cs := news) hl hnews none0 ev (by simpa using hev)
  · simp only [Value.cap'] at hroom
    have hfit : off + n * i.size + news.length ≤ cur.size := by
      have : (n + m) * i.size ≤ cap * i.size := Nat.mul_le_mul_right _ hroom
      rw [Nat.add_mul] at this
      omega
    have hf := run_firstCells_some (P := P) w i.size m a m c news hl (fun j u h => (hnews j u h).1)
    simp [Builtin.append_, run_underlying ht, sizeOf, typeInfo, hi, Builtin.lenOf, hroom, hf, Addr.add_lit] at hev
    refine events_storeCells_obj (P := P) g (off + n * i.size) e (fun j => hok g (by simp [Value.ownBlock]) j true) news 0 cur.toList w _ (by simpa using hg) (by simpa using hfit) h1 (fun e he => ?_) ev hev
    exact events_firstCells (P := P) (w := w) (cs := news) hl hnews none0 e he

section
variable {P : Program} {x : Cx P} {ops : Array Oper} {Q : Post} {rest : List Oper} {H : Hp} {M M' : List Res} {L L' : Env}
variable {d : Nat} {ty : TypeId} {pos : String} {aft : Array Edge} {g : Option (Nat × Bool)}

theorem W_capS {t e : TypeId} {y : Operand} {a : Option Addr} {m n : Nat} (hg : gd ops L ⟨some d, .call ⟨.builtin .cap, #[y], #[t]⟩, ty, pos, aft, g⟩ = some true) (hN : Nat.blt d x.N = true)
    (hT : ∀ w, (underlying t).run P w = .ok (.slice e) w) (hy : ev L y = some (.slice a m n)) (k : W x ops Q rest H M ((d, .int .i64 n) :: L)) :
    W x ops Q (⟨some d, .call ⟨.builtin .cap, #[y], #[t]⟩, ty, pos, aft, g⟩ :: rest) H M L :=
  W_pure0 rfl hg hN (fun c w hs ht => ⟨by simp [execOp, resolve, invoke, builtin, hs.ev hy, Builtin.cap_, hT, goInt], by simp [execOp, resolve, invoke, builtin, hs.ev hy, Builtin.cap_, hT, goInt]⟩) k
theorem W_eqNilE {α : Type} {v : Value} {l : List α} {t e u : TypeId} {y z : Operand} (hg : gd ops L ⟨some d, .binOp .eql t y z u, ty, pos, aft, g⟩ = some true) (hN : Nat.blt d x.N = true)
    (hT : ∀ w, (underlying t).run P w = .ok (.slice e) w) (hy : ev L y = some v) (hz : ev L z = some (.slice none 0 0)) (hv : NilE v l)
    (k : W x ops Q rest H M ((d, .bool (l.isEmpty)) :: L)) :
    W x ops Q (⟨some d, .binOp .eql t y z u, ty, pos, aft, g⟩ :: rest) H M L := by
  rcases hv with ⟨n, c, rfl, rfl⟩ | ⟨a, n, c, rfl, hl⟩
  · exact W_eqNil hg hN hT hy hz k
  · refine W_eqNil hg hN hT hy hz ?_
    cases l with
    | nil => exact absurd rfl hl
    | cons _ _ => exact k
theorem W_neNilE {α : Type} {v : Value} {l : List α} {t e u : TypeId} {y z : Operand} (hg : gd ops L ⟨some d, .binOp .neq t y z u, ty, pos, aft, g⟩ = some true) (hN : Nat.blt d x.N = true)
    (hT : ∀ w, (underlying t).run P w = .ok (.slice e) w) (hy : ev L y = some v) (hz : ev L z = some (.slice none 0 0)) (hv : NilE v l)
    (k : W x ops Q rest H M ((d, .bool (!l.isEmpty)) :: L)) :
    W x ops Q (⟨some d, .binOp .neq t y z u, ty, pos, aft, g⟩ :: rest) H M L := by
  rcases hv with ⟨n, c, rfl, rfl⟩ | ⟨a, n, c, rfl, hl⟩
  · exact W_neNil hg hN hT hy hz k
  · refine W_neNil hg hN hT hy hz ?_
    cases l with
    | nil => exact absurd rfl hl
    | cons _ _ => exact k
theorem W_appendC {α : Type} [Rep α] {t e : TypeId} {bytes n : Nat} {z : Value} {y u : Operand} {v vu : Value} {xs : List Value} {l ys : List α}
    (hg : gd ops L ⟨some d, .call ⟨.builtin .append, #[y, u], #[t, t]⟩, ty, pos, aft, g⟩ = some true) (hN : Nat.blt d x.N = true)
    (hT : P.underlying t = some (.slice e)) (hi : TyI P e (Rep.sz α) bytes z) (hz : z.cells.size = Rep.sz α) (hs : Nat.blt 0 (Rep.sz α) = true)
    (hy : ev L y = some v) (hu : ev L u = some vu) (hx : Rw H v xs l) (hR : RdS H vu ys) (hb : l.length + ys.length ≤ Value.cap' v)
    (k : ∀ v' xs', Rw H v' xs' (l ++ ys) → Value.cap' v' = Value.cap' v → W x ops Q rest H (.row v' e (Rep.sz α) (l ++ ys).length xs' :: M) ((d, v') :: L)) :
    W x ops Q (⟨some d, .call ⟨.builtin .append, #[y, u], #[t, t]⟩, ty, pos, aft, g⟩ :: rest) H (.row v e (Rep.sz α) n xs :: M) L := by
  obtain ⟨i, h1, h2, h3, h4⟩ := hi.ex
  have hs' : 0 < Rep.sz α := by simpa [Nat.blt_eq] using hs
  refine W_run rfl hg hN fun a w hsl ht => ?_
  have hown : OwnsR w e (Rep.sz α) v n xs := ht.ok _ (List.mem_cons_self ..)
  have hn : n = l.length := by
    have := hx.rd.len
    rw [hown.1] at this
    exact Nat.eq_of_mul_eq_mul_right hs' this
  subst hn
  obtain ⟨cs, hcs, hcase⟩ := hR.flat
  rcases hcase with ⟨⟨ea, rfl⟩, rfl⟩ | ⟨hc, b, off, c, rfl⟩
  · have hcs' : cs = [] := hcs
    subst hcs'
    have hA : (Builtin.append_ #[t, t] ty #[v, .slice ea 0 0]).run P w = .ok v w ∧ (Builtin.append_ #[t, t] ty #[v, .slice ea 0 0]).events P w #[] = #[] := by
      rcases hown.2 with ⟨rfl, h0⟩ | ⟨g, off, cap, cur, rfl, hg2, hnc, _⟩ <;> cases ea
      · constructor <;> simp [Builtin.append_, run_underlying hT, sizeOf, typeInfo, h1, Builtin.lenOf, Builtin.firstCells]
      · constructor <;> simp [Builtin.append_, run_underlying hT, sizeOf, typeInfo, h1, Builtin.lenOf, Builtin.firstCells, loadCells, loadCellsFrom]
      · constructor <;> simp [Builtin.append_, run_underlying hT, sizeOf, typeInfo, h1, Builtin.lenOf, Builtin.firstCells, storeCells, hnc]
      · constructor <;> simp [Builtin.append_, run_underlying hT, sizeOf, typeInfo, h1, Builtin.lenOf, Builtin.firstCells, storeCells, hnc, loadCells, loadCellsFrom]
    refine ⟨v, w, ?_, fun _ => ⟨?_, H, .row v e (Rep.sz α) (l ++ []).length xs :: M, by simpa using ht, k v xs (by simpa using hx) rfl⟩⟩
    · simp [execOp, resolve, invoke, builtin, hsl.ev hy, hsl.ev hu, hA.1]
    · rw [Conc.events_append_op (P := P) y u t rfl (hsl.ev hy) (hsl.ev hu), hA.2]; exact Did.idle _
  · obtain ⟨v', w', hr, ho, hgr, hfr, hcap⟩ := run_append_C (P := P) (ty := ty) hT h1 h4 h2 hz hs' hown (a := ⟨b, off, none⟩) (m := ys.length) (c := c) (news := cs) hcs.len
      (fun j u hu => (((hc j u hu).at (x := x) (M := .row v e (Rep.sz α) l.length xs :: M)) w ht).1) hcs.one hb
    have hK : ∀ g, v.ownBlock = some g → x.w0.K g := fun g hg => ht.kown _ (List.mem_cons_self ..) g (by simp [Res.feet, hg])
    have hev := events_append_C (P := P) (ty := ty) (Ok := Ev1 x.w0 w'.heap.size) hT h1 h2 hown (a := ⟨b, off, none⟩) (m := ys.length) (c := c) (news := cs) hcs.len
      (fun j u hu => by
        have hce := (hc j u hu).at (x := x) (M := .row v e (Rep.sz α) l.length xs :: M)
        refine ⟨(hce w ht).1, ?_⟩
        rcases hce.ev ht with ⟨ad, wr, e1, e2, e3⟩ | ⟨m, e1, _⟩ | e1
        · exact .inl ⟨ad, wr, e1, Nat.lt_of_lt_of_le e2 hgr.size, e3⟩
        · cases e1
        · exact (Bool.false_ne_true e1).elim) hcs.one hb
      (fun g hg j wr => .inl ⟨_, wr, rfl, Nat.lt_of_lt_of_le (OwnsR.lt hown hg) hgr.size, .inl (hK g hg)⟩)
    refine ⟨v', w', ?_, fun n => ⟨Did.of_grown hgr hK ?_, H, .row v' e (Rep.sz α) (l ++ ys).length (xs ++ cs) :: M, by rw [List.length_append]; exact ht.upd (r' := .row v' e (Rep.sz α) (l.length + ys.length) (xs ++ cs)) hgr ho n hfr, k v' _ ⟨hx.rd.app hcs, ho.shape⟩ hcap⟩⟩
    · simp [execOp, resolve, invoke, builtin, hsl.ev hy, hsl.ev hu, hr]
    · rw [Conc.events_append_op (P := P) y u t rfl (hsl.ev hy) (hsl.ev hu)]
      exact hev
end
end Go.Sim
