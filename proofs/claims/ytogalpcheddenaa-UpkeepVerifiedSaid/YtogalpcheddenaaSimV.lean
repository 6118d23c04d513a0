/-
  What the contracts of Go's library are proved with.
-/
import Derived.Test.YtogalpcheddenaaSimU
import Derived.Lib.AppendZeros
namespace Go.Sim
open Go Go.RowKit
set_option linter.unusedVariables false
set_option linter.unusedSimpArgs false
set_option linter.unusedSectionVars false
set_option linter.unnecessarySimpa false

theorem RdS.shape {α : Type} [Rep α] {H : Hp} {v : Value} {xs : List α} (h : RdS H v xs) : ∃ o n c, v = .slice o n c := by
  obtain ⟨a, c, rfl, _⟩ := h.len; exact ⟨_, _, _, rfl⟩
theorem RdS.isNil {α : Type} [Rep α] {H : Hp} {n c : Nat} {xs : List α} (h : RdS H (.slice none n c) xs) : xs = [] := by
  rcases h with ⟨_, h⟩ | ⟨b, off, cap, arr, T, fz, h, _⟩
  · exact h
  · cases h

/-- Nil just if empty. -/
def NilE {α : Type} (v : Value) (l : List α) : Prop := (∃ n c, v = .slice none n c ∧ l = []) ∨ (∃ a n c, v = .slice (some a) n c ∧ l ≠ [])
theorem NilE.nil {α : Type} : NilE (.slice none 0 0) ([] : List α) := .inl ⟨_, _, rfl, rfl⟩
theorem NilE.ofS {α : Type} [Rep α] {H : Hp} {v : Value} {xs : List α} (h : RdS H v xs) (hl : 0 < xs.length) : NilE v xs := by
  rcases h with ⟨_, h⟩ | ⟨b, off, cap, arr, T, fz, h, _⟩
  · subst h; simp at hl
  · exact .inr ⟨_, _, _, h, fun e => by subst e; simp at hl⟩

section
variable {x : Cx} {ops : Array Oper} {Q : Post} {rest : List Oper} {H : Hp} {M M' : List Res} {L L' : Env}
variable {d : Nat} {ty : TypeId} {pos : String} {aft : Array Edge} {g : Option (Nat × Bool)}

theorem W_capS {t e : TypeId} {y : Operand} {a : Option Addr} {m n : Nat} (hg : gd ops L ⟨some d, .call ⟨.builtin .cap, #[y], #[t]⟩, ty, pos, aft, g⟩ = some true) (hN : Nat.blt d x.N = true)
    (hT : ∀ w, (underlying t).run x.P w = .ok (.slice e) w) (hy : ev L y = some (.slice a m n)) (k : W x ops Q rest H M ((d, .int .i64 n) :: L)) :
    W x ops Q (⟨some d, .call ⟨.builtin .cap, #[y], #[t]⟩, ty, pos, aft, g⟩ :: rest) H M L :=
  W_pure rfl hg hN (fun c w hs ht => by simp [execOp, resolve, invoke, builtin, hs.ev hy, Builtin.cap_, hT, goInt]) k
theorem W_eqNilE {α : Type} {v : Value} {l : List α} {t e u : TypeId} {y z : Operand} (hg : gd ops L ⟨some d, .binOp .eql t y z u, ty, pos, aft, g⟩ = some true) (hN : Nat.blt d x.N = true)
    (hT : ∀ w, (underlying t).run x.P w = .ok (.slice e) w) (hy : ev L y = some v) (hz : ev L z = some (.slice none 0 0)) (hv : NilE v l)
    (k : W x ops Q rest H M ((d, .bool (l.isEmpty)) :: L)) :
    W x ops Q (⟨some d, .binOp .eql t y z u, ty, pos, aft, g⟩ :: rest) H M L := by
  rcases hv with ⟨n, c, rfl, rfl⟩ | ⟨a, n, c, rfl, hl⟩
  · exact W_eqNil hg hN hT hy hz k
  · refine W_eqNil hg hN hT hy hz ?_
    cases l with
    | nil => exact absurd rfl hl
    | cons _ _ => exact k
theorem W_neNilE {α : Type} {v : Value} {l : List α} {t e u : TypeId} {y z : Operand} (hg : gd ops L ⟨some d, .binOp .neq t y z u, ty, pos, aft, g⟩ = some true) (hN : Nat.blt d x.N = true)
    (hT : ∀ w, (underlying t).run x.P w = .ok (.slice e) w) (hy : ev L y = some v) (hz : ev L z = some (.slice none 0 0)) (hv : NilE v l)
    (k : W x ops Q rest H M ((d, .bool (!l.isEmpty)) :: L)) :
    W x ops Q (⟨some d, .binOp .neq t y z u, ty, pos, aft, g⟩ :: rest) H M L := by
  rcases hv with ⟨n, c, rfl, rfl⟩ | ⟨a, n, c, rfl, hl⟩
  · exact W_neNil hg hN hT hy hz k
  · refine W_neNil hg hN hT hy hz ?_
    cases l with
    | nil => exact absurd rfl hl
    | cons _ _ => exact k
theorem W_sliceNil {t e : TypeId} {sz : Nat} {y z : Operand} {kk : IntKind} (hg : gd ops L ⟨some d, .slice t y none (some z) none, ty, pos, aft, g⟩ = some true) (hN : Nat.blt d x.N = true)
    (hT : ∀ w, (underlying t).run x.P w = .ok (.slice e) w) (hs : ∀ w, (sizeOf e).run x.P w = .ok sz w) (hy : ev L y = some (.slice none 0 0)) (hz : ev L z = some (.int kk 0))
    (k : W x ops Q rest H M ((d, .slice none 0 0) :: L)) :
    W x ops Q (⟨some d, .slice t y none (some z) none, ty, pos, aft, g⟩ :: rest) H M L :=
  W_pure rfl hg hN (fun c w hsl ht => by
    have hr := run_sliceAt (P := x.P) (w := w) (t := t) (e := e) (sz := sz) (len := 0) (cap := 0) (a := none) (lo := none) (hi := some (.int kk 0)) (mx := none) (l := 0) (h := 0) (m := 0) hT hs (.inl rfl) (.inl ⟨rfl, rfl⟩) (.inr ⟨kk, 0, rfl, by omega, by omega, rfl⟩) (.inl ⟨rfl, rfl⟩)
    simp only [Nat.sub_self, if_true] at hr
    simp only [execOp, hsl.ev hy, hsl.ev hz, Option.map_none, Option.map_some, Sem.run_bind, hr, Result.andThen_ok, Sem.run_pure]) k
theorem zero_rd {α : Type} [Rep α] {H : Hp} {zs : List Value} {ze : α} (hE : Rep.E H zs ze) (hzl : zs.length = Rep.sz α) : ∀ q, RdC H ((List.range (q * Rep.sz α)).map (zs.toArray[· % zs.length]!)) (List.replicate q ze) := by
  intro q
  induction q with
  | zero => rw [Nat.zero_mul]; exact rfl
  | succ q ih =>
    have hsplit : (List.range ((q + 1) * Rep.sz α)).map (zs.toArray[· % zs.length]!) = zs ++ (List.range (q * Rep.sz α)).map (zs.toArray[· % zs.length]!) := by
      apply List.ext_getElem?
      intro j
      rw [List.getElem?_append, List.getElem?_map]
      by_cases hj : j < zs.length
      · rw [if_pos hj, List.getElem?_range (by rw [Nat.add_mul]; omega)]
        simp [Nat.mod_eq_of_lt hj, hj]
      · rw [if_neg hj, List.getElem?_map]
        by_cases hj2 : j < (q + 1) * Rep.sz α
        · rw [List.getElem?_range hj2, List.getElem?_range (by rw [Nat.add_mul] at hj2; omega)]
          simp only [Option.map_some]
          rw [← Nat.mod_eq_sub_mod (by omega)]
        · rw [List.getElem?_eq_none (by simp; omega), List.getElem?_eq_none (by rw [Nat.add_mul] at hj2; simp; omega)]
    rw [hsplit]
    exact ⟨zs, _, rfl, hE, ih⟩
/-- 'append([]T(nil), make([]T, n)...)' -/
theorem W_growNil {α : Type} [Rep α] {t tn e : TypeId} {bytes : Nat} {z : Value} {zs : List Value} {ze : α} {y u : Operand} {kk : IntKind} {n : Int}
    (hg : gd ops L ⟨some d, .call ⟨.builtin .append, #[y, u], #[t, tn]⟩, ty, pos, aft, g⟩ = some true) (hN : Nat.blt d x.N = true)
    (hT : x.P.underlying t = some (.slice e)) (hTn : x.P.underlying tn = some (.int .i64)) (hi : TyI x.P e (Rep.sz α) bytes z) (hz : z.cells = zs.toArray) (hs : Nat.blt 0 (Rep.sz α) = true) (hb0 : Nat.blt 0 bytes = true)
    (hE : Rep.E (fun _ => none) zs ze) (hy : ev L y = some (.slice none 0 0)) (hu : ev L u = some (.int kk n)) (h0 : 0 < n) (hb : n * bytes ≤ 140737488355328)
    (k : ∀ v' xs' (l : List α), Rw H v' xs' l → l.length = n.toNat → W x ops Q rest H (.row v' e (Rep.sz α) l.length xs' :: M) ((d, v') :: L)) :
    W x ops Q (⟨some d, .call ⟨.builtin .append, #[y, u], #[t, tn]⟩, ty, pos, aft, g⟩ :: rest) H M L := by
  obtain ⟨i, h1, h2, h3, h4⟩ := hi.ex
  obtain ⟨m, rfl⟩ : ∃ m : Nat, n = m := ⟨n.toNat, by omega⟩
  have hs' : 0 < Rep.sz α := by simpa [Nat.blt_eq] using hs
  have hb0' : 0 < bytes := by simpa [Nat.blt_eq] using hb0
  have hm0 : 0 < m := by omega
  have hcast : ((m * bytes : Nat) : Int) = (m : Int) * (bytes : Int) := Int.natCast_mul m bytes
  have hbn : m * bytes ≤ 140737488355328 := by omega
  have hm : m ≤ m * bytes := Nat.le_mul_of_pos_right _ hb0'
  have hmax : m ≤ maxLen := by unfold maxLen; omega
  have hE' : Rep.E H zs ze := Rep.mono (fun _ _ h => by cases h) hE
  have hzl : zs.length = Rep.sz α := Rep.len hE
  have hrd := zero_rd hE' hzl m
  have hlr : (List.replicate m ze).length = m := List.length_replicate
  refine W_run rfl hg hN fun a w hsl ht => ?_
  have hr := Go.Lib.run_append_nil_zeros (P := x.P) w t tn ty e i z kk .i64 hT hTn h1 h4 m hm0 (by omega) (by omega) (by rw [h3]; omega)
  have hge := grownCap_ge w m 0 e
  have hcm : grownCap w m 0 e ≤ maxLen := grownCap_le_maxLen w m 0 e hmax
  have hcells : (Builtin.zeroCells z.cells m).toList = (List.range (m * Rep.sz α)).map (zs.toArray[· % zs.length]!) := by
    unfold Builtin.zeroCells
    rw [hz]
    simp [hzl]
  refine ⟨.slice (some ⟨w.heap.size, 0, none⟩) m (grownCap w m 0 e), w.drew.alloc (.cells (Builtin.zeroCells z.cells m ++ Builtin.zeroCells z.cells (grownCap w m 0 e - m)) e), ?_, H,
    .row (.slice (some ⟨w.heap.size, 0, none⟩) m (grownCap w m 0 e)) e (Rep.sz α) (List.replicate m ze).length (Builtin.zeroCells z.cells m).toList :: M,
    ht.add (r' := .row (.slice (some ⟨w.heap.size, 0, none⟩) m (grownCap w m 0 e)) e (Rep.sz α) (List.replicate m ze).length (Builtin.zeroCells z.cells m).toList) ?_ ?_ ?_, k _ _ (List.replicate m ze) ⟨by rw [hcells]; exact hrd, _, _, _, rfl⟩ (by rw [hlr]; rfl)⟩
  · simp [execOp, resolve, invoke, builtin, hsl.ev hy, hsl.ev hu, hr]
  · exact ⟨rfl, rfl, rfl, by simp, fun k hk _ => heap_alloc_old w.drew _ hk⟩
  · show OwnsR _ e (Rep.sz α) _ (List.replicate m ze).length _
    rw [hlr]
    have hlen : (Builtin.zeroCells z.cells m).toList.length = m * Rep.sz α := by rw [hcells]; simp
    refine ⟨hlen, .inr ⟨w.heap.size, 0, grownCap w m 0 e, _, rfl, heap_alloc_new w.drew _, hge, hcm, ?_, ?_⟩⟩
    · have hz2 : z.cells.size = Rep.sz α := by rw [hz]; simpa using hzl
      simp only [Array.size_append, size_zeroCells, hz2, Nat.zero_add, ← Nat.add_mul]
      rw [show m + (grownCap w m 0 e - m) = grownCap w m 0 e from by omega]
      exact Nat.le_refl _
    · rw [List.drop_zero, Array.toList_append, ← hlen]
      exact List.take_left
  · intro b hb'
    simp only [Res.foot, Value.ownBlock, Option.some.injEq] at hb'
    omega
end
end Go.Sim
