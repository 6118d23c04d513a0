/-
  Owned rows: appending to a full slice that only is read; slice literals that are owned.
-/
import Derived.Test.YtfmhkgnbceoclaaSimN
namespace Go.Sim
open Go Go.RowKit
set_option linter.unusedVariables false
set_option linter.unusedSimpArgs false
set_option linter.unusedSectionVars false
set_option linter.unnecessarySimpa false

/-- A part of a list: from l to h. -/
def slc {α : Type} (xs : List α) (l h : Nat) : List α := (xs.drop l).take (h - l)
theorem slc_len {α : Type} (xs : List α) (l h : Nat) : (slc xs l h).length = min (h - l) (xs.length - l) := by simp [slc]
theorem Rw.room {α : Type} [Rep α] {H : Hp} {v : Value} {xs : List Value} {l : List α} (h : Rw H v xs l) {k : Nat} {e : α} (he : l[k]? = some e) {o m : Nat} (hb : Nat.ble (o + m) (Rep.sz α) = true) : k * Rep.sz α + o + m ≤ xs.length := by
  have hk : k < l.length := (List.getElem?_eq_some_iff.1 he).1
  have hkk : (k + 1) * Rep.sz α ≤ l.length * Rep.sz α := Nat.mul_le_mul_right _ hk
  have hb' : o + m ≤ Rep.sz α := by simpa [Nat.ble_eq] using hb
  rw [h.rd.len]
  rw [Nat.add_mul, Nat.one_mul] at hkk
  omega
theorem row_ad0 (a : Addr) (i : Nat) : a.add i = a.add (i + 0) := rfl
theorem row_ad (a : Addr) (i o : Nat) : (a.add i).add o = a.add (i + o) := add_add a i o

section
variable {x : Cx} {ops : Array Oper} {Q : Post} {rest : List Oper} {H : Hp} {M M' : List Res} {L L' : Env}
variable {d : Nat} {ty : TypeId} {pos : String} {aft : Array Edge} {g : Option (Nat × Bool)}

/-- 'append(x[:i:i], y...)': a slice without spare room that only is read: what comes out is new. -/
theorem W_appendF {α : Type} [Rep α] {t e : TypeId} {bytes : Nat} {z : Value} {y u : Operand} {v vu : Value} {l ys : List α}
    (hg : gd ops L ⟨some d, .call ⟨.builtin .append, #[y, u], #[t, t]⟩, ty, pos, aft, g⟩ = some true) (hN : Nat.blt d x.N = true)
    (hT : x.P.underlying t = some (.slice e)) (hi : TyI x.P e (Rep.sz α) bytes z) (hz : z.cells.size = Rep.sz α) (hs : Nat.blt 0 (Rep.sz α) = true) (hb0 : Nat.blt 0 bytes = true)
    (hy : ev L y = some v) (hu : ev L u = some vu) (hx : RdS H v l) (hc : Value.cap' v = l.length) (hR : RdS H vu ys) (hpos : Nat.blt 0 ys.length = true) (hb : ((l.length + ys.length) * bytes : Nat) ≤ 140737488355328)
    (k : ∀ v' xs', Rw H v' xs' (l ++ ys) → W x ops Q rest H (.row v' e (Rep.sz α) (l ++ ys).length xs' :: M) ((d, v') :: L)) :
    W x ops Q (⟨some d, .call ⟨.builtin .append, #[y, u], #[t, t]⟩, ty, pos, aft, g⟩ :: rest) H M L := by
  obtain ⟨i, h1, h2, h3, h4⟩ := hi.ex
  have hs' : 0 < Rep.sz α := by simpa [Nat.blt_eq] using hs
  have hb0' : 0 < bytes := by simpa [Nat.blt_eq] using hb0
  have hpos' : 0 < ys.length := by simpa [Nat.blt_eq] using hpos
  have hmax : l.length + ys.length ≤ maxLen := by
    have : l.length + ys.length ≤ (l.length + ys.length) * bytes := Nat.le_mul_of_pos_right _ hb0'
    unfold maxLen; omega
  have hsmall : l.length + ys.length ≤ 9223372036854775807 := by unfold maxLen at hmax; omega
  refine W_run rfl hg hN fun a w hsl ht => ?_
  obtain ⟨cs, hcs, hcase⟩ := hx.flat
  obtain ⟨ds, hds, hcase2⟩ := hR.flat
  rcases hcase2 with ⟨⟨ea, rfl⟩, rfl⟩ | ⟨hd2, b2, off2, c2, rfl⟩
  · simp at hpos'
  have hnews : ∀ j u, ds[j]? = some u → w.cell? ((⟨b2, off2, none⟩ : Addr).add j) = some u := fun j u hu => ((hd2 j u hu).at (x := x) (M := M)) w ht
  have hdl := hds.len
  have hge := grownCap_ge w (l.length + ys.length)
  have mk : ∀ (old : Nat), RdC H (cs ++ ds) (l ++ ys) → OwnsR (w.drew.alloc (.cells (cs.toArray ++ ds.toArray ++ Builtin.zeroCells z.cells (grownCap w (l.length + ys.length) old e - (l.length + ys.length))) e)) e (Rep.sz α)
        (.slice (some ⟨w.heap.size, 0, none⟩) (l.length + ys.length) (grownCap w (l.length + ys.length) old e)) (l.length + ys.length) (cs ++ ds) := by
    intro old hrd
    have hge := grownCap_ge w (l.length + ys.length) old e
    have hcm : grownCap w (l.length + ys.length) old e ≤ maxLen := grownCap_le_maxLen w (l.length + ys.length) old e hmax
    have hlen : (cs ++ ds).length = (l.length + ys.length) * Rep.sz α := by rw [hrd.len, List.length_append]
    refine ⟨hlen, .inr ⟨w.heap.size, 0, _, _, rfl, heap_alloc_new w.drew _, hge, hcm, ?_, ?_⟩⟩
    · have hlen' : cs.length + ds.length = (l.length + ys.length) * Rep.sz α := by rw [← List.length_append]; exact hlen
      simp only [Array.size_append, List.size_toArray, size_zeroCells, hz, Nat.zero_add]
      rw [hlen', ← Nat.add_mul]
      rw [show l.length + ys.length + (grownCap w (l.length + ys.length) old e - (l.length + ys.length)) = grownCap w (l.length + ys.length) old e from by omega]
      exact Nat.le_refl _
    · simp only [List.drop_zero, Array.toList_append, List.append_assoc]
      rw [← List.append_assoc, ← hlen]
      exact List.take_left
  have fin : ∀ (old : Nat), RdC H (cs ++ ds) (l ++ ys) → (Builtin.append_ #[t, t] ty #[v, .slice (some ⟨b2, off2, none⟩) ys.length c2]).run x.P w = .ok (.slice (some ⟨w.heap.size, 0, none⟩) (l.length + ys.length) (grownCap w (l.length + ys.length) old e))
        (w.drew.alloc (.cells (cs.toArray ++ ds.toArray ++ Builtin.zeroCells z.cells (grownCap w (l.length + ys.length) old e - (l.length + ys.length))) e)) →
      ∃ v' w', (execOp a.eval ⟨some d, .call ⟨.builtin .append, #[y, u], #[t, t]⟩, ty, pos, aft, g⟩).run x.P w = .ok (.value v') w' ∧ ∃ H' M', St x.B x.w0 H' M' w' ∧ W x ops Q rest H' M' ((d, v') :: L) := by
    intro old hrd hr
    have hown := mk old hrd
    refine ⟨_, (w.drew.alloc (.cells (cs.toArray ++ ds.toArray ++ Builtin.zeroCells z.cells (grownCap w (l.length + ys.length) old e - (l.length + ys.length))) e)), ?_, H, .row _ e (Rep.sz α) (l ++ ys).length (cs ++ ds) :: M, ht.add (r' := .row (.slice (some ⟨w.heap.size, 0, none⟩) (l.length + ys.length) (grownCap w (l.length + ys.length) old e)) e (Rep.sz α) (l ++ ys).length (cs ++ ds)) ?_ ?_ ?_, k _ _ ⟨hrd, _, _, _, rfl⟩⟩
    · simp [execOp, resolve, invoke, builtin, hsl.ev hy, hsl.ev hu, hr]
    · exact ⟨rfl, rfl, rfl, by simp, fun k hk _ => heap_alloc_old w.drew _ hk⟩
    · show OwnsR _ e (Rep.sz α) _ (l ++ ys).length (cs ++ ds)
      rw [List.length_append]; exact hown
    · intro b hb
      simp only [Res.foot, Value.ownBlock, Option.some.injEq] at hb
      omega
  rcases hcase with ⟨⟨ea, rfl⟩, rfl⟩ | ⟨hc1, b1, off1, c1, rfl⟩
  · have hcs' : cs = [] := hcs
    subst hcs'
    have hl0 : ([] : List α).length + ys.length = ys.length := by simp
    cases ea with
    | none =>
      have hr := run_append_nil (P := x.P) w t ty e i z hT h1 h4 ⟨b2, off2, none⟩ ys.length c2 ds (by rw [h2]; exact hdl) hnews (by omega) (by rw [hl0] at hsmall; omega) (by have hb' := hb; rw [hl0] at hb'; rw [h3]; omega)
      refine fin 0 (hcs.app hds) ?_
      simp only [hl0]
      simpa using hr
    | some ea =>
      have hr := run_append_grow (P := x.P) w t ty e i z hT h1 h4 ea 0 0 [] (by simp) (by simp) ⟨b2, off2, none⟩ ys.length c2 ds (by rw [h2]; exact hdl) hnews (by omega) (by rw [hl0] at hsmall; omega) (growslice_fits (by omega) (by rw [h3]; simpa using hb))
      refine fin 0 (hcs.app hds) ?_
      simpa using hr
  · have hc' : c1 = l.length := hc
    subst hc'
    have hr := run_append_grow (P := x.P) w t ty e i z hT h1 h4 ⟨b1, off1, none⟩ l.length l.length cs (by rw [h2]; exact hcs.len) (fun j u hu => ((hc1 j u hu).at (x := x) (M := M)) w ht) ⟨b2, off2, none⟩ ys.length c2 ds (by rw [h2]; exact hdl) hnews (by omega) (by omega) (growslice_fits (by omega) (by rw [h3]; exact hb))
    exact fin l.length (hcs.app hds) hr

/-- A slice literal without elements. -/
theorem W_build0 (α : Type) [Rep α] {T e : TypeId}
    (hg : gd ops L ⟨some d, .buildSlice T 0 #[], ty, pos, aft, g⟩ = some true) (hN : Nat.blt d x.N = true)
    (hT : ∀ w, (underlying T).run x.P w = .ok (.slice e) w) (hs : ∀ w, (sizeOf e).run x.P w = .ok (Rep.sz α) w)
    (k : ∀ v' xs', Rw H v' xs' ([] : List α) → W x ops Q rest H (.row v' e (Rep.sz α) ([] : List α).length xs' :: M) ((d, v') :: L)) :
    W x ops Q (⟨some d, .buildSlice T 0 #[], ty, pos, aft, g⟩ :: rest) H M L := by
  refine W_run rfl hg hN fun a w hsl ht => ?_
  have hnr : ∀ c w, (newRow e c).run x.P w = .ok ⟨w.heap.size, 0, none⟩ (w.alloc (.cells c e)) := fun c w => by
    simp only [newRow, newObj, Sem.run_bind, Sem.run_pure, Sem.run, Result.andThen_ok, World.alloc]
  refine ⟨.slice (some ⟨w.heap.size, 0, none⟩) 0 0, _, ?_, H, _, St.newRow (α := α) (cells := []) (l := []) (e := e) ht rfl (by unfold maxLen; simp), k _ _ ⟨rfl, _, _, _, rfl⟩⟩
  simp only [execOp, Instr.buildSlice, Sem.run_bind, hT, hs, Result.andThen_ok, Nat.zero_mul, Nat.not_lt_zero, gt_iff_lt, if_false, if_true, Sem.run_pure]
  simp [Instr.fill, hnr, Array.range]
end
end Go.Sim
