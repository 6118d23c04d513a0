/-
  Owned rows: how they are made, cut and lengthened.
-/
import Derived.Test.YtfmhkgnbceoclaaSimM
namespace Go.Sim
open Go Go.RowKit
set_option linter.unusedVariables false
set_option linter.unusedSimpArgs false
set_option linter.unusedSectionVars false
set_option linter.unnecessarySimpa false

section
variable {x : Cx} {ops : Array Oper} {Q : Post} {rest : List Oper} {H : Hp} {M M' : List Res} {L L' : Env}
variable {d : Nat} {ty : TypeId} {pos : String} {aft : Array Edge} {g : Option (Nat × Bool)}

theorem OwnsR.shape {w : World} {T : TypeId} {sz n : Nat} {v : Value} {xs : List Value} (h : OwnsR w T sz v n xs) : ∃ a n c, v = .slice a n c := by
  rcases h.2 with ⟨rfl, _⟩ | ⟨gb, off, cap, cur, rfl, _⟩ <;> exact ⟨_, _, _, rfl⟩

/-- 'append(out, xs...)': out is owned and stands first; xs only is read. -/
theorem W_appendO {α : Type} [Rep α] {t e : TypeId} {bytes n : Nat} {z : Value} {y u : Operand} {v vu : Value} {xs : List Value} {l ys : List α}
    (hg : gd ops L ⟨some d, .call ⟨.builtin .append, #[y, u], #[t, t]⟩, ty, pos, aft, g⟩ = some true) (hN : Nat.blt d x.N = true)
    (hT : x.P.underlying t = some (.slice e)) (hi : TyI x.P e (Rep.sz α) bytes z) (hz : z.cells.size = Rep.sz α) (hs : Nat.blt 0 (Rep.sz α) = true) (hb0 : Nat.blt 0 bytes = true)
    (hy : ev L y = some v) (hu : ev L u = some vu) (hx : Rw H v xs l) (hR : RdS H vu ys) (hb : ((l.length + ys.length) * bytes : Nat) ≤ 140737488355328)
    (k : ∀ v' xs', Rw H v' xs' (l ++ ys) → W x ops Q rest H (.row v' e (Rep.sz α) (l ++ ys).length xs' :: M) ((d, v') :: L)) :
    W x ops Q (⟨some d, .call ⟨.builtin .append, #[y, u], #[t, t]⟩, ty, pos, aft, g⟩ :: rest) H (.row v e (Rep.sz α) n xs :: M) L := by
  refine W_append hg hN hT hi hz hs hb0 hy hu hx.rd hR hb fun v' n' xs' hx' => ?_
  intro a w hsl ht
  have hok : OwnsR w e (Rep.sz α) v' n' xs' := ht.ok _ (List.mem_cons_self ..)
  have hn : n' = (l ++ ys).length := by
    have h1 := hx'.len
    rw [hok.1] at h1
    exact Nat.eq_of_mul_eq_mul_right (by simpa [Nat.blt_eq] using hs) h1
  subst hn
  exact k v' xs' ⟨hx', hok.shape⟩ a w hsl ht

/-- An owned row with new memory. -/
theorem St.newRow {α : Type} [Rep α] {B : Nat} {w0 w : World} {cells : List Value} {e : TypeId} {l : List α} (ht : St B w0 H M w) (hr : RdC H cells l) (hm : l.length ≤ maxLen) :
    St B w0 H (.row (.slice (some ⟨w.heap.size, 0, none⟩) l.length l.length) e (Rep.sz α) l.length cells :: M) (w.alloc (.cells cells.toArray e)) := by
  have h := ht.alloc (.cells cells.toArray e)
  have hl := hr.len
  refine ⟨h.below, h.le, h.hin, ?_, ?_, h.nd⟩
  · intro r hr'
    rcases List.mem_cons.1 hr' with rfl | hr'
    · refine ⟨hl, .inr ⟨w.heap.size, 0, l.length, cells.toArray, rfl, h.ok _ (List.mem_cons_self ..), Nat.le_refl _, hm, by simp only [List.size_toArray]; omega, ?_⟩⟩
      rw [← hl, List.toList_toArray, List.drop_zero, List.take_length]
    · exact h.ok r (List.mem_cons_of_mem _ hr')
  · intro r hr'
    rcases List.mem_cons.1 hr' with rfl | hr'
    · exact h.lo (.obj w.heap.size (.cells cells.toArray e)) (List.mem_cons_self ..)
    · exact h.lo r (List.mem_cons_of_mem _ hr')

/-- 'make([]T, n)'. -/
theorem W_makeSlice {α : Type} [Rep α] {t e : TypeId} {bytes : Nat} {z : Value} {zs : List Value} {ze : α} {y y2 : Operand} {n : Int}
    (hg : gd ops L ⟨some d, .makeSlice t y y2, ty, pos, aft, g⟩ = some true) (hN : Nat.blt d x.N = true)
    (hT : x.P.underlying t = some (.slice e)) (hi : TyI x.P e (Rep.sz α) bytes z) (hz : z.cells = zs.toArray) (hs : Nat.blt 0 (Rep.sz α) = true) (hb0 : Nat.blt 0 bytes = true)
    (hE : Rep.E H zs ze) (hy : ev L y = some (.int .i64 n)) (hy2 : ev L y2 = some (.int .i64 n)) (h0 : 0 ≤ n) (hb : n * bytes ≤ 140737488355328)
    (k : ∀ v' xs', Rw H v' xs' (List.replicate n.toNat ze) → W x ops Q rest H (.row v' e (Rep.sz α) (List.replicate n.toNat ze).length xs' :: M) ((d, v') :: L)) :
    W x ops Q (⟨some d, .makeSlice t y y2, ty, pos, aft, g⟩ :: rest) H M L := by
  obtain ⟨i, h1, h2, h3, h4⟩ := hi.ex
  obtain ⟨m, rfl⟩ : ∃ m : Nat, n = m := ⟨n.toNat, by omega⟩
  have hs' : 0 < Rep.sz α := by simpa [Nat.blt_eq] using hs
  have hb0' : 0 < bytes := by simpa [Nat.blt_eq] using hb0
  have hcast : ((m * bytes : Nat) : Int) = (m : Int) * (bytes : Int) := Int.natCast_mul m bytes
  have hbn : m * bytes ≤ 140737488355328 := by omega
  have hm : m ≤ m * bytes := Nat.le_mul_of_pos_right _ hb0'
  have hzl : zs.length = Rep.sz α := Rep.len hE
  have hmax : m ≤ maxLen := by unfold maxLen; omega
  have hw : IntKind.i64.wrap (m : Int) = m := i64_of (by omega) (by omega)
  simp only [Int.toNat_natCast] at k
  have hrd : ∀ q, RdC H ((List.range (q * Rep.sz α)).map (zs.toArray[· % zs.length]!)) (List.replicate q ze) := by
    intro q
    induction q with
    | zero => rw [Nat.zero_mul]; exact rfl
    | succ q ih =>
      have hsplit : (List.range ((q + 1) * Rep.sz α)).map (zs.toArray[· % zs.length]!) = zs ++ (List.range (q * Rep.sz α)).map (zs.toArray[· % zs.length]!) := by
        apply List.ext_getElem?
        intro j
        rw [List.getElem?_append, List.getElem?_map]
        by_cases hj : j < zs.length
        · rw [if_pos hj, List.getElem?_range (by rw [Nat.add_mul]; omega)]
          simp [Nat.mod_eq_of_lt hj, hj]
        · rw [if_neg hj, List.getElem?_map]
          by_cases hj2 : j < (q + 1) * Rep.sz α
          · rw [List.getElem?_range hj2, List.getElem?_range (by rw [Nat.add_mul] at hj2; omega)]
            simp only [Option.map_some]
            rw [← Nat.mod_eq_sub_mod (by omega)]
          · rw [List.getElem?_eq_none (by simp; omega), List.getElem?_eq_none (by rw [Nat.add_mul] at hj2; simp; omega)]
      rw [hsplit]
      exact ⟨zs, _, rfl, hE, ih⟩
  have hlr : (List.replicate m ze).length = m := List.length_replicate
  refine W_run rfl hg hN fun a w hsl ht => ?_
  refine ⟨.slice (some ⟨w.heap.size, 0, none⟩) (List.replicate m ze).length (List.replicate m ze).length, _, ?_, H, _, St.newRow (e := e) ht (hrd m) (by rw [hlr]; exact hmax), k _ _ ⟨hrd m, _, _, _, rfl⟩⟩
  have e1 : ¬ ((i.bytes : Int) * (m : Int) > 2 ^ 48) := by
    rw [h3, Int.mul_comm]
    omega
  have e3 : ¬ (m * i.bytes > roomBytes) := by rw [h3]; unfold roomBytes; omega
  have e4 : ¬ ((m : Int) < 0) := by omega
  have hti : ∀ w, (typeInfo e).run x.P w = .ok i w := fun w => by simp [typeInfo, h1]
  have hsz : ∀ w, (sizeOf e).run x.P w = .ok (Rep.sz α) w := fun w => by simp [sizeOf, hti, h2]
  have hzv : ∀ w, (zeroValue e).run x.P w = .ok z w := fun w => by simp [zeroValue, hti, h4]
  have hun : ∀ w, (underlying t).run x.P w = .ok (.slice e) w := fun w => run_underlying hT w
  have hnr : ∀ c w, (newRow e c).run x.P w = .ok ⟨w.heap.size, 0, none⟩ (w.alloc (.cells c e)) := fun c w => by
    simp only [newRow, newObj, Sem.run_bind, Sem.run_pure, Sem.run, Result.andThen_ok, World.alloc]
  rw [hlr]
  by_cases hm0 : m * Rep.sz α = 0
  · have : m = 0 := by
      rcases Nat.mul_eq_zero.1 hm0 with h | h <;> omega
    subst this
    simp only [execOp, hsl.ev hy, hsl.ev hy2, Instr.makeSlice, Sem.run_bind, hun, Result.andThen_ok, asInt, asIntOf, Sem.run_pure, hti, hw, e1, e4, decide_false, Bool.or_self, Bool.false_eq_true, if_false, Int.toNat_natCast, askRoom, hsz, hm0, if_true, hnr, gt_iff_lt, Int.lt_irrefl, Nat.zero_mul, Nat.not_lt_zero]
    simp [Array.range]
  · have e6 : (Array.range (m * Rep.sz α)).map (fun j => zs.toArray[j % zs.toArray.size]!) = ((List.range (m * Rep.sz α)).map (zs.toArray[· % zs.length]!)).toArray := by
      apply Array.ext'
      simp
    simp only [execOp, hsl.ev hy, hsl.ev hy2, Instr.makeSlice, Sem.run_bind, hun, Result.andThen_ok, asInt, asIntOf, Sem.run_pure, hti, hw, e1, e4, decide_false, Bool.or_self, Bool.false_eq_true, if_false, Int.toNat_natCast, askRoom, e3, hsz, hm0, hzv, hz, e6, hnr, gt_iff_lt, Int.lt_irrefl]

/-! ### Slice expressions -/
theorem run_sliceBound {P : Program} {w : World} {kk : IntKind} {i : Int} {y : Nat} {c : BoundsCode} (h0 : 0 ≤ i) (h1 : i ≤ y) : (Instr.sliceBound (.int kk i) y c).run P w = .ok i.toNat w := by
  simp [Instr.sliceBound, asIntOf, h0, h1]
/-- A bound: not written (then it is dflt), or a number from 0 to top. -/
def Bd (o : Option Value) (dflt top r : Nat) : Prop := (o = none ∧ r = dflt) ∨ ∃ kk i, o = some (.int kk i) ∧ 0 ≤ i ∧ i ≤ top ∧ i.toNat = r
/-- low, high (where none: the length), and the capacity of what comes out. -/
theorem run_sliceBounds {P : Program} {w : World} {len cap : Nat} {lo hi mx : Option Value} {l h m : Nat}
    (hmh : mx = none ∨ ∃ v, hi = some v) (hm : Bd mx cap cap m) (hh : Bd hi len m h) (hl : Bd lo 0 h l) :
    (Instr.sliceBounds true len cap lo hi mx).run P w = .ok (l, h, m) w := by
  rcases hm with ⟨rfl, rfl⟩ | ⟨km, im, rfl, m0, m1, rfl⟩
  · rcases hh with ⟨rfl, rfl⟩ | ⟨kh, ih, rfl, h0, h1, rfl⟩
    · rcases hl with ⟨rfl, rfl⟩ | ⟨kl, il, rfl, l0, l1, rfl⟩
      · simp only [Instr.sliceBounds, Sem.run_bind, Sem.run_pure, Result.andThen_ok]
      · simp only [Instr.sliceBounds, Sem.run_bind, Sem.run_pure, Result.andThen_ok, run_sliceBound l0 l1]
    · rcases hl with ⟨rfl, rfl⟩ | ⟨kl, il, rfl, l0, l1, rfl⟩
      · simp only [Instr.sliceBounds, Sem.run_bind, Sem.run_pure, Result.andThen_ok, run_sliceBound h0 h1]
      · simp only [Instr.sliceBounds, Sem.run_bind, Sem.run_pure, Result.andThen_ok, run_sliceBound h0 h1, run_sliceBound l0 l1]
  · rcases hmh with hmh | ⟨v, rfl⟩
    · cases hmh
    · rcases hh with ⟨hh, _⟩ | ⟨kh, ih, hh, h0, h1, rfl⟩
      · cases hh
      · obtain rfl := Option.some.inj hh
        rcases hl with ⟨rfl, rfl⟩ | ⟨kl, il, rfl, l0, l1, rfl⟩
        · simp only [Instr.sliceBounds, Sem.run_bind, Sem.run_pure, Result.andThen_ok, run_sliceBound m0 m1, run_sliceBound h0 h1]
        · simp only [Instr.sliceBounds, Sem.run_bind, Sem.run_pure, Result.andThen_ok, run_sliceBound m0 m1, run_sliceBound h0 h1, run_sliceBound l0 l1]
/-- The same, on operands. -/
def BdO (L : Env) (o : Option Operand) (dflt top r : Nat) : Prop := (o = none ∧ r = dflt) ∨ ∃ o' kk i, o = some o' ∧ ev L o' = some (.int kk i) ∧ 0 ≤ i ∧ i ≤ top ∧ i.toNat = r
theorem BdO.bd {N : Nat} {a : Act} {o : Option Operand} {dflt top r : Nat} (hs : Sl N L a) (h : BdO L o dflt top r) : Bd (o.map a.eval) dflt top r := by
  rcases h with ⟨rfl, rfl⟩ | ⟨o', kk, i, rfl, he, h0, h1, rfl⟩
  · exact .inl ⟨rfl, rfl⟩
  · exact .inr ⟨kk, i, by simp [hs.ev he], h0, h1, rfl⟩
theorem run_sliceAt {P : Program} {w : World} {t e : TypeId} {sz len cap : Nat} {a : Option Addr} {lo hi mx : Option Value} {l h m : Nat} (hT : ∀ w, (underlying t).run P w = .ok (.slice e) w) (hs : ∀ w, (sizeOf e).run P w = .ok sz w)
    (hmh : mx = none ∨ ∃ v, hi = some v) (hm : Bd mx cap cap m) (hh : Bd hi len m h) (hl : Bd lo 0 h l) :
    (Instr.sliceAt t (.slice a len cap) lo hi mx).run P w = .ok (.slice (if m = l then a else a.map (·.add (l * sz))) (h - l) (m - l)) w := by
  simp only [Instr.sliceAt, Sem.run_bind, hT, Result.andThen_ok, Instr.slice, run_sliceBounds hmh hm hh hl, hs, Sem.run_pure]

theorem mx_hi {a : Act} {mx hi : Option Operand} (h : mx = none ∨ ∃ o, hi = some o) : mx.map a.eval = none ∨ ∃ v, hi.map a.eval = some v := by
  rcases h with rfl | ⟨o, rfl⟩
  · exact .inl rfl
  · exact .inr ⟨_, rfl⟩

/-- A part of a slice that only is read; the capacity is kept, or cut to the part's end ('x[:i:i]'). -/
theorem W_sliceR {α : Type} [Rep α] {t e : TypeId} {y : Operand} {lo hi mx : Option Operand} {v : Value} {xs : List α} {l h : Nat} (hg : gd ops L ⟨some d, .slice t y lo hi mx, ty, pos, aft, g⟩ = some true) (hN : Nat.blt d x.N = true)
    (hT : ∀ w, (underlying t).run x.P w = .ok (.slice e) w) (hs : ∀ w, (sizeOf e).run x.P w = .ok (Rep.sz α) w)
    (hy : ev L y = some v) (hR : RdS H v xs) (hlh : l ≤ h) (hhx : h ≤ xs.length) (hmh : mx = none ∨ ∃ o, hi = some o)
    (hm : ∀ cap, h ≤ cap → BdO L mx cap cap (if mx = none then cap else h)) (hh : ∀ m, h ≤ m → BdO L hi xs.length m h) (hl : BdO L lo 0 h l)
    (k : ∀ v', RdS H v' ((xs.drop l).take (h - l)) → (mx ≠ none → Value.cap' v' = h - l) → W x ops Q rest H M ((d, v') :: L)) :
    W x ops Q (⟨some d, .slice t y lo hi mx, ty, pos, aft, g⟩ :: rest) H M L := by
  have hlen : ((xs.drop l).take (h - l)).length = h - l := by simp; omega
  rcases hR with ⟨⟨a0, rfl⟩, rfl⟩ | ⟨b, off, cap, arr, T, fz, rfl, h2, h3, h4, h5, h6⟩
  · have hl0 : l = 0 := by simp at hhx; omega
    have hh0 : h = 0 := by simp at hhx; omega
    subst hl0; subst hh0
    have hif : (if mx = none then 0 else 0) = 0 := by split <;> rfl
    refine W_pure (v := .slice a0 0 0) rfl hg hN (fun c w hsl ht => ?_) (k _ (.inl ⟨⟨_, rfl⟩, by simp⟩) (fun _ => rfl))
    have hm' := (hm 0 (Nat.le_refl _)).bd hsl
    rw [hif] at hm'
    have hr := run_sliceAt (P := x.P) (w := w) (len := 0) (cap := 0) (a := a0) hT hs (mx_hi hmh) hm' ((hh 0 (Nat.le_refl _)).bd hsl) (hl.bd hsl)
    simp only [Nat.sub_self, if_true] at hr
    simp only [execOp, hsl.ev hy, Sem.run_bind, hr, Result.andThen_ok, Sem.run_pure]
  · have hmc : h ≤ (if mx = none then cap else h) ∧ (if mx = none then cap else h) ≤ cap := by split <;> omega
    generalize hmm : (if mx = none then cap else h) = m at hmc
    refine W_pure (v := .slice (if m = l then some ⟨b, off, none⟩ else some ((⟨b, off, none⟩ : Addr).add (l * Rep.sz α))) (h - l) (m - l)) rfl hg hN (fun c w hsl ht => ?_) (k _ ?_ ?_)
    · have hm' := (hm cap (by omega)).bd hsl
      rw [hmm] at hm'
      simp only [execOp, hsl.ev hy, Sem.run_bind, run_sliceAt hT hs (mx_hi hmh) hm' ((hh m hmc.1).bd hsl) (hl.bd hsl), Result.andThen_ok, Sem.run_pure]
      split <;> rfl
    · by_cases hml : m = l
      · have : h - l = 0 := by omega
        have e0 : m - l = 0 := by omega
        rw [if_pos hml, this, e0]
        exact .inl ⟨⟨_, rfl⟩, by simp⟩
      · rw [if_neg hml, Addr.add_lit]
        have hmul : l * Rep.sz α + (m - l) * Rep.sz α ≤ cap * Rep.sz α := by
          rw [← Nat.add_mul]; exact Nat.mul_le_mul_right _ (by omega)
        refine .inr ⟨b, off + l * Rep.sz α, m - l, arr, T, fz, by rw [hlen], by omega, by omega, h4, by omega, fun j el hel => ?_⟩
        rw [List.getElem?_take] at hel
        split at hel
        · rw [List.getElem?_drop] at hel
          obtain ⟨cs, q1, q2⟩ := h6 (l + j) el hel
          refine ⟨cs, q1, fun i c hc => ?_⟩
          rw [show off + l * Rep.sz α + j * Rep.sz α + i = off + (l + j) * Rep.sz α + i by rw [Nat.add_mul]; omega]
          exact q2 i c hc
        · cases hel
    · intro hne
      rw [if_neg hne] at hmm
      subst hmm; rfl

/-- A part of an owned row, from its beginning or not: the rest is given up. -/
theorem W_sliceOC {α : Type} [Rep α] {t e T : TypeId} {n : Nat} {y : Operand} {lo hi : Option Operand} {v : Value} {cs : List Value} {xs : List α} {l h : Nat} (hg : gd ops L ⟨some d, .slice t y lo hi none, ty, pos, aft, g⟩ = some true) (hN : Nat.blt d x.N = true)
    (hT : ∀ w, (underlying t).run x.P w = .ok (.slice e) w) (hs : ∀ w, (sizeOf e).run x.P w = .ok (Rep.sz α) w) (hs0 : Nat.blt 0 (Rep.sz α) = true)
    (hy : ev L y = some v) (hR : Rw H v cs xs) (hlh : l ≤ h) (hhx : h ≤ xs.length)
    (hh : ∀ m, h ≤ m → BdO L hi xs.length m h) (hl : BdO L lo 0 h l)
    (k : ∀ v' cs', Rw H v' cs' ((xs.drop l).take (h - l)) → Value.cap' v' = Value.cap' v - l → W x ops Q rest H (.row v' T (Rep.sz α) ((xs.drop l).take (h - l)).length cs' :: M) ((d, v') :: L)) :
    W x ops Q (⟨some d, .slice t y lo hi none, ty, pos, aft, g⟩ :: rest) H (.row v T (Rep.sz α) n cs :: M) L := by
  have hlen : ((xs.drop l).take (h - l)).length = h - l := by simp; omega
  refine W_run rfl hg hN fun a w hsl ht => ?_
  have hok : OwnsR w T (Rep.sz α) v n cs := ht.ok _ (List.mem_cons_self ..)
  have hn : n = xs.length := by
    have h1 := hR.rd.len
    rw [hok.1] at h1
    exact Nat.eq_of_mul_eq_mul_right (by simpa [Nat.blt_eq] using hs0) h1
  subst hn
  have hrd := (hR.rd.split h).1.split l
  have hrd2 : RdC H ((cs.take (h * Rep.sz α)).drop (l * Rep.sz α)) ((xs.drop l).take (h - l)) := by
    have := hrd.2
    rwa [List.drop_take (l := xs)] at this
  have hcl := hrd2.len
  rcases hok.2 with ⟨rfl, h0⟩ | ⟨gb, off, cap, cur, rfl, hgb, hnc, hcm, hcs, htake⟩
  · have hl0 : l = 0 := by omega
    have hh0 : h = 0 := by omega
    subst hl0; subst hh0
    refine ⟨.slice none 0 0, w, ?_, H, _, ?_, k _ [] (by simpa using (Rw.nil : Rw H (.slice none 0 0) [] ([] : List α))) rfl⟩
    · have hh' := (hh 0 (Nat.le_refl _)).bd hsl
      rw [h0] at hh'
      have hr := run_sliceAt (P := x.P) (w := w) (len := 0) (cap := 0) (a := none) (mx := none) hT hs (.inl rfl) (.inl ⟨rfl, rfl⟩) hh' (hl.bd hsl)
      simp only [Nat.sub_self, if_true] at hr
      simp only [execOp, hsl.ev hy, Sem.run_bind, Option.map_none, hr, Result.andThen_ok, Sem.run_pure]
    · have := ht.tail.nilRow T (Rep.sz α)
      simpa using this
  · refine ⟨.slice (if cap = l then some ⟨gb, off, none⟩ else some ((⟨gb, off, none⟩ : Addr).add (l * Rep.sz α))) (h - l) (cap - l), w, ?_, H, _, ?_, k _ _ ⟨hrd2, _, _, _, rfl⟩ rfl⟩
    · simp only [execOp, hsl.ev hy, Sem.run_bind, run_sliceAt (mx := none) (m := cap) hT hs (.inl rfl) (.inl ⟨rfl, rfl⟩) ((hh cap (by omega)).bd hsl) (hl.bd hsl), Option.map_none, Result.andThen_ok, Sem.run_pure]
      split <;> rfl
    · have hgr : w.grownBy w (Res.foot (.row (.slice (some ⟨gb, off, none⟩) xs.length cap) T (Rep.sz α) xs.length cs)) := ⟨rfl, rfl, rfl, Nat.le_refl _, fun _ _ _ => rfl⟩
      rw [hlen]
      have hmul : l * Rep.sz α + (cap - l) * Rep.sz α = cap * Rep.sz α := by rw [← Nat.add_mul]; congr 1; omega
      have hmul2 : h * Rep.sz α = l * Rep.sz α + (h - l) * Rep.sz α := by rw [← Nat.add_mul]; congr 1; omega
      have hmul3 : h * Rep.sz α ≤ xs.length * Rep.sz α := Nat.mul_le_mul_right _ hhx
      have hxl : cs.length = xs.length * Rep.sz α := hok.1
      by_cases hcl2 : cap = l
      · have e1 : h - l = 0 := by omega
        have e2 : cap - l = 0 := by omega
        rw [if_pos hcl2, e1, e2]
        have e3 : (cs.take (h * Rep.sz α)).drop (l * Rep.sz α) = [] := by
          apply List.eq_nil_of_length_eq_zero; rw [hcl, hlen, e1, Nat.zero_mul]
        rw [e3]
        exact ht.upd (r' := .row (.slice (some ⟨gb, off, none⟩) 0 0) T (Rep.sz α) 0 []) hgr ⟨by simp, .inr ⟨gb, off, 0, cur, rfl, hgb, Nat.le_refl _, by unfold maxLen; omega, by omega, by simp⟩⟩ (fun c hc => .inl hc)
      · rw [if_neg hcl2, Addr.add_lit]
        refine ht.upd (r' := .row (.slice (some ⟨gb, off + l * Rep.sz α, none⟩) (h - l) (cap - l)) T (Rep.sz α) (h - l) _) hgr ⟨?_, .inr ⟨gb, off + l * Rep.sz α, cap - l, cur, rfl, hgb, by omega, by omega, by omega, ?_⟩⟩ (fun c hc => .inl hc)
        · rw [hcl, hlen]
        · rw [← htake, List.take_take, Nat.min_eq_left hmul3, List.drop_take, List.drop_drop]
          congr 1; omega
theorem W_sliceO {α : Type} [Rep α] {t e T : TypeId} {n : Nat} {y : Operand} {lo hi : Option Operand} {v : Value} {cs : List Value} {xs : List α} {l h : Nat} (hg : gd ops L ⟨some d, .slice t y lo hi none, ty, pos, aft, g⟩ = some true) (hN : Nat.blt d x.N = true)
    (hT : ∀ w, (underlying t).run x.P w = .ok (.slice e) w) (hs : ∀ w, (sizeOf e).run x.P w = .ok (Rep.sz α) w) (hs0 : Nat.blt 0 (Rep.sz α) = true)
    (hy : ev L y = some v) (hR : Rw H v cs xs) (hlh : l ≤ h) (hhx : h ≤ xs.length)
    (hh : ∀ m, h ≤ m → BdO L hi xs.length m h) (hl : BdO L lo 0 h l)
    (k : ∀ v' cs', Rw H v' cs' ((xs.drop l).take (h - l)) → W x ops Q rest H (.row v' T (Rep.sz α) ((xs.drop l).take (h - l)).length cs' :: M) ((d, v') :: L)) :
    W x ops Q (⟨some d, .slice t y lo hi none, ty, pos, aft, g⟩ :: rest) H (.row v T (Rep.sz α) n cs :: M) L :=
  W_sliceOC hg hN hT hs hs0 hy hR hlh hhx hh hl (fun v' cs' h _ => k v' cs' h)
end
end Go.Sim
