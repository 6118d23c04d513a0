/-
  Array literals; literals that are owned; results that lie in memory.
-/
import Derived.Test.YtfmhkgnbceoclaaSimT
namespace Go.Sim
open Go Go.RowKit
set_option linter.unusedVariables false
set_option linter.unusedSimpArgs false
set_option linter.unusedSectionVars false
set_option linter.unnecessarySimpa false

theorem cells_map {α : Type} {f : α → Value} {l : List α} {k : Nat} {y : α} (he : l[k]? = some y) : (l.map f)[k * 1]? = some (f y) := by
  rw [Nat.mul_one, List.getElem?_map, he]; rfl

section
variable {x : Cx} {ops : Array Oper} {Q : Post} {rest : List Oper} {H : Hp} {M M' : List Res} {L L' : Env}
variable {d : Nat} {ty : TypeId} {pos : String} {aft : Array Edge} {g : Option (Nat × Bool)}

/-- The address of an array's element, at any place that is known. -/
theorem W_indexAd {t e m sz : Nat} {y z : Operand} {ad : Addr} {kk : IntKind} {i : Int}
    (hg : gd ops L ⟨some d, .indexAddr t y z, ty, pos, aft, g⟩ = some true) (hN : Nat.blt d x.N = true)
    (hT : ∀ w, (underlying t).run x.P w = .ok (.array m e) w) (hs : ∀ w, (sizeOf e).run x.P w = .ok sz w)
    (hy : ev L y = some (.pointer (some ad))) (hz : ev L z = some (.int kk i)) (h0 : 0 ≤ i) (h1 : i.toNat < m)
    (k : W x ops Q rest H M ((d, .pointer (some (ad.add (i.toNat * sz)))) :: L)) :
    W x ops Q (⟨some d, .indexAddr t y z, ty, pos, aft, g⟩ :: rest) H M L :=
  W_pure rfl hg hN (fun c w hsl ht => by
    have h1' : i < (m : Int) := by omega
    simp [execOp, hsl.ev hy, hsl.ev hz, Instr.indexAt, asIntOf, hT, hs, h0, h1', Instr.sureAddr]) k

/-- A store into an owned row; the model's list is another one of the same length. -/
theorem W_storeO2 {T E : TypeId} {m sz n n' i : Nat} {y z : Operand} {v u : Value} {ad : Addr} {xs cs : List Value} (hg : gd ops L ⟨none, .store T y z, ty, pos, aft, g⟩ = some true)
    (hn : ∀ w, (sizeOf T).run x.P w = .ok m w) (hy : ev L y = some (.pointer (some ad))) (had : ad = (Value.base v).add i) (hz : ev L z = some u) (hv : u.cells = cs.toArray) (hl : cs.length = m)
    (hb : i + cs.length ≤ xs.length) (hpos : Nat.blt 0 cs.length = true) (h1 : ∀ c ∈ cs, c.oneCell' = true) (hnn : n' = n)
    (k : W x ops Q rest H (.row v E sz n' (over xs i cs) :: M) L) :
    W x ops Q (⟨none, .store T y z, ty, pos, aft, g⟩ :: rest) H (.row v E sz n xs :: M) L := by
  subst hnn
  exact W_storeO hg hn hy had hz hv hl hb hpos h1 k

/-- A whole array is stored. -/
theorem W_storeArr {α : Type} [Rep α] {T E : TypeId} {m : Nat} {y z : Operand} {v : Value} {xs cs : List Value} {l l2 : List α} (hg : gd ops L ⟨none, .store T y z, ty, pos, aft, g⟩ = some true)
    (hn : ∀ w, (sizeOf T).run x.P w = .ok m w) (hy : ev L y = some (.pointer (some (Value.base v)))) (hz : ev L z = some (.agg cs.toArray)) (hx : Rw H v xs l) (hc : RdC H cs l2) (hll : l2.length = l.length)
    (hsz : Nat.blt 0 (Rep.sz α) = true) (hm0 : Nat.blt 0 m = true) (hml : l2.length * Rep.sz α = m)
    (k : Rw H v cs l2 → W x ops Q rest H (.row v E (Rep.sz α) l2.length cs :: M) L) :
    W x ops Q (⟨none, .store T y z, ty, pos, aft, g⟩ :: rest) H (.row v E (Rep.sz α) l.length xs :: M) L := by
  have hcl := hc.len
  have hxl := hx.rd.len
  have hm0' : 0 < m := by simpa [Nat.blt_eq] using hm0
  have he : cs.length = xs.length := by rw [hcl, hxl, hll]
  refine W_storeO2 (i := 0) (cs := cs) (n' := l2.length) hg hn hy rfl hz rfl (by omega) (by omega) (by simp [Nat.blt_eq]; omega) hc.one hll ?_
  rw [over_all (l := xs) (cs := cs) (by rw [he]; exact Nat.beq_refl _)]
  exact k ⟨hc, hx.sl⟩

/-- An array literal. -/
theorem W_buildArr {T e m sz : Nat} {ps : List (Nat × Operand)} {vs : List Value} {css : List (List Value)} {z : Value} {zs out : List Value} {places : List (Nat × Nat)}
    (hg : gd ops L ⟨some d, .build T ps.toArray, ty, pos, aft, g⟩ = some true) (hN : Nat.blt d x.N = true)
    (hv : evs L (ps.map (·.2)) = some vs) (hc : CellsL vs css)
    (hz : ∀ w, (zeroValue T).run x.P w = .ok z w) (hzs : z.cells = zs.toArray) (hT : ∀ w, (underlying T).run x.P w = .ok (.array m e) w) (hs : ∀ w, (sizeOf e).run x.P w = .ok sz w)
    (hpl : places = (List.range m).map fun i => (i * sz, sz))
    (ho : laid places zs ((ps.map (·.1)).zip css) = some out)
    (k : W x ops Q rest H M ((d, .agg out.toArray) :: L)) :
    W x ops Q (⟨some d, .build T ps.toArray, ty, pos, aft, g⟩ :: rest) H M L :=
  W_pure rfl hg hN (fun a w hsl ht => by
    have hl : (ps.map (·.1)).length = vs.length := by rw [← hsl.evs hv]; simp
    have hf := fill_laid (place := fun i => some (i * sz, sz)) (places := places) (fun i o h => by
      rw [hpl, List.getElem?_map] at h
      cases hh : (List.range m)[i]? with
      | none => rw [hh] at h; cases h
      | some j =>
        rw [hh] at h
        have : j = i := by
          have := List.getElem?_eq_some_iff.1 hh
          simpa using this.2.symm
        subst this
        simpa using h) (ps.map (·.1)) vs css zs out hc hl ho
    have hps := evs_zip hsl hv
    simp only [execOp, Instr.build, Sem.run_bind, hz, Result.andThen_ok, hT, hzs, hs]
    simp only [hps, hf, Sem.run_pure, Result.andThen_ok]) k

/-- A slice literal that is owned. -/
theorem W_buildSliceO {α : Type} [Rep α] {T e : TypeId} {n : Nat} {ps : List (Nat × Operand)} {vs : List Value} {css : List (List Value)} {z : Value} {zs out : List Value} {places : List (Nat × Nat)} {ys : List α}
    (hg : gd ops L ⟨some d, .buildSlice T n ps.toArray, ty, pos, aft, g⟩ = some true) (hN : Nat.blt d x.N = true)
    (hv : evs L (ps.map (·.2)) = some vs) (hc : CellsL vs css)
    (hT : ∀ w, (underlying T).run x.P w = .ok (.slice e) w) (hs : ∀ w, (sizeOf e).run x.P w = .ok (Rep.sz α) w) (hs0 : Nat.blt 0 (Rep.sz α) = true)
    (hz : ∀ w, (zeroValue e).run x.P w = .ok z w) (hzs : (Array.range (n * Rep.sz α)).map (z.cells[· % z.cells.size]!) = zs.toArray)
    (hpl : places = (List.range n).map fun i => (i * Rep.sz α, Rep.sz α)) (hn : Nat.ble (n * Rep.sz α) 16777216 = true) (hnn : Nat.blt 0 n = true)
    (ho : laid places zs ((ps.map (·.1)).zip css) = some out) (hr : RdC H out ys) (hyn : ys.length = n)
    (k : ∀ v' xs', Rw H v' xs' ys → W x ops Q rest H (.row v' e (Rep.sz α) ys.length xs' :: M) ((d, v') :: L)) :
    W x ops Q (⟨some d, .buildSlice T n ps.toArray, ty, pos, aft, g⟩ :: rest) H M L := by
  refine W_run rfl hg hN fun a w hsl ht => ?_
  have hl : (ps.map (·.1)).length = vs.length := by rw [← hsl.evs hv]; simp
  have hs0' : 0 < Rep.sz α := by simpa [Nat.blt_eq] using hs0
  have hn' : n * Rep.sz α ≤ 16777216 := by simpa [Nat.ble_eq] using hn
  have hnn' : 0 < n := by simpa [Nat.blt_eq] using hnn
  have hpos : 0 < n * Rep.sz α := Nat.mul_pos hnn' hs0'
  have hf := fill_laid (place := fun i => some (i * Rep.sz α, Rep.sz α)) (places := places) (fun i o h => by
    rw [hpl, List.getElem?_map] at h
    cases hh : (List.range n)[i]? with
    | none => rw [hh] at h; cases h
    | some j =>
      rw [hh] at h
      have : j = i := by
        have := List.getElem?_eq_some_iff.1 hh
        simpa using this.2.symm
      subst this
      simpa using h) (ps.map (·.1)) vs css zs out hc hl ho
  have hps := evs_zip hsl hv
  have hsz : out.length = n * Rep.sz α := by rw [hr.len, hyn]
  have hmax : ys.length ≤ maxLen := by
    unfold maxLen
    have : n ≤ n * Rep.sz α := Nat.le_mul_of_pos_right _ hs0'
    omega
  refine ⟨.slice (some ⟨w.heap.size, 0, none⟩) ys.length ys.length, w.alloc (.cells out.toArray e), ?_, H, _, St.newRow (e := e) ht hr hmax, k _ _ ⟨hr, _, _, _, rfl⟩⟩
  have h1 : ¬ (2 ^ 24 < n * Rep.sz α) := by omega
  have h2 : ¬ (n * Rep.sz α = 0) := by omega
  simp only [execOp, Instr.buildSlice, Sem.run_bind, hT, Result.andThen_ok, hs, gt_iff_lt, h1, h2, if_false, hz, Sem.run_pure]
  simp only [hps]
  have hf' : Instr.fill (fun i => some (i * Rep.sz α, Rep.sz α)) ((Array.range (n * Rep.sz α)).map (z.cells[· % z.cells.size]!)) ((List.map (fun x => x.fst) ps).zip vs) = some out.toArray := by
    rw [hzs]; exact hf
  simp only [hf', newRow, newObj, Sem.run_bind, Sem.run_pure, Sem.run, Result.andThen_ok, World.alloc, hyn]
end

/-! ### Results that lie in memory -/
/-- What a result variable holds. -/
inductive ResV (P : Program) (M : List Res) (L : Env) : ResultVar → Value → Prop
  | tmp {t} {v : Value} (h : lk L t = some v) : ResV P M L (.tmp t) v
  | one {t ty b T} {l : List Value} {fz} {v : Value} (h : lk L t = some (.pointer (some ⟨b, 0, none⟩))) (hA : ∀ w, (isAgg ty).run P w = .ok false w) (hm : Res.obj b (.cells (v :: l).toArray T fz) ∈ M) : ResV P M L (.cell t ty) v
  | agg {t ty b T} {l : List Value} {fz n} (h : lk L t = some (.pointer (some ⟨b, 0, none⟩))) (hA : ∀ w, (isAgg ty).run P w = .ok true w) (hn : ∀ w, (sizeOf ty).run P w = .ok n w) (hm : Res.obj b (.cells l.toArray T fz) ∈ M) (hl : l.length = n) : ResV P M L (.cell t ty) (.agg l.toArray)
  | arr {t ty v T sz k} {xs : List Value} {n} (h : lk L t = some (.pointer (some (Value.base v)))) (hA : ∀ w, (isAgg ty).run P w = .ok true w) (hn : ∀ w, (sizeOf ty).run P w = .ok n w) (hm : Res.row v T sz k xs ∈ M) (hl : xs.length = n) : ResV P M L (.cell t ty) (.agg xs.toArray)

def getR (tmps : Array Value) : ResultVar → Sem Value
  | .tmp t => pure (tmps.getD t undef)
  | .cell a t => do loadVar t (← asAddr (tmps.getD a undef))
theorem results_get (fn : Func) (tmps : Array Value) : results fn tmps = (do
    let vs ← fn.results.mapM (getR tmps)
    pure (if h : vs.size = 1 then vs[0] else .tuple vs)) := rfl
theorem ResV.run {P : Program} {M : List Res} {L : Env} {N B : Nat} {w0 w : World} {H : Hp} {a : Act} {rv : ResultVar} {v : Value} (h : ResV P M L rv v) (hs : Sl N L a) (ht : St B w0 H M w) :
    (getR a.tmps rv).run P w = .ok v w := by
  cases h with
  | tmp h => simp [getR, Array.getD_eq_getD_getElem?, hs.get _ _ h]
  | one h hA hm =>
    have hc := (own_at (x := ⟨P, N, B, w0⟩) (H := H) hm (off := 0) (v := v) rfl) w ht
    simp [getR, Array.getD_eq_getD_getElem?, hs.get _ _ h, asAddr, loadVar, hA, load, Sem.run, hc]
  | agg h hA hn hm hl =>
    rename_i t ty b T l fz n
    have hc := (own_all (x := ⟨P, N, B, w0⟩) (H := H) hm)
    have hr := run_loadCellsFrom (P := P) (w := w) (ad := ⟨b, 0, none⟩) l 0 #[] (fun j v hv => by rw [Nat.zero_add]; exact hc j v hv w ht)
    rw [hl] at hr
    simp [getR, Array.getD_eq_getD_getElem?, hs.get _ _ h, asAddr, loadVar, hA, hn, loadCells, hr]
  | arr h hA hn hm hl =>
    rename_i t ty v T sz k xs n
    have hr := run_loadCellsFrom (P := P) (w := w) (ad := Value.base v) xs 0 #[] (fun j u hu => by rw [Nat.zero_add]; exact (row_at (x := ⟨P, N, B, w0⟩) (H := H) hm hu) w ht)
    rw [hl] at hr
    simp [getR, Array.getD_eq_getD_getElem?, hs.get _ _ h, asAddr, loadVar, hA, hn, loadCells, hr]

section
variable {P : Program} {N B : Nat} {w0 : World} {fn : Func} {Φ : Hp → List Res → Value → Prop} {H H0 : Hp} {M M1 M2 : List Res} {L : Env}
theorem endC1 {r1 : ResultVar} {v1 : Value} (hle : H0.le H) (hr : fn.results = #[r1]) (h1 : ResV P M L r1 v1) (hd : M1.Sublist M) (hp : M1.Perm M2) (h : Φ H0 M2 v1) :
    E ⟨P, N, B, w0⟩ .ret (bodyPost P fn (Ret B w0 Φ)) H M L := fun a w hs ht => by
  have q1 := h1.run hs ht
  refine ⟨hs.dfr, v1, ?_, H0, M2, ((ht.sub hd).perm hp).weak hle, h⟩
  rw [results_get, hr]
  simp [q1]
theorem endC2 {r1 r2 : ResultVar} {v1 v2 : Value} (hle : H0.le H) (hr : fn.results = #[r1, r2]) (h1 : ResV P M L r1 v1) (h2 : ResV P M L r2 v2) (hd : M1.Sublist M) (hp : M1.Perm M2) (h : Φ H0 M2 (.tuple #[v1, v2])) :
    E ⟨P, N, B, w0⟩ .ret (bodyPost P fn (Ret B w0 Φ)) H M L := fun a w hs ht => by
  have q1 := h1.run hs ht
  have q2 := h2.run hs ht
  refine ⟨hs.dfr, _, ?_, H0, M2, ((ht.sub hd).perm hp).weak hle, h⟩
  rw [results_get, hr]
  simp [q1, q2]
theorem endC3 {r1 r2 r3 : ResultVar} {v1 v2 v3 : Value} (hle : H0.le H) (hr : fn.results = #[r1, r2, r3]) (h1 : ResV P M L r1 v1) (h2 : ResV P M L r2 v2) (h3 : ResV P M L r3 v3) (hd : M1.Sublist M) (hp : M1.Perm M2) (h : Φ H0 M2 (.tuple #[v1, v2, v3])) :
    E ⟨P, N, B, w0⟩ .ret (bodyPost P fn (Ret B w0 Φ)) H M L := fun a w hs ht => by
  have q1 := h1.run hs ht
  have q2 := h2.run hs ht
  have q3 := h3.run hs ht
  refine ⟨hs.dfr, _, ?_, H0, M2, ((ht.sub hd).perm hp).weak hle, h⟩
  rw [results_get, hr]
  simp [q1, q2, q3]
end
end Go.Sim
