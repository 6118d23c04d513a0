/-
  The proof, part A2.
-/
import Derived.Lib.AppendZeros
import Derived.Lib.Bytealg
import Derived.Laws.Externs
import Derived.Lib.LaidTab
import Derived.Lib.AppendIntMem
import Derived.Lib.ItoaNum
import Derived.Lib.AtoiAll
import Derived.Lib.SmallJoins
import Derived.Laws.BytesString
import Derived.Laws.IdiomStrings
import Derived.Lib.ParseIntBMem
import Derived.Laws.IdiomRangeMap
import Derived.Lib.UnsafeStr
import Derived.Lib.Builder
import Derived.Lib.AppendStr
import Derived.Laws.Bits64b
import Derived.Test.YtolgkppopmgmjaaGreatDoorSqA1
set_option linter.unusedVariables false
set_option linter.unusedSimpArgs false
set_option linter.unusedSectionVars false
set_option linter.unnecessarySimpa false
namespace Go.Sim
abbrev HR := @Int.fdiv_eq_ediv_of_nonneg
abbrev H4 := @Int.le_refl
abbrev IF := @Int.toNat_of_nonneg
abbrev IG := @Go.Lib.strCells_length
abbrev JQ := @List.drop_succ_cons
abbrev HC := @List.getElem?_replicate
abbrev Fz := @List.getElem?_set_ne
abbrev FD := @List.getElem?_set_self
abbrev Hv := @List.getElem_map
abbrev GU := @List.length_drop
abbrev Fj := @List.length_set
abbrev HA := @List.mem_of_mem_take
abbrev HK := @List.replicate_succ
abbrev GN := @List.take_append_drop
abbrev Ju := @List.take_zero
abbrev IH := @List.zipWith_append
abbrev HM := @Nat.add_comm
abbrev Hf := @Nat.lt_or_ge
abbrev IA := @Nat.mod_lt
end Go.Sim
namespace Go.Sim
open Go Go.RowKit
open _root_.Go.IntKind (i64 u64 u32 u8)
theorem y8 {α : Type} {f : α → Value} {l : List α} {k : Nat} {y : α} (he : l[k]? = some y) : (l.map f)[k * 1]? = some (f y) := by
 rw [HN, FJ, he]; rfl
section
variable {x : Cx} {ops : Array Oper} {Q : jL} {rest : List Oper} {H : Hp} {M M' : List bP} {L L' : Env}
variable {d : Nat} {ty : TypeId} {pos : String} {aft : Array Edge} {g : Option (Nat × Bool)}
theorem k5 {t e m sz : Nat} {y z : Operand} {ad : Addr} {kk : IntKind} {i : Int}
  (hg : gd ops L ⟨some d, .indexAddr t y z, ty, pos, aft, g⟩ = some true) (hN : Nat.blt d x.N = true)
  (hT : ∀ w, (underlying t).run x.P w = .ok (.array m e) w) (hs : ∀ w, (sizeOf e).run x.P w = .ok sz w)
  (hy : ev L y = some (.pointer (some ad))) (hz : ev L z = some (.int kk i)) (h0 : 0 ≤ i) (h1 : i.toNat < m)
  (k : W x ops Q rest H M ((d, .pointer (some (ad.add (i.toNat * sz)))) :: L)) :
  W x ops Q (⟨some d, .indexAddr t y z, ty, pos, aft, g⟩ :: rest) H M L :=
 dC rfl hg hN (fun c w hsl ht => by
  have h1' : i < (m : Int) := by omega
  simp [execOp, hsl.ev hy, hsl.ev hz, Instr.indexAt, asIntOf, hT, hs, h0, h1', Instr.sureAddr]) k
theorem cO {T E : TypeId} {m sz n n' i : Nat} {y z : Operand} {v u : Value} {ad : Addr} {xs cs : List Value} (hg : gd ops L ⟨none, .store T y z, ty, pos, aft, g⟩ = some true)
  (hn : ∀ w, (sizeOf T).run x.P w = .ok m w) (hy : ev L y = some (.pointer (some ad))) (had : ad = (Value.base v).add i) (hz : ev L z = some u) (hv : u.cells = cs.toArray) (hl : cs.length = m)
  (hb : i + cs.length ≤ xs.length) (hpos : Nat.blt 0 cs.length = true) (h1 : ∀ c ∈ cs, c.oneCell' = true) (hnn : n' = n)
  (k : W x ops Q rest H (.row v E sz n' (over xs i cs) :: M) L) :
  W x ops Q (⟨none, .store T y z, ty, pos, aft, g⟩ :: rest) H (.row v E sz n xs :: M) L := by
 subst hnn
 exact qv hg hn hy had hz hv hl hb hpos h1 k
theorem ry {T e m sz : Nat} {ps : List (Nat × Operand)} {vs : List Value} {css : List (List Value)} {z : Value} {zs out : List Value} {places : List (Nat × Nat)}
  (hg : gd ops L ⟨some d, .build T ps.toArray, ty, pos, aft, g⟩ = some true) (hN : Nat.blt d x.N = true)
  (hv : tH L (ps.map (·.2)) = some vs) (hc : so vs css)
  (hz : ∀ w, (zeroValue T).run x.P w = .ok z w) (hzs : z.cells = zs.toArray) (hT : ∀ w, (underlying T).run x.P w = .ok (.array m e) w) (hs : ∀ w, (sizeOf e).run x.P w = .ok sz w)
  (hpl : places = (List.range m).map fun i => (i * sz, sz))
  (ho : laid places zs ((ps.map (·.1)).zip css) = some out)
  (k : W x ops Q rest H M ((d, .agg out.toArray) :: L)) :
  W x ops Q (⟨some d, .build T ps.toArray, ty, pos, aft, g⟩ :: rest) H M L :=
 dC rfl hg hN (fun a w hsl ht => by
  have hl : (ps.map (·.1)).length = vs.length := by rw [← hsl.tH hv]; simp
  have hf := pG (place := fun i => some (i * sz, sz)) (places := places) (fun i o h => by
   rw [hpl, FJ] at h
   cases hh : (List.range m)[i]? with
   | none => rw [hh] at h; cases h
   | some j =>
    rw [hh] at h
    have : j = i := by
     have := ET.1 hh
     simpa using this.2.symm
    subst this
    simpa using h) (ps.map (·.1)) vs css zs out hc hl ho
  have hps := s7 hsl hv
  simp only [execOp, Instr.build, Fh, hz, Fe, hT, hzs, hs]
  simp only [hps, hf, Ft, Fe]) k
theorem cS {α : Type} [aF α] {T e : TypeId} {n : Nat} {ps : List (Nat × Operand)} {vs : List Value} {css : List (List Value)} {z : Value} {zs out : List Value} {places : List (Nat × Nat)} {ys : List α}
  (hg : gd ops L ⟨some d, .buildSlice T n ps.toArray, ty, pos, aft, g⟩ = some true) (hN : Nat.blt d x.N = true)
  (hv : tH L (ps.map (·.2)) = some vs) (hc : so vs css)
  (hT : ∀ w, (underlying T).run x.P w = .ok (.slice e) w) (hs : ∀ w, (sizeOf e).run x.P w = .ok (aF.sz α) w) (hs0 : Nat.blt 0 (aF.sz α) = true)
  (hz : ∀ w, (zeroValue e).run x.P w = .ok z w) (hzs : (Array.range (n * aF.sz α)).map (z.cells[· % z.cells.size]!) = zs.toArray)
  (hpl : places = (List.range n).map fun i => (i * aF.sz α, aF.sz α)) (hn : Nat.ble (n * aF.sz α) 16777216 = true) (hnn : Nat.blt 0 n = true)
  (ho : laid places zs ((ps.map (·.1)).zip css) = some out) (hr : lQ H out ys) (hyn : ys.length = n)
  (k : ∀ v' xs', Rw H v' xs' ys → W x ops Q rest H (.row v' e (aF.sz α) ys.length xs' :: M) ((d, v') :: L)) :
  W x ops Q (⟨some d, .buildSlice T n ps.toArray, ty, pos, aft, g⟩ :: rest) H M L := by
 refine nJ rfl hg hN fun a w hsl ht => ?_
 have hl : (ps.map (·.1)).length = vs.length := by rw [← hsl.tH hv]; simp
 have hs0' : 0 < aF.sz α := by simpa [Gw] using hs0
 have hn' : n * aF.sz α ≤ 16777216 := by simpa [H7] using hn
 have hnn' : 0 < n := by simpa [Gw] using hnn
 have hpos : 0 < n * aF.sz α := Nat.mul_pos hnn' hs0'
 have hf := pG (place := fun i => some (i * aF.sz α, aF.sz α)) (places := places) (fun i o h => by
  rw [hpl, FJ] at h
  cases hh : (List.range n)[i]? with
  | none => rw [hh] at h; cases h
  | some j =>
   rw [hh] at h
   have : j = i := by
    have := ET.1 hh
    simpa using this.2.symm
   subst this
   simpa using h) (ps.map (·.1)) vs css zs out hc hl ho
 have hps := s7 hsl hv
 have hsz : out.length = n * aF.sz α := by rw [hr.len, hyn]
 have hmax : ys.length ≤ maxLen := by
  unfold maxLen
  have : n ≤ n * aF.sz α := II _ hs0'
  omega
 refine ⟨.slice (some ⟨w.heap.size, 0, none⟩) ys.length ys.length, w.alloc (.cells out.toArray e), ?_, H, _, St.newRow (e := e) ht hr hmax, k _ _ ⟨hr, _, _, _, rfl⟩⟩
 have h1 : ¬ (2 ^ 24 < n * aF.sz α) := by omega
 have h2 : ¬ (n * aF.sz α = 0) := by omega
 simp only [execOp, Instr.buildSlice, Fh, hT, Fe, hs, gt_iff_lt, h1, h2, Ha, hz, Ft]
 simp only [hps]
 have hf' : Instr.fill (fun i => some (i * aF.sz α, aF.sz α)) ((Array.range (n * aF.sz α)).map (z.cells[· % z.cells.size]!)) ((List.map (fun x => x.fst) ps).zip vs) = some out.toArray := by
  rw [hzs]; exact hf
 simp only [hf', newRow, newObj, Fh, Ft, Sem.run, Fe, World.alloc, hyn]
end
inductive gG (P : Program) (M : List bP) (L : Env) : ResultVar → Value → Prop
 | tmp {t} {v : Value} (h : lk L t = some v) : gG P M L (.tmp t) v
 | one {t ty b T} {l : List Value} {fz} {v : Value} (h : lk L t = some (.pointer (some ⟨b, 0, none⟩))) (hA : ∀ w, (isAgg ty).run P w = .ok false w) (hm : bP.obj b (.cells (v :: l).toArray T fz) ∈ M) : gG P M L (.cell t ty) v
 | agg {t ty b T} {l : List Value} {fz n} (h : lk L t = some (.pointer (some ⟨b, 0, none⟩))) (hA : ∀ w, (isAgg ty).run P w = .ok true w) (hn : ∀ w, (sizeOf ty).run P w = .ok n w) (hm : bP.obj b (.cells l.toArray T fz) ∈ M) (hl : l.length = n) : gG P M L (.cell t ty) (.agg l.toArray)
 | arr {t ty v T sz k} {xs : List Value} {n} (h : lk L t = some (.pointer (some (Value.base v)))) (hA : ∀ w, (isAgg ty).run P w = .ok true w) (hn : ∀ w, (sizeOf ty).run P w = .ok n w) (hm : bP.row v T sz k xs ∈ M) (hl : xs.length = n) : gG P M L (.cell t ty) (.agg xs.toArray)
def zi (tmps : Array Value) : ResultVar → Sem Value
 | .tmp t => pure (tmps.getD t undef)
 | .cell a t => do loadVar t (← asAddr (tmps.getD a undef))
theorem qK (fn : Func) (tmps : Array Value) : results fn tmps = (do
  let vs ← fn.results.mapM (zi tmps)
  pure (if h : vs.size = 1 then vs[0] else .tuple vs)) := rfl
theorem gG.run {P : Program} {M : List bP} {L : Env} {N B : Nat} {w0 w : World} {H : Hp} {a : Act} {rv : ResultVar} {v : Value} (h : gG P M L rv v) (hs : Sl N L a) (ht : St B w0 H M w) :
  (zi a.tmps rv).run P w = .ok v w := by
 cases h with
 | tmp h => simp [zi, FW, hs.get _ _ h]
 | one h hA hm =>
  have hc := (bQ (x := ⟨P, N, B, w0⟩) (H := H) hm (off := 0) (v := v) rfl) w ht
  simp [zi, FW, hs.get _ _ h, asAddr, loadVar, hA, load, Sem.run, hc]
 | agg h hA hn hm hl =>
  rename_i t ty b T l fz n
  have hc := (eC (x := ⟨P, N, B, w0⟩) (H := H) hm)
  have hr := run_loadCellsFrom (P := P) (w := w) (ad := ⟨b, 0, none⟩) l 0 #[] (fun j v hv => by rw [FO]; exact hc j v hv w ht)
  rw [hl] at hr
  simp [zi, FW, hs.get _ _ h, asAddr, loadVar, hA, hn, loadCells, hr]
 | arr h hA hn hm hl =>
  rename_i t ty v T sz k xs n
  have hr := run_loadCellsFrom (P := P) (w := w) (ad := Value.base v) xs 0 #[] (fun j u hu => by rw [FO]; exact (ud (x := ⟨P, N, B, w0⟩) (H := H) hm hu) w ht)
  rw [hl] at hr
  simp [zi, FW, hs.get _ _ h, asAddr, loadVar, hA, hn, loadCells, hr]
section
variable {P : Program} {N B : Nat} {w0 : World} {fn : Func} {Φ : Hp → List bP → Value → Prop} {H H0 : Hp} {M M1 M2 : List bP} {L : Env}
theorem iG {r1 : ResultVar} {v1 : Value} (hle : H0.le H) (hr : fn.results = #[r1]) (h1 : gG P M L r1 v1) (hd : M1.Sublist M) (hp : M1.Perm M2) (h : Φ H0 M2 v1) :
  E ⟨P, N, B, w0⟩ .ret (bodyPost P fn (gA B w0 Φ)) H M L := fun a w hs ht => by
 have q1 := h1.run hs ht
 refine ⟨hs.we, v1, ?_, H0, M2, ((ht.sub hd).perm hp).CM hle, h⟩
 rw [qK, hr]
 simp [q1]
theorem yt {r1 r2 : ResultVar} {v1 v2 : Value} (hle : H0.le H) (hr : fn.results = #[r1, r2]) (h1 : gG P M L r1 v1) (h2 : gG P M L r2 v2) (hd : M1.Sublist M) (hp : M1.Perm M2) (h : Φ H0 M2 (.tuple #[v1, v2])) :
  E ⟨P, N, B, w0⟩ .ret (bodyPost P fn (gA B w0 Φ)) H M L := fun a w hs ht => by
 have q1 := h1.run hs ht
 have q2 := h2.run hs ht
 refine ⟨hs.we, _, ?_, H0, M2, ((ht.sub hd).perm hp).CM hle, h⟩
 rw [qK, hr]
 simp [q1, q2]
theorem CV {r1 r2 r3 : ResultVar} {v1 v2 v3 : Value} (hle : H0.le H) (hr : fn.results = #[r1, r2, r3]) (h1 : gG P M L r1 v1) (h2 : gG P M L r2 v2) (h3 : gG P M L r3 v3) (hd : M1.Sublist M) (hp : M1.Perm M2) (h : Φ H0 M2 (.tuple #[v1, v2, v3])) :
  E ⟨P, N, B, w0⟩ .ret (bodyPost P fn (gA B w0 Φ)) H M L := fun a w hs ht => by
 have q1 := h1.run hs ht
 have q2 := h2.run hs ht
 have q3 := h3.run hs ht
 refine ⟨hs.we, _, ?_, H0, M2, ((ht.sub hd).perm hp).CM hle, h⟩
 rw [qK, hr]
 simp [q1, q2, q3]
end
theorem aL.shape {α : Type} [aF α] {H : Hp} {v : Value} {xs : List α} (h : aL H v xs) : ∃ o n c, v = .slice o n c := by
 obtain ⟨a, c, rfl, _⟩ := h.len; exact ⟨_, _, _, rfl⟩
theorem aL.isNil {α : Type} [aF α] {H : Hp} {n c : Nat} {xs : List α} (h : aL H (.slice none n c) xs) : xs = [] := by
 rcases h with ⟨_, h⟩ | ⟨b, off, cap, arr, T, fz, h, _⟩
 ·exact h
 ·cases h
def DE {α : Type} (v : Value) (l : List α) : Prop := (∃ n c, v = .slice none n c ∧ l = []) ∨ (∃ a n c, v = .slice (some a) n c ∧ l ≠ [])
theorem DE.nil {α : Type} : DE (.slice none 0 0) ([] : List α) := .inl ⟨_, _, rfl, rfl⟩
section
variable {x : Cx} {ops : Array Oper} {Q : jL} {rest : List Oper} {H : Hp} {M M' : List bP} {L L' : Env}
variable {d : Nat} {ty : TypeId} {pos : String} {aft : Array Edge} {g : Option (Nat × Bool)}
end
def DX (H : Hp) (v : Value) (n sz : Nat) (xs : List Value) : Prop :=
 xs.length = n * sz ∧ (∀ u ∈ xs, u.oneCell' = true) ∧
 (((∃ a, v = .slice a 0 0) ∧ n = 0) ∨ ∃ b off cap arr T fz, v = .slice (some ⟨b, off, none⟩) n cap ∧ H b = some (.cells arr T fz) ∧ ∀ j u, xs[j]? = some u → arr[off + j]? = some u)
theorem DX.shape {H : Hp} {v : Value} {n sz : Nat} {xs : List Value} (h : DX H v n sz xs) : ∃ o c, v = .slice o n c := by
 rcases h.2.2 with ⟨⟨a, rfl⟩, rfl⟩ | ⟨b, off, cap, arr, T, fz, rfl, _⟩ <;> exact ⟨_, _, rfl⟩
theorem DX.isNil {H : Hp} {n m c sz : Nat} {xs : List Value} (h : DX H (.slice none m c) n sz xs) : n = 0 ∧ xs = [] := by
 rcases h.2.2 with ⟨_, h0⟩ | ⟨b, off, cap, arr, T, fz, h0, _⟩
 ·subst h0; exact ⟨rfl, FN (by rw [h.1, GZ])⟩
 ·cases h0
section
variable {B : Nat} {w0 w : World} {H : Hp} {M : List bP}
end
section
variable {x : Cx} {ops : Array Oper} {Q : jL} {rest : List Oper} {H : Hp} {M M' : List bP} {L L' : Env}
variable {d : Nat} {ty : TypeId} {pos : String} {aft : Array Edge} {g : Option (Nat × Bool)}
theorem pD {t e : TypeId} {sz len cap l h m : Nat} {y : Operand} {lo hi mx : Option Operand} {ad : Option Addr}
  (hg : gd ops L ⟨some d, .slice t y lo hi mx, ty, pos, aft, g⟩ = some true) (hN : Nat.blt d x.N = true)
  (hT : ∀ w, (underlying t).run x.P w = .ok (.slice e) w) (hs : ∀ w, (sizeOf e).run x.P w = .ok sz w) (hy : ev L y = some (.slice ad len cap)) (hmh : mx = none ∨ ∃ o, hi = some o)
  (hm : x9 L mx cap cap m) (hh : x9 L hi len m h) (hl : x9 L lo 0 h l)
  {v' : Value} (hv : Value.slice (if m = l then ad else ad.map (·.add (l * sz))) (h - l) (m - l) = v')
  (k : W x ops Q rest H M ((d, v') :: L)) :
  W x ops Q (⟨some d, .slice t y lo hi mx, ty, pos, aft, g⟩ :: rest) H M L :=
 dC rfl hg hN (fun c w hsl ht => by
  rw [← hv]
  simp only [execOp, hsl.ev hy, Fh, nN hT hs (AZ hmh) (hm.bd hsl) (hh.bd hsl) (hl.bd hsl), Fe, Ft]) k
end
theorem wU {P : Program} {w : World} {t tu ty e : TypeId} {sz n gb off cap a dl dc sl sc : Nat} {b : Addr} {xs news : List Value} (hT : P.underlying t = some (.slice e)) (hs : ∀ w, (sizeOf e).run P w = .ok sz w)
  (hown : fO w e sz (.slice (some ⟨gb, off, none⟩) n cap) n xs) (ha : a + dl ≤ n)
  (hl : news.length = min sl dl * sz) (hnews : ∀ j u, news[j]? = some u → w.cell? (b.add j) = some u) (h1 : ∀ u ∈ news, u.oneCell' = true) :
  ∃ w', (Builtin.copy_ #[t, tu] ty #[.slice (some ⟨gb, off + a * sz, none⟩) dl dc, .slice (some b) sl sc]).run P w = .ok (.int .i64 (min sl dl : Nat)) w' ∧
   fO w' e sz (.slice (some ⟨gb, off, none⟩) n cap) n (xs.take (a * sz) ++ news ++ xs.drop ((a + min sl dl) * sz)) ∧ w.grownBy w' (some gb) := by
 rcases hown.2 with ⟨h0, _⟩ | ⟨gb2, off2, cap2, cur, he, hgb, hnc, hcm, hcs, htake⟩
 ·cases h0
 cases he
 have hxl : xs.length = n * sz := hown.1
 have hm : (a + min sl dl) * sz ≤ n * sz := Fq _ (by omega)
 have hmc : n * sz ≤ cap * sz := Fq _ hnc
 have hadd : (a + min sl dl) * sz = a * sz + min sl dl * sz := FC ..
 have hf := JS (P := P) w sz (min sl dl) b sl sc news hl hnews
 obtain ⟨w', hst, hh, hgr⟩ := iB (P := P) gb (off + a * sz) e news 0 cur.toList w (by simpa using hgb) (by simp; omega) h1
 refine ⟨w', ?_, ⟨?_, .inr ⟨gb, off, cap, _, rfl, hh, hnc, hcm, ?_, ?_⟩⟩, hgr⟩
 ·simp [Builtin.copy_, G2 hT, hs, Builtin.lenOf, hf, hst, goInt]
 ·simp only [FP, FM, GU, hl, hxl]; omega
 ·simpa [lE] using hcs
 ·rw [Ig, GY, qV _ _ _ (by simp; omega)]
  have hx1 : xs.take (a * sz) = (cur.toList.take (off + a * sz)).drop off := by
   rw [← htake, List.take_take, Gc (by omega), HV, HD]
  have hx2 : xs.drop ((a + min sl dl) * sz) = (cur.toList.drop (off + a * sz + news.length)).take (n * sz - (a + min sl dl) * sz) := by
   rw [← htake, HV, HU]; congr 2; omega
  rw [hx1, hx2, FT, I1 (by simp; omega), ← FT]
  have hlen : ((cur.toList.take (off + a * sz)).drop off ++ news).length = a * sz + min sl dl * sz := by
   rw [FP, GU, FM, hl]; simp; omega
  have e : n * sz = ((cur.toList.take (off + a * sz)).drop off ++ news).length + (n * sz - (a + min sl dl) * sz) := by rw [hlen]; omega
  conv => lhs; rw [e]
  rw [List.take_length_add_append]
section
variable {x : Cx} {ops : Array Oper} {Q : jL} {rest : List Oper} {H : Hp} {M M' : List bP} {L L' : Env}
variable {d : Nat} {ty : TypeId} {pos : String} {aft : Array Edge} {g : Option (Nat × Bool)}
theorem sn {c : Code} {v : Value} {e : TypeId} {sz n : Nat} {xs : List Value} (h0 : 0 < n)
  (k : ∀ gb off cap, v = .slice (some ⟨gb, off, none⟩) n cap → n ≤ cap → Go.Sim.C x c Q H (.row v e sz n xs :: M) L) : Go.Sim.C x c Q H (.row v e sz n xs :: M) L := by
 intro a w hs ht
 have hok : fO w e sz v n xs := ht.ok _ (E4 ..)
 rcases hok.2 with ⟨_, h⟩ | ⟨gb, off, cap, cur, he, _, hnc, _⟩
 ·omega
 ·exact k gb off cap he hnc a w hs ht
theorem yb {α : Type} [aF α] {t tu e : TypeId} {y u : Operand} {v vu : Value} {xs : List Value} {l ys : List α}
  (hg : gd ops L ⟨some d, .call ⟨.builtin .copy, #[y, u], #[t, tu]⟩, ty, pos, aft, g⟩ = some true) (hN : Nat.blt d x.N = true)
  (hT : x.P.underlying t = some (.slice e)) (hsz : ∀ w, (sizeOf e).run x.P w = .ok (aF.sz α) w) (hs : Nat.blt 0 (aF.sz α) = true)
  (hy : ev L y = some v) (hu : ev L u = some vu) (hx : Rw H v xs l) (hR : aL H vu ys) (h0 : 0 < ys.length)
  (k : ∀ xs', Rw H v xs' (ys.take (min ys.length l.length) ++ l.drop (min ys.length l.length)) → W x ops Q rest H (.row v e (aF.sz α) l.length xs' :: M) ((d, .int .i64 (min ys.length l.length : Nat)) :: L)) :
  W x ops Q (⟨some d, .call ⟨.builtin .copy, #[y, u], #[t, tu]⟩, ty, pos, aft, g⟩ :: rest) H (.row v e (aF.sz α) l.length xs :: M) L := by
 refine nJ rfl hg hN fun a w hsl ht => ?_
 have hown : fO w e (aF.sz α) v l.length xs := ht.ok _ (E4 ..)
 obtain ⟨cs, hcs, hcase⟩ := hR.flat
 rcases hcase with ⟨_, rfl⟩ | ⟨hc, b, off2, c, rfl⟩
 ·simp at h0
 by_cases hl0 : l.length = 0
 ·have hm0 : min ys.length l.length = 0 := by omega
  refine ⟨.int .i64 (min ys.length l.length : Nat), w, ?_, H, _, ht, k xs (by rw [hm0]; simpa using hx)⟩
  have hf : (Builtin.firstCells (aF.sz α) 0 (.slice (some ⟨b, off2, none⟩) ys.length c)).run x.P w = .ok #[] w :=
   JS (P := x.P) w (aF.sz α) 0 ⟨b, off2, none⟩ ys.length c [] (by simp) (by simp)
  rw [hm0]
  rcases hown.2 with ⟨rfl, _⟩ | ⟨gb, off, cap, cur, rfl, _⟩
  ·simp [execOp, resolve, invoke, builtin, hsl.ev hy, hsl.ev hu, Builtin.copy_, G2 hT, hsz, Builtin.lenOf, hf, goInt]
  ·simp [execOp, resolve, invoke, builtin, hsl.ev hy, hsl.ev hu, Builtin.copy_, G2 hT, hsz, Builtin.lenOf, hf, goInt, hl0, storeCells]
 rcases hown.2 with ⟨_, h⟩ | ⟨gb, off, cap, cur, rfl, _⟩
 ·exact absurd h hl0
 obtain ⟨w', hr, ho, hgr⟩ := wU (P := x.P) (tu := tu) (ty := ty) (a := 0) (dl := l.length) (dc := cap) (b := ⟨b, off2, none⟩) (sl := ys.length) (sc := c) (news := cs.take (min ys.length l.length * aF.sz α)) hT hsz hown (by omega)
  (by rw [FM, hcs.len]; exact Gc (Fq _ (by omega)))
  (fun j u hu => by
   rw [F7] at hu
   split at hu
   ·exact ((hc j u hu).at (x := x) (M := .row (.slice (some ⟨gb, off, none⟩) l.length cap) e (aF.sz α) l.length xs :: M)) w ht
   ·cases hu) (fun u hu => hcs.one u (HA hu))
 rw [GZ, Ju, He, FO] at ho
 rw [GZ, GY] at hr
 refine ⟨.int .i64 (min ys.length l.length : Nat), w', ?_, H, _, ht.w6 (r' := .row (.slice (some ⟨gb, off, none⟩) l.length cap) e (aF.sz α) l.length _) hgr ho (fun b hb => .inl hb), k _ ⟨(hcs.split _).1.app (hx.rd.split _).2, _, _, _, rfl⟩⟩
 simp [execOp, resolve, invoke, builtin, hsl.ev hy, hsl.ev hu, hr]
theorem tm {α : Type} [aF α] {t tu e : TypeId} {gb off cap q dc sc : Nat} {y u : Operand} {xs : List Value} {l : List α}
  (hg : gd ops L ⟨some d, .call ⟨.builtin .copy, #[y, u], #[t, tu]⟩, ty, pos, aft, g⟩ = some true) (hN : Nat.blt d x.N = true)
  (hT : x.P.underlying t = some (.slice e)) (hsz : ∀ w, (sizeOf e).run x.P w = .ok (aF.sz α) w) (hs : Nat.blt 0 (aF.sz α) = true)
  (hx : Rw H (.slice (some ⟨gb, off, none⟩) l.length cap) xs l) (hq : q ≤ l.length)
  (hy : ev L y = some (.slice (some ⟨gb, off + q * aF.sz α, none⟩) (l.length - q) dc)) (hu : ev L u = some (.slice (some ⟨gb, off, none⟩) q sc))
  (k : ∀ xs', Rw H (.slice (some ⟨gb, off, none⟩) l.length cap) xs' (l.take q ++ l.take (min q (l.length - q)) ++ l.drop (q + min q (l.length - q))) →
   W x ops Q rest H (.row (.slice (some ⟨gb, off, none⟩) l.length cap) e (aF.sz α) l.length xs' :: M) ((d, .int .i64 (min q (l.length - q) : Nat)) :: L)) :
  W x ops Q (⟨some d, .call ⟨.builtin .copy, #[y, u], #[t, tu]⟩, ty, pos, aft, g⟩ :: rest) H (.row (.slice (some ⟨gb, off, none⟩) l.length cap) e (aF.sz α) l.length xs :: M) L := by
 refine nJ rfl hg hN fun a w hsl ht => ?_
 have hown : fO w e (aF.sz α) (.slice (some ⟨gb, off, none⟩) l.length cap) l.length xs := ht.ok _ (E4 ..)
 have hlen := hx.rd.len
 have hone := hx.rd.one
 have hmm : min q (l.length - q) * aF.sz α ≤ l.length * aF.sz α := Fq _ (by omega)
 have hcell : ∀ j u, (xs.take (min q (l.length - q) * aF.sz α))[j]? = some u → w.cell? ((⟨gb, off, none⟩ : Addr).add j) = some u := by
  intro j u hj
  rcases hown.2 with ⟨h0, _⟩ | ⟨gb2, off2, cap2, cur, he, hgb, hnc, hcm, hcs, htake⟩
  ·cases h0
  cases he
  rw [Ge]
  refine JM hgb rfl ?_
  rw [F7] at hj
  split at hj
  ·rw [← htake, F7] at hj
   split at hj
   ·rw [FU] at hj; simpa using hj
   ·cases hj
  ·cases hj
 obtain ⟨w', hr, ho, hgr⟩ := wU (P := x.P) (tu := tu) (ty := ty) (a := q) (dl := l.length - q) (dc := dc) (b := ⟨gb, off, none⟩) (sl := q) (sc := sc) (news := xs.take (min q (l.length - q) * aF.sz α)) hT hsz hown (by omega)
  (by rw [FM, hlen]; omega) hcell (fun u hu => hone u (HA hu))
 refine ⟨.int .i64 (min q (l.length - q) : Nat), w', ?_, H, _, ht.w6 (r' := .row (.slice (some ⟨gb, off, none⟩) l.length cap) e (aF.sz α) l.length _) hgr ho (fun b hb => .inl hb), k _ ⟨?_, _, _, _, rfl⟩⟩
 ·simp [execOp, resolve, invoke, builtin, hsl.ev hy, hsl.ev hu, hr]
 ·exact ((hx.rd.split q).1.app (hx.rd.split (min q (l.length - q))).1).app (hx.rd.split (q + min q (l.length - q))).2
end
theorem vO {x : Cx} {ops : Array Oper} {Q : jL} {rest : List Oper} {H : Hp} {M : List bP} {L : Env} {d : Nat} {f : FuncId} {args : List Operand} {tys : Array TypeId} {ty : TypeId} {pos : String} {aft : Array Edge} {g : Option (Nat × Bool)} {vs : List Value} {v : Value}
  (hx : ∀ w, (callFunc f vs.toArray).run x.P w = .ok (.value v) w)
  (hg : gd ops L ⟨some d, .call ⟨.value (.func f), args.toArray, tys⟩, ty, pos, aft, g⟩ = some true) (hN : Nat.blt d x.N = true)
  (hv : tH L args = some vs) (k : W x ops Q rest H M ((d, v) :: L)) :
  W x ops Q (⟨some d, .call ⟨.value (.func f), args.toArray, tys⟩, ty, pos, aft, g⟩ :: rest) H M L :=
 dC rfl hg hN (fun a w hs ht => by
  have hargs : args.toArray.map a.eval = vs.toArray := by simp [hs.tH hv]
  simp only [execOp, resolve, hargs, Act.eval, Deferred.ofValue, Fh, Ft, Fe, invoke]
  simp [hx]) k
def Dm (s : ByteArray) (c : Int) : Int := Go.Lib.indexByte s.data.toList c.toNat.toUInt8
theorem wx {P : Program} {f : FuncId} {fn : Func} (hf : P.funcs[f]? = some fn) (h1 : (fn.name == "runtime.NumGoroutine") = false) (h2 : fn.body.isNone = true) (h3 : Extern.findNext fn = none) (h4 : Extern.find fn = some Extern.BytealgIndexByte.indexByte) (s : ByteArray) (c : Int) :
  ∀ w, (callFunc f [.string s, .int .u8 c].toArray).run P w = .ok (.value (.int .i64 (Dm s c))) w := fun w => by
 rw [run_callFunc_extern hf h1 h2 h3 h4, show [Value.string s, .int .u8 c].toArray = #[.string s, .int .u8 c] from rfl, Go.Lib.run_indexByteString]
 rfl
section
variable {x : Cx} {ops : Array Oper} {Q : jL} {rest : List Oper} {H : Hp} {M M' : List bP} {L L' : Env}
variable {d : Nat} {ty : TypeId} {pos : String} {aft : Array Edge} {g : Option (Nat × Bool)}
end
theorem xY (k : Nat) : iN .u64 (k : Int) 32 = ((k / 4294967296 : Nat) : Int) := by
 unfold iN
 rw [show (2 : Int) ^ (min (32 : Int).toNat u64.bits) = 4294967296 from rfl]
 rw [HR _ (by decide)]
 omega
def wS {α : Type} (s : List α) (n : Int) : List α := (List.replicate n.toNat s).flatten
theorem qJ {α : Type} (a : α) (m : Nat) : wS [a] (m : Int) = List.replicate m a := by
 unfold wS
 rw [E1]
 induction m with
 | zero => rfl
 | succ m ih => rw [HK, HK, List.flatten_cons, ih]; rfl
theorem wT {α : Type} {a : α} {l : List α} {q : Nat} (h : l.take q = List.replicate q a) (hq : q ≤ l.length) :
  (l.take q ++ l.take (min q (l.length - q)) ++ l.drop (q + min q (l.length - q))).take (q + min q (l.length - q)) = List.replicate (q + min q (l.length - q)) a := by
 have h2 : l.take (min q (l.length - q)) = List.replicate (min q (l.length - q)) a := by
  have := Fl (List.take (min q (l.length - q))) h
  rwa [List.take_take, List.take_replicate, show min (min q (l.length - q)) q = min q (l.length - q) by omega] at this
 rw [h, h2, List.replicate_append_replicate]
 rw [List.take_append_of_le_length (by simp), FG (by simp)]
section
variable {B : Nat} {w0 w w' : World} {H : Hp} {M : List bP}
theorem St.var? (ht : St B w0 H M w) {P : Program} {n : String} {g : Nat} (hg : P.globalNamed n = some g) (hlt : g < B) : w.var? P n = w0.var? P n := by
 unfold World.var?
 rw [hg]
 simp only [HS]
 rw [ht.below.block g hlt]
theorem St.under (ht : St B w0 H M w) (hb : Below w.heap.size w w') : St B w0 H M w' :=
 ht.grow ⟨hb.os, hb.tape, hb.output, hb.size, fun i hi _ => hb.block i hi⟩
theorem St.EB (ht : St B w0 H M w) {P : Program} {n : String} {g : Nat} {k : IntKind} {zs : List Int} (hT : Lib.TabIs P w0 n k zs) (hg : P.globalNamed n = some g) (hlt : g < B) : Lib.TabIs P w n k zs :=
 (ht.var? hg hlt).trans hT
end
theorem DA {P : Program} {W : World} {n : String} {g : Nat} {cs : Array Value} (hg : P.globalNamed n = some g) (h : W.var? P n = some cs) : g < W.heap.size := by
 unfold World.var? at h
 rw [hg] at h
 simp only [HS] at h
 split at h
 ·rename_i o _ _ ho
  exact (GG.1 ho).1
 ·cases h
def CP (v : Value) (b : Bool) : Prop := (b = false ∧ v = .nilIface) ∨ (b = true ∧ ∃ T p, v = .iface T p)
section
variable {x : Cx} {ops : Array Oper} {Q : jL} {rest : List Oper} {H : Hp} {M : List bP} {L : Env}
variable {d : Nat} {ty : TypeId} {pos : String} {aft : Array Edge} {g : Option (Nat × Bool)}
theorem BH {t u : TypeId} {y : Operand} {v : Value} {b : Bool} {ms : Array (String × TypeId)} (hT : ∀ w, (underlying t).run x.P w = .ok (.interface ms) w) (he : CP v b) (hg : gd ops L ⟨some d, .binOp .neq t y (.const .nilIface) u, ty, pos, aft, g⟩ = some true) (hN : Nat.blt d x.N = true)
  (hy : ev L y = some v) (k : W x ops Q rest H M ((d, .bool b) :: L)) : W x ops Q (⟨some d, .binOp .neq t y (.const .nilIface) u, ty, pos, aft, g⟩ :: rest) H M L :=
 dC rfl hg hN (fun c w hs _ => by
  have hz : c.eval (.const .nilIface) = .nilIface := rfl
  rcases he with ⟨rfl, rfl⟩ | ⟨rfl, T, p, rfl⟩
  ·have key : ∀ k, (Op.equalIn (k + 1) t .nilIface .nilIface).run x.P w = .ok true w := fun k => by
    unfold Op.equalIn
    simp [hT]
   have h' : (Op.equal t .nilIface .nilIface).run x.P w = .ok true w := key 9999
   simp only [execOp, hs.ev hy, hz, Fh, eqGuard, binOp]
   simp [h']
  ·have key : ∀ k, (Op.equalIn (k + 1) t (.iface T p) .nilIface).run x.P w = .ok false w := fun k => by
    unfold Op.equalIn
    simp [hT]
   have h' : (Op.equal t (.iface T p) .nilIface).run x.P w = .ok false w := key 9999
   simp only [execOp, hs.ev hy, hz, Fh, eqGuard, binOp]
   simp [h']) k
def rA (l : List U8) : ByteArray := ⟨(l.map fun y => UInt8.ofNat y.n.toNat).toArray⟩
theorem tJ : ∀ (ns : List Int) (r : ByteArray), ns.foldl (fun r n => r.push (UInt8.ofNat n.toNat)) r = ⟨r.data ++ (ns.map fun n => UInt8.ofNat n.toNat).toArray⟩
 | [], r => by simp
 | n :: ns, r => by
  rw [List.foldl_cons, tJ ns]
  simp [ByteArray.push]
theorem aL.bytes {H : Hp} {v : Value} {l : List U8} (hR : aL H v l) {B : Nat} {w0 w : World} {M : List bP} {P : Program} (ht : St B w0 H M w) : (Conv.bytesToString v).run P w = .ok (.string (rA l)) w := by
 rcases hR with ⟨⟨a, rfl⟩, rfl⟩ | ⟨b, off, cap, arr, T, fz, rfl, h2, h3, h4, h5, h6⟩
 ·cases a with
  | none => rfl
  | some a =>
   rw [run_bytesToString w a 0 0 [] (by simp [loadCells, loadCellsFrom, Ft])]
   rfl
 ·have hl := run_loadCells_list (P := P) w ⟨b, off, none⟩ ((l.map fun y => y.n).map (Value.int .u8)) (fun j v hj => by
   rw [FJ, FJ, Option.map_map, IW] at hj
   obtain ⟨y, hy, rfl⟩ := hj
   obtain ⟨cs, q1, q2⟩ := h6 j y hy
   have q1 : cs = [.int .u8 y.n] := q1
   have := q2 0 (.int .u8 y.n) (by rw [q1]; rfl)
   have hb := ht.q7 b _ h4
   rw [Ge]
   simp only [World.cell?, hb]
   simpa [aF.sz] using this)
  simp only [HE] at hl
  rw [run_bytesToString w ⟨b, off, none⟩ l.length cap _ hl, tJ]
  have he0 : ByteArray.empty.data = #[] := rfl
  rw [he0]
  simp [rA, List.map_map, Function.comp_def]
end
def mK (n : Int) : ByteArray := ⟨(Lib.itoa n).toArray⟩
def Ba (s : ByteArray) : Int × Bool := match Lib.parseUintM 4294967295 0 s.data.toList with
 | .ok v => ((v : Int), false)
 | .range => (4294967295, true)
 | _ => (0, true)
end Go.Sim
namespace Go.Sim
open Go
open _root_.Go.IntKind (i64 u64 u32 u8)
abbrev pJ (b c : Nat) (seen : Array Nat) : Obj := .mapIter (some b) c seen c
theorem zA {P : Program} {w : World} {ty : TypeId} {b c it : Nat} {seen : Array Nat} {es : Array MapEntry} (hi : w.heap[it]? = some (pJ b c seen)) (hb : w.heap[b]? = some (.map es c)) (hold : ∀ e ∈ es.toList, e.born < c) :
  ((∀ e ∈ es.toList, seen.contains e.born = true) ∧ (Instr.next (.pointer (some ⟨it, 0, none⟩)) false ty).run P w = .ok (.tuple #[.bool false]) w) ∨
  ∃ e ∈ es.toList, seen.contains e.born = false ∧ ∃ n, (Instr.next (.pointer (some ⟨it, 0, none⟩)) false ty).run P w = .ok (.tuple #[.bool true, e.key, e.val]) { w with drawn := n, heap := w.heap.setIfInBounds it (pJ b c (seen.push e.born)) } := by
 simp only [Instr.next, getObj, Fh, Sem.run, hi, hb, Result.andThen, next_test_false seen es c c hold (FA _), Gp, Ha]
 have hmem : ∀ x ∈ (Array.filter (fun e => !seen.contains e.born) es).toList, x ∈ es.toList ∧ seen.contains x.born = false := fun x hx => by simpa using hx
 have hall : Array.filter (fun e => !seen.contains e.born) es = #[] → ∀ e ∈ es.toList, seen.contains e.born = true := fun h e he => by
  rw [Array.filter_eq_empty_iff] at h
  have := h e (by simpa using he)
  simpa using this
 generalize Array.filter (fun e => !seen.contains e.born) es = K at hmem hall ⊢
 have e1 : K.filter (fun x => decide (x.born < c)) = K := Array.filter_eq_self.2 (fun x hx => by
  have := hold x (hmem x (by simpa using hx)).1
  simpa using this)
 have e2 : K.filter (fun x => decide (x.born ≥ c)) = #[] := by
  rw [Array.filter_eq_empty_iff]
  intro x hx
  have := hold x (hmem x (by simpa using hx)).1
  simp
  omega
 simp only [e1, e2, Array.append_empty]
 by_cases h0 : K.size = 0
 ·left
  have : K = #[] := Array.eq_empty_of_size_eq_zero h0
  subst this
  refine ⟨hall rfl, ?_⟩
  simp [choose, Sem.run, Question.forced]
 ·right
  have hne : K.isEmpty = false := by simp [Array.isEmpty, h0]
  simp only [hne, Gp, Ha, Array.empty_append, Array.size_map]
  have hch : ∃ (j n : Nat), j < K.size ∧ (choose (Question.mapNext K.size)).run P w = .ok j { w with drawn := n } := by
   by_cases hf : K.size ≤ 1
   ·exact ⟨0, w.drawn, by omega, by simp [choose, Sem.run, Question.forced, hf]⟩
   ·exact ⟨_, w.drawn + 1, IA _ (by omega), by
     simp only [choose, Sem.run, Question.forced, Gi, hf, Ha, Question.cut]
     rfl⟩
  obtain ⟨j, n, hj, hrun⟩ := hch
  obtain ⟨m1, m2⟩ := hmem K[j] (by simp)
  refine ⟨K[j], m1, m2, n, ?_⟩
  have hset : ∀ o, (setObj it o).run P { w with drawn := n } = .ok () { w with drawn := n, heap := w.heap.setIfInBounds it o } := fun o => by simp [setObj, Sem.run, hi]
  simp only [hrun, Array.getElem?_map, HZ hj, G1, Fh, hset, Result.andThen]
  rfl
theorem xU {P : Program} {w : World} {b c it : Nat} {seen : Array Nat} {es : Array MapEntry} {e : MapEntry} (hi : w.heap[it]? = some (pJ b c (seen.push e.born))) (hb : w.heap[b]? = some (.map es c)) (he : e ∈ es.toList) (hn : (es.toList.map (·.born)).Nodup) :
  (Instr.entry (.pointer (some ⟨it, 0, none⟩))).run P w = .ok (.tuple #[e.key, e.val]) w := by
 have hf : es.find? (·.born == e.born) = some e := by rw [← Array.find?_toList]; exact find_born e es.toList hn he
 simp only [Instr.entry, getObj, Fh, Sem.run, hi, hb, Result.andThen, Array.back?_push, bne_self_eq_false, Gp, Ha, hf]
 rfl
section
variable {x : Cx} {ops : Array Oper} {Q : jL} {rest : List Oper} {H : Hp} {M M' : List bP} {L L' : Env}
variable {d : Nat} {ty : TypeId} {pos : String} {aft : Array Edge} {g : Option (Nat × Bool)}
variable {κ ν : Type} [DecidableEq κ] [qd κ] [MV ν]
theorem zY {t key e : TypeId} {b c : Nat} {y : Operand} {es : Array MapEntry} (hm : bP.obj b (.map es c) ∈ M)
  (hg : gd ops L ⟨some d, .range t y, ty, pos, aft, g⟩ = some true) (hN : Nat.blt d x.N = true)
  (hT : ∀ w, (underlying t).run x.P w = .ok (.map key e) w) (hy : ev L y = some (.map (some b)))
  (k : ∀ it, W x ops Q rest H (.obj it (pJ b c #[]) :: M) ((d, .pointer (some ⟨it, 0, none⟩)) :: L)) :
  W x ops Q (⟨some d, .range t y, ty, pos, aft, g⟩ :: rest) H M L :=
 nJ rfl hg hN (fun a w hs ht => ⟨_, w.alloc (pJ b c #[]), by
  have hb := ht.px hm
  simp only [execOp, hs.ev hy, Instr.range, Fh, hT, Fe, p9 hb, Ft, newObj, Sem.run, World.alloc], _, _, ht.alloc _, k _⟩)
theorem BJ {b c it : Nat} {y : Operand} {seen : Array Nat} {es : Array MapEntry} {l : List (κ × ν)} (hm : bP.obj b (.map es c) ∈ M) (h : mH es c l)
  (hg : gd ops L ⟨some d, .next y false, ty, pos, aft, g⟩ = some true) (hN : Nat.blt d x.N = true) (hy : ev L y = some (.pointer (some ⟨it, 0, none⟩)))
  (k1 : (∀ e ∈ es.toList, seen.contains e.born = true) → W x ops Q rest H (.obj it (pJ b c seen) :: M) ((d, .tuple #[.bool false]) :: L))
  (k2 : ∀ e ∈ es.toList, seen.contains e.born = false → W x ops Q rest H (.obj it (pJ b c (seen.push e.born)) :: M) ((d, .tuple #[.bool true, e.key, e.val]) :: L)) :
  W x ops Q (⟨some d, .next y false, ty, pos, aft, g⟩ :: rest) H (.obj it (pJ b c seen) :: M) L :=
 nJ rfl hg hN (fun a w hs ht => by
  have hi := ht.px (E4 ..)
  have hb := ht.px (Fc _ hm)
  have hlt : it < w.heap.size := (GG.1 hi).1
  rcases zA (P := x.P) (ty := ty) hi hb h.lt with ⟨hall, hr⟩ | ⟨e, he, hne, n, hr⟩
  ·exact ⟨_, w, by simp only [execOp, hs.ev hy, Fh, hr, Fe, Ft], _, _, ht, k1 hall⟩
  ·refine ⟨_, { w with drawn := n, heap := w.heap.setIfInBounds it (pJ b c (seen.push e.born)) }, by simp only [execOp, hs.ev hy, Fh, hr, Fe, Ft], _, _, ?_, k2 e he hne⟩
   have h1 := ht.w6 (r' := .obj it (pJ b c (seen.push e.born))) (qz w it (pJ b c (seen.push e.born))) (by simp [bP.ok, hlt]) (fun _ hc => .inl hc)
   exact h1.drewN n)
theorem zR {b c it : Nat} {y : Operand} {seen : Array Nat} {es : Array MapEntry} {l : List (κ × ν)} {e : MapEntry} (hi : bP.obj it (pJ b c (seen.push e.born)) ∈ M) (hm : bP.obj b (.map es c) ∈ M) (h : mH es c l) (he : e ∈ es.toList) {vk vv : Value} (hk : e.key = vk) (hv : e.val = vv)
  (hg : gd ops L ⟨some d, .entry y, ty, pos, aft, g⟩ = some true) (hN : Nat.blt d x.N = true) (hy : ev L y = some (.pointer (some ⟨it, 0, none⟩)))
  (k : W x ops Q rest H M ((d, .tuple #[vk, vv]) :: L)) :
  W x ops Q (⟨some d, .entry y, ty, pos, aft, g⟩ :: rest) H M L :=
 dC rfl hg hN (fun a w hs ht => by
  subst hk; subst hv
  simp only [execOp, hs.ev hy, Fh, xU (P := x.P) (ht.px hi) (ht.px hm) he h.nd, Fe, Ft]) k
end
theorem mH.pick {κ ν : Type} [DecidableEq κ] [qd κ] [MV ν] {es : Array MapEntry} {c : Nat} {l : List (κ × ν)} (h : mH es c l) {e : MapEntry} (he : e ∈ es.toList) : ∃ (i : Nat) (p : κ × ν), es.toList[i]? = some e ∧ l[i]? = some p ∧ e.key = MV.mv p.1 ∧ e.val = MV.mv p.2 := by
 obtain ⟨i, hi, rfl⟩ := Gv.1 he
 have h1 : (es.toList.map fun e => (e.key, e.val))[i]? = (l.map fun p => (MV.mv p.1, MV.mv p.2))[i]? := by rw [h.eq]
 rw [FJ, FJ, EZ hi] at h1
 cases hp : l[i]? with
 | none => rw [hp] at h1; simp at h1
 | some p =>
  rw [hp] at h1
  simp only [G1, FR, IJ] at h1
  exact ⟨i, p, EZ hi, hp, h1.1, h1.2⟩
def rN {α : Type} (es : Array MapEntry) (seen : Array Nat) (l : List α) (P : α → Bool) : Prop := ∀ (i : Nat) (p : α), l[i]? = some p → ∀ e, es.toList[i]? = some e → seen.contains e.born = true → P p = false
theorem rN.nil {α : Type} {es : Array MapEntry} {l : List α} {P : α → Bool} : rN es #[] l P := fun i p hp e he h => by simp at h
theorem rN.push {κ ν : Type} [DecidableEq κ] [qd κ] [MV ν] {es : Array MapEntry} {c : Nat} {seen : Array Nat} {l : List (κ × ν)} {P : κ × ν → Bool} (hs : rN es seen l P) (h : mH es c l) {i : Nat} {p : κ × ν} {e : MapEntry}
  (hi : es.toList[i]? = some e) (hp : l[i]? = some p) (hP : P p = false) : rN es (seen.push e.born) l P := fun j q hq e' he' hc => by
 by_cases hj : i = j
 ·subst hj
  rw [hp] at hq
  obtain rfl := EV hq
  exact hP
 ·refine hs j q hq e' he' ?_
  have hne : e'.born ≠ e.born := fun hb => by
   obtain ⟨h1, h2⟩ := ET.1 hi
   obtain ⟨h3, h4⟩ := ET.1 he'
   have hpw := Iz.1 h.nd
   have h1' : i < (es.toList.map (·.born)).length := by simpa using h1
   have h3' : j < (es.toList.map (·.born)).length := by simpa using h3
   rcases Nat.lt_or_gt_of_ne hj with hlt | hlt
   ·exact hpw i j h1' h3' hlt (by rw [Hv, Hv, h2, h4]; exact hb.symm)
   ·exact hpw j i h3' h1' hlt (by rw [Hv, Hv, h2, h4]; exact hb)
  simp at hc ⊢
  rcases hc with hc | hc
  ·exact hc
  ·exact absurd hc hne
theorem rN.none {κ ν : Type} [DecidableEq κ] [qd κ] [MV ν] {es : Array MapEntry} {c : Nat} {seen : Array Nat} {l : List (κ × ν)} {P : κ × ν → Bool} (hs : rN es seen l P) (h : mH es c l) (hall : ∀ e ∈ es.toList, seen.contains e.born = true) : l.any P = false := by
 rw [List.any_eq_false]
 intro p hp
 obtain ⟨i, hi, rfl⟩ := Gv.1 hp
 have hlen : es.toList.length = l.length := by have := Fl List.length h.eq; simpa using this
 have hi' : i < es.toList.length := by omega
 have := hs i l[i] (EZ hi) es.toList[i] (EZ hi') (hall _ (Gr hi'))
 simp [this]
theorem C9 {α : Type} {l : List α} {P : α → Bool} {i : Nat} {p : α} (hp : l[i]? = some p) (hP : P p = true) : l.any P = true :=
 List.any_eq_true.2 ⟨p, Fi hp, hP⟩
def vB (es : Array MapEntry) (seen : Array Nat) : Nat := (es.toList.filter fun e => !seen.contains e.born).length
theorem zE {es : Array MapEntry} {seen : Array Nat} {e : MapEntry} (he : e ∈ es.toList) (h : seen.contains e.born = false) : vB es (seen.push e.born) < vB es seen := by
 unfold vB
 refine filter_lt (fun e => !seen.contains e.born) (fun e' => !(seen.push e.born).contains e'.born) (fun y hy => ?_) e (by simp only [h]; rfl) (by simp) es.toList he
 simp at hy ⊢
 exact hy.1
end Go.Sim
namespace Go.Sim
open Go Go.RowKit
open _root_.Go.IntKind (i64 u64 u32 u8)
def DU (b : Nat) (p : Value) : Prop := p = .pointer none ∨ p = .pointer (some ⟨b, 0, none⟩)
theorem sX (s : ByteArray) : Lib.strCells s = (fC s).map (fun y => Value.int .u8 y.n) := by
 simp [Lib.strCells, fC, Function.comp_def]
theorem lQ.u8 (H : Hp) (l : List U8) : lQ H (l.map fun y => Value.int .u8 y.n) l := by
 induction l with
 | nil => exact lQ.nil
 | cons y l ih => exact ⟨[.int .u8 y.n], _, rfl, rfl, ih⟩
theorem sD {P : Program} {w : World} {t u ty e : TypeId} {i : TypeInfo} (ht : P.underlying t = some (.slice e)) (hu : P.underlying u = some .string) (hi : P.info? e = some i) (hz : i.zero = some (.int .u8 0))
  (hsize : i.size = 1) (hby : i.bytes = 1) {v : Value} {n : Nat} {xs : List Value} (hown : fO w e 1 v n xs) (s : ByteArray) (h63 : n + s.size ≤ maxLen) (hbytes : n + s.size ≤ 140737488355328) :
  ∃ v' w', (Builtin.append_ #[t, u] ty #[v, .string s]).run P w = .ok v' w' ∧ fO w' e 1 v' (n + s.size) (xs ++ Lib.strCells s) ∧ w.grownBy w' v.ownBlock ∧
   (∀ b, v'.ownBlock = some b → v.ownBlock = some b ∨ w.heap.size ≤ b) := by
 have hsmall : n + s.size ≤ 9223372036854775807 := by simp only [maxLen] at h63; omega
 have hxl : xs.length = n := by simpa using hown.1
 have hlen : (xs ++ Lib.strCells s).length = (n + s.size) * 1 := by rw [FP, hxl, IG, HN]
 have grown : ∀ (rH : Nat) (row : Option Nat),
   fO (w.drew.alloc (.cells (xs.toArray ++ (Lib.strCells s).toArray ++ Builtin.zeroCells (Value.int .u8 0).cells (grownCap w (n + s.size) rH e - (n + s.size))) e)) e 1
    (.slice (some ⟨w.heap.size, 0, none⟩) (n + s.size) (grownCap w (n + s.size) rH e)) (n + s.size) (xs ++ Lib.strCells s) ∧
   w.grownBy (w.drew.alloc (.cells (xs.toArray ++ (Lib.strCells s).toArray ++ Builtin.zeroCells (Value.int .u8 0).cells (grownCap w (n + s.size) rH e - (n + s.size))) e)) row := by
  intro rH row
  have hge := grownCap_ge w (n + s.size) rH e
  have hcm : grownCap w (n + s.size) rH e ≤ maxLen := grownCap_le_maxLen w (n + s.size) rH e h63
  refine ⟨⟨hlen, .inr ⟨w.heap.size, 0, _, _, rfl, JT w.drew _, hge, hcm, ?_, ?_⟩⟩, ⟨rfl, rfl, rfl, by simp, fun k hk _ => heap_alloc_old w.drew _ hk⟩⟩
  ·have hz1 : (Value.int u8 0).cells.size = 1 := rfl
   simp only [Array.size_append, I4, size_zeroCells, hz1, hxl, IG]
   omega
  ·simp only [G5, Array.toList_append, FT]
   rw [← FT, ← hlen]
   exact Jt
 rcases hown.2 with ⟨rfl, rfl⟩ | ⟨g, off, cap, cur, rfl, hg, hnc, hcm, hcs, htake⟩
 ·have hx : xs = [] := FN hxl
  subst hx
  by_cases hm : s.size = 0
  ·have hn : Lib.strCells s = [] := FN (by rw [IG]; exact hm)
   refine ⟨.slice none 0 0, w, ?_, by rw [hm, hn]; exact fO.nil w e 1, ⟨rfl, rfl, rfl, FA _, fun _ _ _ => rfl⟩, by simp [Value.ownBlock]⟩
   have hf := Lib.run_firstCells_string (P := P) w 1 s
   rw [hm] at hf
   simp [Builtin.append_, G2 ht, G2 hu, sizeOf, typeInfo, hi, hsize, Builtin.lenOf, hm, hf]
  ·have hr := run_append_nil_string (P := P) w t u ty e i (.int .u8 0) ht hu hi hz s (by omega) (by omega) (by rw [hby]; omega)
   have hgr := grown 0 (Value.ownBlock (.slice none 0 0))
   simp only [FO, He, Array.empty_append] at hgr ⊢
   have e1 : (s.data.map fun b => Value.int .u8 b.toNat) = (Lib.strCells s).toArray := by
    apply Array.ext'
    simp [Lib.strCells]
   rw [e1] at hr
   exact ⟨_, _, hr, hgr.1, hgr.2, fun b hb => .inr (by simp only [Value.ownBlock, FR] at hb; omega)⟩
 ·have hcs' : off + cap ≤ cur.size := by simpa using hcs
  by_cases hroom : n + s.size ≤ cap
  ·have hf := Lib.run_firstCells_string (P := P) w 1 s
   obtain ⟨w', hst, hh, hgr⟩ := iB (P := P) g (off + n) e (Lib.strCells s) 0 cur.toList w (by simpa using hg) (by rw [IG]; simp; omega) (Lib.strCells_oneCell s)
   refine ⟨.slice (some ⟨g, off, none⟩) (n + s.size) cap, w', ?_, ⟨hlen, .inr ⟨g, off, cap, _, rfl, hh, hroom, hcm, ?_, ?_⟩⟩, hgr, fun b hb => .inl hb⟩
   ·simp [Builtin.append_, G2 ht, G2 hu, sizeOf, typeInfo, hi, hsize, Builtin.lenOf, hroom, hf, Ge, hst]
   ·simpa [lE] using hcs
   ·rw [Ig, GY, qV _ _ _ (by rw [IG]; simp; omega)]
    have hd : (cur.toList.take (off + n)).drop off = xs := by rw [HV, HD]; simpa using htake
    rw [FT, I1 (by simp; omega), hd, ← FT, ← hlen]
    exact Jt
  ·have holds : ∀ j u, xs[j]? = some u → w.cell? ((⟨g, off, none⟩ : Addr).add j) = some u := by
    intro j u hu
    rw [Ge]
    refine JM hg rfl ?_
    rw [← htake, F7] at hu
    split at hu
    ·rw [FU] at hu; simpa using hu
    ·cases hu
   have hr := Lib.run_append_grow_string (P := P) w t u ty e i (.int .u8 0) ht hu hi hz ⟨g, off, none⟩ n cap xs (by rw [hsize]; simpa using hxl) holds s (by omega) (by omega) (by rw [hby]; exact growslice_fits (by omega) (by omega))
   have hgr := grown cap (Value.ownBlock (.slice (some ⟨g, off, none⟩) n cap))
   exact ⟨_, _, hr, hgr.1, hgr.2, fun b hb => .inr (by simp only [Value.ownBlock, FR] at hb; omega)⟩
section
variable {x : Cx} {ops : Array Oper} {Q : jL} {rest : List Oper} {H : Hp} {M M' : List bP} {L L' : Env}
variable {d : Nat} {ty : TypeId} {pos : String} {aft : Array Edge} {g : Option (Nat × Bool)}
theorem vK {t u e : TypeId} {n : Nat} {y z : Operand} {v : Value} {xs : List Value} {l : List U8} {s : ByteArray}
  (hg : gd ops L ⟨some d, .call ⟨.builtin .append, #[y, z], #[t, u]⟩, ty, pos, aft, g⟩ = some true) (hN : Nat.blt d x.N = true)
  (hT : x.P.underlying t = some (.slice e)) (hU : x.P.underlying u = some .string) (hi : DF x.P e 1 1 (.int .u8 0))
  (hy : ev L y = some v) (hz : ev L z = some (.string s)) (hx : Rw H v xs l) (hb : l.length + s.size ≤ 140737488355328)
  (k : ∀ v' xs', Rw H v' xs' (l ++ fC s) → W x ops Q rest H (.row v' e (aF.sz U8) (l ++ fC s).length xs' :: M) ((d, v') :: L)) :
  W x ops Q (⟨some d, .call ⟨.builtin .append, #[y, z], #[t, u]⟩, ty, pos, aft, g⟩ :: rest) H (.row v e (aF.sz U8) n xs :: M) L := by
 obtain ⟨i, h1, h2, h3, h4⟩ := hi.ex
 refine nJ rfl hg hN fun a w hsl ht => ?_
 have hown : fO w e 1 v n xs := ht.ok _ (E4 ..)
 have hn : n = l.length := by
  have := hx.rd.len
  rw [hown.1] at this
  exact Hb (Nat.zero_lt_one) this
 subst hn
 obtain ⟨v', w', hr, ho, hgr, hfr⟩ := sD (P := x.P) (ty := ty) hT hU h1 h4 h2 h3 hown s (by unfold maxLen; omega) hb
 have hlen : (l ++ fC s).length = l.length + s.size := by rw [FP, rB]
 have hok : bP.ok w' (.row v' e (aF.sz U8) (l ++ fC s).length (xs ++ Lib.strCells s)) := by rw [hlen]; exact ho
 refine ⟨v', w', ?_, H, _, ht.w6 (r' := .row v' e (aF.sz U8) (l ++ fC s).length (xs ++ Lib.strCells s)) hgr hok hfr, k v' _ ⟨?_, ho.shape⟩⟩
 ·simp [execOp, resolve, invoke, builtin, hsl.ev hy, hsl.ev hz, hr]
 ·rw [sX]
  exact hx.rd.app (lQ.u8 H _)
theorem vQ {t e u : TypeId} {y z : Operand} {a : Addr} (hi : ∃ j, x.P.info? e = some j) (hg : gd ops L ⟨some d, .binOp .neq t y z u, ty, pos, aft, g⟩ = some true) (hN : Nat.blt d x.N = true)
  (hT : x.P.underlying t = some (.pointer e)) (hy : ev L y = some (.pointer (some a))) (hz : ev L z = some (.pointer (some a)))
  (k : W x ops Q rest H M ((d, .bool false) :: L)) : W x ops Q (⟨some d, .binOp .neq t y z u, ty, pos, aft, g⟩ :: rest) H M L :=
 dC rfl hg hN (fun c w hs _ => by
  obtain ⟨j, hj⟩ := hi
  have h := Lib.run_neq_ptr_same (P := x.P) w a hT hj
  simp only [execOp, hs.ev hy, hs.ev hz, Fh, eqGuard]
  simp [h]) k
theorem uG {B : Nat} {w0 w : World} {b : Nat} {cs : List Value} {T : TypeId} (ht : St B w0 H M w) (hm : bP.obj b (.cells cs.toArray T (0, 0)) ∈ M) : w.shape? b = some (T, cs.length) := by
 have h := ht.px hm
 simp [World.shape?, h]
theorem xd {src dst T e : TypeId} {y : Operand} {b o : Nat} {cs : List Value} (hm : bP.obj b (.cells cs.toArray e (0, 0)) ∈ M) (ho : Nat.blt o cs.length = true)
  (hi : ∃ j, x.P.info? T = some j ∧ Nat.beq j.size 0 = false) (hg : gd ops L ⟨some d, .convert src dst y, ty, pos, aft, g⟩ = some true) (hN : Nat.blt d x.N = true)
  (hs : x.P.underlying src = some (.pointer T)) (hd : x.P.underlying dst = some .unsafePointer) (hy : ev L y = some (.pointer (some ⟨b, o, none⟩)))
  (k : W x ops Q rest H M ((d, .pointer (some ⟨b, o, none⟩)) :: L)) : W x ops Q (⟨some d, .convert src dst y, ty, pos, aft, g⟩ :: rest) H M L :=
 dC rfl hg hN (fun c w hsl ht => by
  obtain ⟨j, hj, hj0⟩ := hi
  have h := Lib.run_to_unsafe (P := x.P) w ⟨b, o, none⟩ hs hd hj (fun e => by rw [e] at hj0; cases hj0) (uG ht hm) (by simpa [Gw] using ho)
  simp only [execOp, hsl.ev hy, Fh, h, Fe, Ft]) k
theorem uQ {src dst T e : TypeId} {y : Operand} {b o : Nat} {cs : List Value} (hm : bP.obj b (.cells cs.toArray e (0, 0)) ∈ M)
  (hi : ∃ j, x.P.info? T = some j) (hl : liesAt x.P x.P.depth e (cs.length / x.P.cellsOf e) o T 1 = true) (hg : gd ops L ⟨some d, .convert src dst y, ty, pos, aft, g⟩ = some true) (hN : Nat.blt d x.N = true)
  (hs : x.P.underlying src = some .unsafePointer) (hd : x.P.underlying dst = some (.pointer T)) (hy : ev L y = some (.pointer (some ⟨b, o, none⟩)))
  (k : W x ops Q rest H M ((d, .pointer (some ⟨b, o, none⟩)) :: L)) : W x ops Q (⟨some d, .convert src dst y, ty, pos, aft, g⟩ :: rest) H M L :=
 dC rfl hg hN (fun c w hsl ht => by
  obtain ⟨j, hj⟩ := hi
  have h := Lib.run_from_unsafe (P := x.P) w ⟨b, o, none⟩ hs hd hj (uG ht hm) hl
  simp only [execOp, hsl.ev hy, Fh, h, Fe, Ft]) k
theorem vo {P : Program} {f : FuncId} {fn : Func} (hf : P.funcs[f]? = some fn) (h1 : (fn.name == "runtime.NumGoroutine") = false) (h2 : fn.body.isNone = true) (h3 : Extern.findNext fn = none) (h4 : Extern.find fn = some Extern.AbiNoEscape.same) (v : Value) :
  ∀ w, (callFunc f [v].toArray).run P w = .ok (.value v) w := fun w => by
 rw [run_callFunc_extern hf h1 h2 h3 h4, show [v].toArray = #[v] from rfl, Lib.run_noEscape]
 rfl
theorem vT {ts : Array TypeId} {y : Operand} {a : Addr} {n c : Nat} (hg : gd ops L ⟨some d, .call ⟨.builtin .unsafeSliceData, #[y], ts⟩, ty, pos, aft, g⟩ = some true) (hN : Nat.blt d x.N = true)
  (hy : ev L y = some (.slice (some a) n c)) (hc : c ≠ 0) (k : W x ops Q rest H M ((d, .pointer (some a)) :: L)) :
  W x ops Q (⟨some d, .call ⟨.builtin .unsafeSliceData, #[y], ts⟩, ty, pos, aft, g⟩ :: rest) H M L :=
 dC rfl hg hN (fun s w hsl ht => by
  have h := Lib.run_unsafeSliceData_row (P := x.P) w ts ty a n c hc
  simp [execOp, resolve, invoke, builtin, hsl.ev hy, h]) k
theorem qL {P : Program} (w : World) : ∀ (l : List U8) (a : Addr) (acc : ByteArray), (∀ j y, l[j]? = some y → w.cell? (a.add j) = some (.int .u8 y.n)) →
  (loadBytes a acc l.length).run P w = .ok ⟨acc.data ++ (l.map fun y => UInt8.ofNat y.n.toNat).toArray⟩ w
 | [], a, acc, _ => by simp [loadBytes]
 | y :: l, a, acc, h => by
  have h0 : w.cell? a = some (.int .u8 y.n) := by
   have := h 0 y rfl
   simpa [Addr.add] using this
  have ih := qL (P := P) w l (a.add 1) (acc.push (UInt8.ofNat y.n.toNat)) (fun j z hz => by
   have := h (j + 1) z (by simpa using hz)
   have e : (a.add 1).add j = a.add (j + 1) := by
    unfold Addr.add
    by_cases hj : j = 0
    ·subst hj; simp
    ·simp [hj]; omega
   rw [e]; exact this)
  have hx : (y.n.toNat).toUInt8 = UInt8.ofNat y.n.toNat := rfl
  simp only [Fw, loadBytes, Fh, run_load, h0, Result.andThen, hx]
  rw [ih]
  congr 1
  apply ByteArray.ext
  simp [ByteArray.push]
theorem uv {P : Program} {e : TypeId} (hc : P.cellsOf e = 1) (count off n : Nat) (hn : off + n ≤ count) : liesAt P P.depth e count off e n = true := by
 have hd : P.depth = (2 * (P.types.size + Made.depth) + 1) + 1 := rfl
 rw [hd]
 simp only [liesAt, G0]
 left
 rw [hd]
 simp [rowAt, hc, hn, sameLayout, Nat.mod_one]
theorem vV {pt it e : TypeId} {y z : Operand} {gb off n cap : Nat} {xs : List Value} {l : List U8}
  (hg : gd ops L ⟨some d, .call ⟨.builtin .unsafeString, #[y, z], #[pt, it]⟩, ty, pos, aft, g⟩ = some true) (hN : Nat.blt d x.N = true)
  (hp : x.P.underlying pt = some (.pointer e)) (hc : x.P.cellsOf e = 1)
  (hy : ev L y = some (.pointer (some ⟨gb, off, none⟩))) (hz : ev L z = some (.int .i64 (l.length : Int))) (h0 : 0 < l.length)
  (hx : Rw H (.slice (some ⟨gb, off, none⟩) n cap) xs l)
  (k : W x ops Q rest H M ((d, .string (rA l)) :: L)) :
  W x ops Q (⟨some d, .call ⟨.builtin .unsafeString, #[y, z], #[pt, it]⟩, ty, pos, aft, g⟩ :: rest) H (.row (.slice (some ⟨gb, off, none⟩) n cap) e (aF.sz U8) n xs :: M) L := by
 refine nJ rfl hg hN fun a w hsl ht => ?_
 have hown : fO w e 1 (.slice (some ⟨gb, off, none⟩) n cap) n xs := ht.ok _ (E4 ..)
 have hn : n = l.length := by
  have := hx.rd.len
  rw [hown.1] at this
  exact Hb (Nat.zero_lt_one) this
 rcases hown.2 with ⟨h, _⟩ | ⟨g', off', mY, cur, he, hgc, hnc, hcm, hcs, htake⟩
 ·cases h
 cases he
 have hcs' : off + cap ≤ cur.size := by simpa using hcs
 have hsh : w.shape? gb = some (e, cur.size) := by simp [World.shape?, hgc]
 have hcell : ∀ j y, l[j]? = some y → w.cell? ((⟨gb, off, none⟩ : Addr).add j) = some (.int .u8 y.n) := by
  intro j y hj
  obtain ⟨cs, h1, h2⟩ := hx.rd.get j y hj
  have h1 : cs = [.int .u8 y.n] := h1
  have h3 := h2 0 (.int .u8 y.n) (by rw [h1]; rfl)
  rw [Ge]
  refine JM hgc rfl ?_
  rw [← htake, F7] at h3
  split at h3
  ·rw [FU] at h3
   simpa [aF.sz] using h3
  ·cases h3
 have hlb := qL (P := x.P) w l ⟨gb, off, none⟩ .empty hcell
 have hlies := uv (P := x.P) hc (cur.size / x.P.cellsOf e) off l.length (by rw [hc, Nat.div_one]; omega)
 have hmax : i64.max = 9223372036854775807 := rfl
 have hl0 : l.length ≠ 0 := by omega
 have h63' : ¬ (9223372036854775807 : Int) < (l.length : Int) := by unfold maxLen at hcm; omega
 have hneg : ¬ (l.length : Int) < 0 := by omega
 have hrun : (Builtin.unsafeString_ #[pt, it] ty #[.pointer (some ⟨gb, off, none⟩), .int .i64 l.length]).run x.P w = .ok (.string (rA l)) (w.freeze ⟨gb, off, none⟩ l.length) := by
  have hdef : Builtin.unsafeString_ #[pt, it] ty #[.pointer (some ⟨gb, off, none⟩), .int .i64 l.length] =
    (do
     let n ← asInt (.int .i64 l.length)
     if n < 0 then runtimePanic (.error "unsafe.String: len out of range")
     if n > i64.max then unsupported (.unsafePointer "String: a length above the largest int")
     if n = 0 then pure (.string .empty)
     else if ← variablesAt ⟨gb, off, none⟩ (← elemOf pt) n.toNat then do
      let s ← loadBytes ⟨gb, off, none⟩ .empty n.toNat
      freeze ⟨gb, off, none⟩ n.toNat
      pure (.string s)
     else unsupported (.unsafePointer "String: not so many bytes at ptr")) := rfl
  rw [hdef]
  have he0 : ByteArray.empty.data = #[] := rfl
  simp [asInt, asIntOf, hmax, h63', hneg, hl0, variablesAt, hsh, elemOf, G2 hp, hlies, hlb, rA]
 have hgr : w.grownBy (w.freeze ⟨gb, off, none⟩ l.length) (some gb) := by
  unfold World.freeze
  split
  ·exact ⟨rfl, rfl, rfl, FA _, fun _ _ _ => rfl⟩
  ·exact ⟨rfl, rfl, rfl, by simp, fun q hq hne => by
    simp only [JI]
    rw [E6 (by intro e; exact hne (by rw [e]))]⟩
 have h1 := ht.w6 (r' := .row (.slice none 0 0) 0 1 0 []) hgr (fO.nil _ _ _) (by intro b hb; simp [bP.oT, Value.ownBlock] at hb)
 refine ⟨.string (rA l), w.freeze ⟨gb, off, none⟩ l.length, ?_, H, M, h1.tail, k⟩
 simp [execOp, resolve, invoke, builtin, hsl.ev hy, hsl.ev hz, hrun]
end
end Go.Sim
namespace Go.Sim
open Go
open _root_.Go.IntKind (i64 u64 u32 u8)
def rowsOf (T : TypeId) (sz : Nat) {α : Type} (ws : List (Value × List Value)) (ls : List (List α)) : List bP := List.zipWith (fun w l => bP.row w.1 T sz l.length w.2) ws ls
structure Mx {α : Type} [aF α] (T1 T2 : TypeId) (H : Hp) (v : Value) (hs : List Value) (mx : List bP) (sg : List Nat) (ls : List (List α)) : Prop where
 ex : ∃ (xs : List Value) (ws : List (Value × List Value)), mx = .row v T1 1 sg.length xs :: rowsOf T2 (aF.sz α) ws ls ∧ ws.length = ls.length ∧ ws.map (·.1) = hs ∧ (∀ (k : Nat) (w : Value × List Value) (l : List α), ws[k]? = some w → ls[k]? = some l → Rw H w.1 w.2 l) ∧
  xs.length = sg.length ∧ (∀ (i k : Nat), sg[i]? = some k → ∃ w : Value × List Value, ws[k]? = some w ∧ xs[i]? = some w.1)
 sl : ∃ a n c, v = .slice a n c
section
variable {α : Type} [aF α] {T1 T2 : TypeId} {H H' : Hp} {v : Value} {hs : List Value} {mx : List bP} {sg : List Nat} {ls : List (List α)}
theorem Mx.mono (h : Mx T1 T2 H v hs mx sg ls) (hle : H.le H') : Mx T1 T2 H' v hs mx sg ls := by
 obtain ⟨xs, ws, h1, h2, h2', h3, h4, h5⟩ := h.ex
 exact ⟨⟨xs, ws, h1, h2, h2', fun k w l a b => (h3 k w l a b).mono hle, h4, h5⟩, h.sl⟩
theorem xy {ws : List (Value × List Value)} {k : Nat} {w : Value} (hh : ws.map (·.1) = hs) (hw : hs[k]? = some w) : ∃ u, ws[k]? = some u ∧ u.1 = w := by
 rw [← hh, FJ] at hw
 cases e : ws[k]? with
 | none => rw [e] at hw; simp at hw
 | some u => rw [e] at hw; exact ⟨u, rfl, EV hw⟩
theorem Mx.row (h : Mx T1 T2 H v hs mx sg ls) {k : Nat} {w : Value} (hw : hs[k]? = some w) : ∃ (xs : List Value) (m1 m2 : List bP), k < ls.length ∧ mx = m1 ++ .row w T2 (aF.sz α) ((ls[k]?).getD []).length xs :: m2 ∧ Rw H w xs ((ls[k]?).getD []) ∧
  ∀ (H' : Hp) (xs' : List Value) (l' : List α), H.le H' → Rw H' w xs' l' → Mx T1 T2 H' v hs (m1 ++ .row w T2 (aF.sz α) l'.length xs' :: m2) sg (ls.set k l') := by
 obtain ⟨oxs, ws, rfl, h2, h2', h3, h4, h5⟩ := h.ex
 have hh := hw
 clear hw
 obtain ⟨w, hw, rfl⟩ := xy h2' hh
 have hkw : k < ws.length := (ET.1 hw).1
 have hk : k < ls.length := by omega
 have hl := EZ hk
 have hwe : ws[k] = w := by rw [EZ hkw] at hw; exact EV hw
 have hsp : ∀ (ws : List (Value × List Value)) (ls : List (List α)) (h1 : k < ws.length) (h2 : k < ls.length), rowsOf T2 (aF.sz α) ws ls = rowsOf T2 (aF.sz α) (ws.take k) (ls.take k) ++ .row ws[k].1 T2 (aF.sz α) ls[k].length ws[k].2 :: rowsOf T2 (aF.sz α) (ws.drop (k + 1)) (ls.drop (k + 1)) := fun ws ls h1 h2 => by
  have e1 : ws = ws.take k ++ ws[k] :: ws.drop (k + 1) := by rw [← GJ h1, GN]
  have e2 : ls = ls.take k ++ ls[k] :: ls.drop (k + 1) := by rw [← GJ h2, GN]
  have e3 : rowsOf T2 (aF.sz α) ws ls = rowsOf T2 (aF.sz α) (ws.take k ++ ws[k] :: ws.drop (k + 1)) (ls.take k ++ ls[k] :: ls.drop (k + 1)) := by rw [← e1, ← e2]
  rw [e3]
  unfold rowsOf
  rw [IH (by simp; omega)]
  rfl
 have hg : (ls[k]?).getD [] = ls[k] := by rw [hl]; rfl
 rw [hg]
 refine ⟨w.2, .row v T1 1 sg.length oxs :: rowsOf T2 (aF.sz α) (ws.take k) (ls.take k), rowsOf T2 (aF.sz α) (ws.drop (k + 1)) (ls.drop (k + 1)), hk, ?_, h3 k w _ hw hl, fun H' xs' l' hle hr => ⟨⟨oxs, ws.set k (w.1, xs'), ?_, by simp [h2], ?_, fun j u l hu hl' => ?_, h4, fun i' j hj => ?_⟩, h.sl⟩⟩
 ·rw [hsp ws ls hkw hk, hwe]; rfl
 ·rw [hsp (ws.set k (w.1, xs')) (ls.set k l') (by simpa using hkw) (by simpa using hk)]
  have t1 : (ws.set k (w.1, xs')).take k = ws.take k := Ie (FA k)
  have t2 : (ls.set k l').take k = ls.take k := Ie (FA k)
  have t3 : (ws.set k (w.1, xs')).drop (k + 1) = ws.drop (k + 1) := Ib (E5 k)
  have t4 : (ls.set k l').drop (k + 1) = ls.drop (k + 1) := Ib (E5 k)
  rw [t1, t2, t3, t4]
  simp
 ·rw [List.map_set, h2']
  obtain ⟨e1, e2⟩ := ET.1 hh
  rw [← e2, List.set_getElem_self]
 ·by_cases e : k = j
  ·subst e
   rw [FD hkw] at hu
   rw [FD hk] at hl'
   obtain rfl := EV hu
   obtain rfl := EV hl'
   exact hr
  ·rw [Fz e] at hu hl'
   exact (h3 j u l hu hl').mono hle
 ·obtain ⟨u, hu, hx'⟩ := h5 i' j hj
  by_cases e : k = j
  ·subst e
   rw [hw] at hu
   obtain rfl := EV hu
   exact ⟨(w.1, xs'), by rw [FD hkw], hx'⟩
  ·exact ⟨u, by rw [Fz e]; exact hu, hx'⟩
theorem Mx.outer (h : Mx T1 T2 H v hs mx sg ls) : ∃ oxs m2, mx = .row v T1 1 sg.length oxs :: m2 ∧ oxs.length = sg.length ∧ (∀ (i k : Nat), sg[i]? = some k → ∃ w, hs[k]? = some w ∧ oxs[i]? = some w) ∧
  (∀ (i k : Nat) (w : Value), i < sg.length → hs[k]? = some w → Mx T1 T2 H v hs (.row v T1 1 (sg.set i k).length (oxs.set i w) :: m2) (sg.set i k) ls) ∧
  (∀ (i : Nat) (w : Value) (xs : List Value) (l : List α), i < sg.length → Rw H w xs l → Mx T1 T2 H v (hs ++ [w]) (.row v T1 1 (sg.set i ls.length).length (oxs.set i w) :: (m2 ++ [.row w T2 (aF.sz α) l.length xs])) (sg.set i ls.length) (ls ++ [l])) := by
 obtain ⟨oxs, ws, rfl, h2, h2', h3, h4, h5⟩ := h.ex
 refine ⟨oxs, _, rfl, h4, fun i k hk => ?_, fun i k w hi hw => ?_, fun i w xs l hi hr => ?_⟩
 ·obtain ⟨u, hu, hx⟩ := h5 i k hk
  exact ⟨u.1, by rw [← h2', FJ, hu]; rfl, hx⟩
 ·obtain ⟨u, hu, rfl⟩ := xy h2' hw
  refine ⟨⟨oxs.set i u.1, ws, rfl, h2, h2', h3, by simp [h4], fun i' k' hk' => ?_⟩, h.sl⟩
  by_cases e : i = i'
  ·subst e
   rw [FD hi] at hk'
   obtain rfl := EV hk'
   exact ⟨u, hu, by rw [FD (by omega)]⟩
  ·rw [Fz e] at hk'
   obtain ⟨u', hu', hx'⟩ := h5 i' k' hk'
   exact ⟨u', hu', by rw [Fz e]; exact hx'⟩
 ·refine ⟨⟨oxs.set i w, ws ++ [(w, xs)], ?_, by simp [h2], by simp [h2'], fun j u l' hu hl' => ?_, by simp [h4], fun i' k' hk' => ?_⟩, h.sl⟩
  ·unfold rowsOf
   rw [IH h2]
   rfl
  ·rcases Hf j ls.length with hj | hj
   ·rw [Gl (by omega)] at hu hl'
    exact h3 j u l' hu hl'
   ·rw [FI (by omega)] at hu hl'
    rw [h2] at hu
    cases e : j - ls.length with
    | zero =>
     rw [e] at hu hl'
     obtain rfl := EV hu
     obtain rfl := EV hl'
     exact hr
    | succ m => rw [e] at hu; simp at hu
  ·by_cases e : i = i'
   ·subst e
    rw [FD hi] at hk'
    obtain rfl := EV hk'
    exact ⟨(w, xs), by rw [FI (by omega), h2, GC]; rfl, by rw [FD (by omega)]⟩
   ·rw [Fz e] at hk'
    obtain ⟨u', hu', hx'⟩ := h5 i' k' hk'
    exact ⟨u', by rw [Gl (ET.1 hu').1]; exact hu', by rw [Fz e]; exact hx'⟩
end
structure yW where
 mk ::
instance : aF yW where
 sz := 1
 E _ cs _ := cs = [.slice none 0 0]
 len h := by rw [h]; rfl
 mono _ h := h
 one h c hc := by rw [h] at hc; simp at hc; subst hc; rfl
theorem tX {H : Hp} : ∀ {n : Nat} {xs : List Value}, lQ H xs (List.replicate n yW.mk) → xs = List.replicate n (.slice none 0 0)
 | 0, xs, h => h
 | n + 1, xs, h => by
  obtain ⟨cs, r, rfl, he, hr⟩ := h
  have he : cs = [.slice none 0 0] := he
  rw [he, tX hr]; rfl
section
variable {α : Type} [aF α] {T1 T2 : TypeId} {H H' : Hp} {v : Value} {hs : List Value} {mx : List bP} {sg : List Nat} {ls : List (List α)}
theorem Mx.make {n : Nat} {oxs : List Value} (h : Rw H v oxs (List.replicate n yW.mk)) : Mx T1 T2 H v [.slice none 0 0] (.row v T1 1 (List.replicate n 0).length oxs :: [.row (.slice none 0 0) T2 (aF.sz α) 0 []]) (List.replicate n 0) ([[]] : List (List α)) := by
 have hx := tX h.rd
 refine ⟨⟨oxs, [(.slice none 0 0, [])], rfl, rfl, rfl, fun k w l hw hl => ?_, by rw [hx]; simp, fun i k hk => ?_⟩, h.sl⟩
 ·cases k with
  | zero =>
   obtain rfl := EV hw
   obtain rfl := EV hl
   exact Rw.nil
  | succ k => simp at hw
 ·obtain ⟨hi, he⟩ := ET.1 hk
  rw [List.getElem_replicate] at he
  subst he
  refine ⟨_, rfl, ?_⟩
  rw [hx, HC, E_ (by simpa using hi)]
theorem tL {B : Nat} {w0 w : World} {M : List bP} (hs : 0 < aF.sz α) : ∀ (ws : List (Value × List Value)) (ls : List (List α)) (H : Hp), ws.length = ls.length →
  (∀ (k : Nat) (u : Value × List Value) (l : List α), ws[k]? = some u → ls[k]? = some l → Rw H u.1 u.2 l) → St B w0 H (rowsOf T2 (aF.sz α) ws ls ++ M) w →
  ∃ H', H.le H' ∧ St B w0 H' M w ∧ ∀ (k : Nat) (u : Value × List Value) (l : List α), ws[k]? = some u → ls[k]? = some l → aL H' u.1 l
 | [], [], H, _, _, ht => ⟨H, EX _, ht, fun k u l hu _ => by simp at hu⟩
 | [], _ :: _, H, hl, _, _ => by simp at hl
 | _ :: _, [], H, hl, _, _ => by simp at hl
 | u :: ws, l :: ls, H, hl, hr, ht => by
  have ht : St B w0 H (.row u.1 T2 (aF.sz α) l.length u.2 :: (rowsOf T2 (aF.sz α) ws ls ++ M)) w := ht
  obtain ⟨H1, h1, h2, h3⟩ := ht.pH (hr 0 u l rfl rfl).rd hs
  obtain ⟨H2, g1, g2, g3⟩ := tL hs ws ls H1 (by simpa using hl) (fun k u' l' hu hl' => (hr (k + 1) u' l' (by simpa using hu) (by simpa using hl')).mono h1) h2
  refine ⟨H2, EW h1 g1, g2, fun k u' l' hu hl' => ?_⟩
  cases k with
  | zero =>
   obtain rfl := EV hu
   obtain rfl := EV hl'
   exact h3.mono g1
  | succ k => exact g3 k u' l' (by simpa using hu) (by simpa using hl')
theorem uI {H : Hp} : ∀ (xs : List Value) (l : List (List α)), xs.length = l.length → (∀ (i : Nat) (y : Value) (e : List α), xs[i]? = some y → l[i]? = some e → aL H y e) → lQ H xs l
 | [], [], _, _ => rfl
 | [], _ :: _, h, _ => by simp at h
 | _ :: _, [], h, _ => by simp at h
 | y :: xs, e :: l, h, hr => ⟨[y], xs, rfl, ⟨y, rfl, hr 0 y e rfl rfl⟩, uI xs l (by simpa using h) (fun i y' e' hy he => hr (i + 1) y' e' (by simpa using hy) (by simpa using he))⟩
def lY (sg : List Nat) (ls : List (List α)) : List (List α) := sg.map fun k => (ls[k]?).getD []
theorem St.wm {B : Nat} {w0 w : World} {M : List bP} (ht : St B w0 H (mx ++ M) w) (h : Mx T1 T2 H v hs mx sg ls) (h0 : 0 < aF.sz α) : ∃ H', H.le H' ∧ St B w0 H' M w ∧ aL H' v (lY sg ls) := by
 obtain ⟨oxs, ws, rfl, h2, _, h3, h4, h5⟩ := h.ex
 have ht1 : St B w0 H (rowsOf T2 (aF.sz α) ws ls ++ (.row v T1 1 sg.length oxs :: M)) w := ht.perm (by
  rw [Hu]
  exact List.perm_middle.symm)
 obtain ⟨H1, g1, g2, g3⟩ := tL h0 ws ls H h2 h3 ht1
 have hv : (lY sg ls).length = sg.length := by unfold lY; simp
 have hrd : lQ H1 oxs (lY sg ls) := uI oxs _ (by rw [hv]; exact h4) (fun i y e hy he => by
  unfold lY at he
  rw [FJ] at he
  cases hk : sg[i]? with
  | none => rw [hk] at he; simp at he
  | some k =>
   rw [hk] at he
   obtain ⟨u, hu, hx⟩ := h5 i k hk
   rw [hy] at hx
   obtain rfl := EV hx
   have hkl : k < ls.length := by rw [← h2]; exact (ET.1 hu).1
   have hl := EZ hkl
   simp only [G1, FR] at he
   rw [hl, Hj] at he
   rw [← he]
   exact g3 k u _ hu hl)
 have g2' : St B w0 H1 (.row v T1 (aF.sz (List α)) sg.length oxs :: M) w := g2
 obtain ⟨H2, k1, k2, k3⟩ := g2'.pH hrd Nat.one_pos
 exact ⟨H2, EW g1 k1, k2, k3⟩
end
section
variable {x : Cx} {ops : Array Oper} {Q : jL} {rest : List Oper} {H : Hp} {M : List bP} {L : Env}
theorem xb {α : Type} [aF α] {T1 T2 : TypeId} {v : Value} {hs : List Value} {mx : List bP} {sg : List Nat} {ls : List (List α)} (h : Mx T1 T2 H v hs mx sg ls) (h0 : Nat.blt 0 (aF.sz α) = true)
  (k : ∀ H', H.le H' → aL H' v (lY sg ls) → W x ops Q rest H' M L) : W x ops Q rest H (mx ++ M) L := by
 intro a w hsl ht
 obtain ⟨H', h1, h2, h3⟩ := St.wm ht h (by simpa [Gw] using h0)
 exact k H' h1 h3 a w hsl h2
variable {d : Nat} {ty : TypeId} {pos : String} {aft : Array Edge} {g : Option (Nat × Bool)}
theorem mX (pre m1 m2 M0 : List bP) (r : bP) : (pre ++ ((m1 ++ r :: m2) ++ M0)).Perm (r :: (pre ++ ((m1 ++ m2) ++ M0))) := by
 have h1 : (pre ++ ((m1 ++ r :: m2) ++ M0)) = (pre ++ m1) ++ r :: (m2 ++ M0) := by simp
 have h2 : (r :: (pre ++ ((m1 ++ m2) ++ M0))) = r :: ((pre ++ m1) ++ (m2 ++ M0)) := by simp
 rw [h1, h2]
 exact List.perm_middle
theorem Mx.get {α : Type} [aF α] {T1 T2 : TypeId} {v : Value} {hs : List Value} {mx : List bP} {sg : List Nat} {ls : List (List α)} (h : Mx T1 T2 H v hs mx sg ls) {k : Nat} {w : Value} (hw : hs[k]? = some w) :
  ∃ xs : List Value, bP.row w T2 (aF.sz α) ((ls[k]?).getD []).length xs ∈ mx ∧ Rw H w xs ((ls[k]?).getD []) := by
 obtain ⟨xs, m1, m2, _, he, hr, _⟩ := h.row hw
 exact ⟨xs, by rw [he]; exact Gf _ (E4 ..), hr⟩
theorem nc {α : Type} [aF α] {T1 T2 T : TypeId} {m : Nat} {y z : Operand} {v u w : Value} {ad : Addr} {hs cs : List Value} {pre mx : List bP} {sg : List Nat} {ls : List (List α)} {k j : Nat} {e2 : α}
  (h : Mx T1 T2 H v hs mx sg ls) (hx : hs[k]? = some w) (hj : j < ((ls[k]?).getD []).length) (hE : aF.E H cs e2)
  (hg : gd ops L ⟨none, .store T y z, ty, pos, aft, g⟩ = some true) (hn : ∀ w, (sizeOf T).run x.P w = .ok m w) (hm : m = aF.sz α) (h0 : Nat.blt 0 (aF.sz α) = true)
  (hy : ev L y = some (.pointer (some ad))) (had : ad = (Value.base w).add (j * aF.sz α)) (hz : ev L z = some u) (hv : u.cells = cs.toArray)
  (kk : ∀ mx', Mx T1 T2 H v hs mx' sg (ls.set k (((ls[k]?).getD []).set j e2)) → W x ops Q rest H (pre ++ (mx' ++ M)) L) :
  W x ops Q (⟨none, .store T y z, ty, pos, aft, g⟩ :: rest) H (pre ++ (mx ++ M)) L := by
 obtain ⟨xs, m1, m2, hk, rfl, hr, hup⟩ := h.row hx
 have hcl := aF.len hE
 have hs' : 0 < aF.sz α := by simpa [Gw] using h0
 have he := EZ hj
 obtain ⟨c, hc, hgc⟩ := hr.elem he
 have hccl := aF.len hc
 have ho : over c 0 cs = cs := by
  rw [qV cs c 0 (by omega), Ju, He, List.drop_eq_nil_of_le (by omega), FY]
 obtain ⟨p1, _, _⟩ := Rw.put (k := j) (o := 0) (e2 := e2) hr he hc hgc (by simp [H7]; omega) ho hE
 have hroom : j * aF.sz α + cs.length ≤ xs.length := by
  have hlen := hr.rd.len
  have : (j + 1) * aF.sz α ≤ ((ls[k]?).getD []).length * aF.sz α := Fq _ hj
  rw [FC, Jd] at this
  omega
 refine a_ (mX pre m1 m2 M _) ?_
 refine qv (i := j * aF.sz α) (cs := cs) hg hn hy had hz hv (by omega) hroom (by simp [Gw]; omega) (aF.one hE) ?_
 have h2 := hup H _ _ (EX _) p1
 rw [Fj, GY] at h2
 refine a_ (mX pre m1 m2 M _).symm ?_
 exact kk _ h2
theorem ye {α : Type} [aF α] {T1 T2 T : TypeId} {y z : Operand} {v w : Value} {ad : Addr} {hs : List Value} {pre mx : List bP} {sg : List Nat} {ls : List (List α)} {i k : Nat}
  (h : Mx T1 T2 H v hs mx sg ls) (hi : i < sg.length) (hx : hs[k]? = some w)
  (hg : gd ops L ⟨none, .store T y z, ty, pos, aft, g⟩ = some true) (hn : ∀ w, (sizeOf T).run x.P w = .ok 1 w)
  (hy : ev L y = some (.pointer (some ad))) (had : ad = (Value.base v).add (i * 1)) (hz : ev L z = some w)
  (kk : ∀ mx', Mx T1 T2 H v hs mx' (sg.set i k) ls → W x ops Q rest H (pre ++ (mx' ++ M)) L) :
  W x ops Q (⟨none, .store T y z, ty, pos, aft, g⟩ :: rest) H (pre ++ (mx ++ M)) L := by
 obtain ⟨_, _, _, _, _, hr, _⟩ := h.row hx
 obtain ⟨oxs, m2, rfl, hl, _, hput, _⟩ := h.outer
 refine a_ (mX pre [] m2 M _) ?_
 refine qv (i := i * 1) (cs := [w]) hg hn hy had hz hr.cells rfl (by simp; omega) rfl (fun c hc => by simp at hc; subst hc; exact hr.one) ?_
 have h2 := hput i k w hi hx
 rw [Fj] at h2
 have e : over oxs (i * 1) [w] = oxs.set i w := by rw [HN]; rfl
 rw [e]
 refine a_ (mX pre [] m2 M _).symm ?_
 exact kk _ h2
theorem uP {α : Type} [aF α] {T1 T2 T : TypeId} {y z : Operand} {v w : Value} {ad : Addr} {hs xs : List Value} {pre mx : List bP} {sg : List Nat} {ls : List (List α)} {l : List α} {i : Nat}
  (h : Mx T1 T2 H v hs mx sg ls) (hi : i < sg.length) (hr : Rw H w xs l)
  (hg : gd ops L ⟨none, .store T y z, ty, pos, aft, g⟩ = some true) (hn : ∀ w, (sizeOf T).run x.P w = .ok 1 w)
  (hy : ev L y = some (.pointer (some ad))) (had : ad = (Value.base v).add (i * 1)) (hz : ev L z = some w)
  (kk : ∀ mx', Mx T1 T2 H v (hs ++ [w]) mx' (sg.set i ls.length) (ls ++ [l]) → W x ops Q rest H (pre ++ (mx' ++ M)) L) :
  W x ops Q (⟨none, .store T y z, ty, pos, aft, g⟩ :: rest) H (.row w T2 (aF.sz α) l.length xs :: (pre ++ (mx ++ M))) L := by
 obtain ⟨oxs, m2, rfl, hl, _, _, hadd⟩ := h.outer
 have p1 : (bP.row w T2 (aF.sz α) l.length xs :: (pre ++ ((.row v T1 1 sg.length oxs :: m2) ++ M))).Perm (.row v T1 1 sg.length oxs :: (.row w T2 (aF.sz α) l.length xs :: (pre ++ (m2 ++ M)))) :=
  ((mX pre [] m2 M _).cons _).trans (List.Perm.swap _ _ _)
 refine a_ p1 ?_
 refine qv (i := i * 1) (cs := [w]) hg hn hy had hz hr.cells rfl (by simp; omega) rfl (fun c hc => by simp at hc; subst hc; exact hr.one) ?_
 have h2 := hadd i w xs l hi hr
 rw [Fj] at h2
 have e : over oxs (i * 1) [w] = oxs.set i w := by rw [HN]; rfl
 rw [e]
 have p2 : (bP.row v T1 1 sg.length (oxs.set i w) :: (.row w T2 (aF.sz α) l.length xs :: (pre ++ (m2 ++ M)))).Perm (pre ++ ((.row v T1 1 sg.length (oxs.set i w) :: (m2 ++ [.row w T2 (aF.sz α) l.length xs])) ++ M)) := by
  refine (mX pre [] (m2 ++ [.row w T2 (aF.sz α) l.length xs]) M _).trans ?_ |>.symm
  refine List.Perm.cons _ ?_
  have := mX pre m2 [] M (.row w T2 (aF.sz α) l.length xs)
  simpa using this
 refine a_ p2 ?_
 exact kk _ h2
def nY (sz n : Nat) : Value → Value
 | .slice (some ⟨b, off, sp⟩) len cap => .slice (some ⟨b, if cap = n then off else off + n * sz, sp⟩) (len - n) (cap - n)
 | y => y
theorem fO.sub {w : World} {T : TypeId} {sz n m : Nat} {v : Value} {xs : List Value} (h : fO w T sz v n xs) (hm : m ≤ n) : fO w T sz (nY sz m v) (n - m) (xs.drop (m * sz)) := by
 obtain ⟨hl, hh⟩ := h
 refine ⟨by rw [GU, hl, Nat.sub_mul], ?_⟩
 rcases hh with ⟨rfl, h0⟩ | ⟨gb, off, cap, cur, rfl, hg, hnc, hcm, hcs, htake⟩
 ·exact .inl ⟨rfl, by omega⟩
 ·have h1 : m * sz + (cap - m) * sz = cap * sz := by rw [← FC, Nat.add_sub_cancel' (by omega)]
  have h2 : m * sz + (n - m) * sz = n * sz := by rw [← FC, Nat.add_sub_cancel' hm]
  by_cases hc : cap = m
  ·have hnm : n = m := by omega
   refine .inr ⟨gb, off, cap - m, cur, by show Value.slice (some ⟨gb, if cap = m then off else off + m * sz, none⟩) _ _ = _; rw [E_ hc], hg, by omega, by omega, by omega, ?_⟩
   rw [← htake, HV, hnm, GC, GC, GZ, Ju, Ju]
  ·refine .inr ⟨gb, off + m * sz, cap - m, cur, by show Value.slice (some ⟨gb, if cap = m then off else off + m * sz, none⟩) _ _ = _; rw [E6 hc], hg, by omega, by omega, by omega, ?_⟩
   rw [← htake, HV, HU]
   congr 1
   omega
theorem zD {sz m : Nat} (v : Value) : (nY sz m v).ownBlock = v.ownBlock := by
 unfold nY
 split
 ·rename_i b off sp len cap
  cases sp <;> rfl
 ·rfl
theorem St.same {B : Nat} {w0 w : World} {r r' : bP} (h : St B w0 H (r :: M) w) (hok : r'.ok w) (hf : r'.oT = r.oT) : St B w0 H (r' :: M) w := by
 refine ⟨h.below, h.le, h.q7, fun s hs => ?_, fun s hs b hb => ?_, ?_⟩
 ·rcases F8.1 hs with rfl | hs
  ·exact hok
  ·exact h.ok s (Fc _ hs)
 ·rcases F8.1 hs with rfl | hs
  ·exact h.lo r (E4 ..) b (by rw [← hf]; exact hb)
  ·exact h.lo s (Fc _ hs) b hb
 ·have := h.nd
  simp only [Hr, hf] at this ⊢
  exact this
theorem Rw.sub {α : Type} [aF α] {v : Value} {xs : List Value} {l : List α} (h : Rw H v xs l) {m : Nat} (hm : m ≤ l.length) : Rw H (nY (aF.sz α) m v) (xs.drop (m * aF.sz α)) (l.drop m) := by
 refine ⟨?_, ?_⟩
 ·have key : ∀ (m : Nat) (xs : List Value) (l : List α), lQ H xs l → m ≤ l.length → lQ H (xs.drop (m * aF.sz α)) (l.drop m) := by
   intro m
   induction m with
   | zero => intro xs l h _; simpa using h
   | succ m ih =>
    intro xs l h hm
    cases l with
    | nil => simp at hm
    | cons e l =>
     obtain ⟨c, r, rfl, he, hr⟩ := h
     have hc := aF.len he
     rw [JQ, FC, Jd, HM, ← HU, ← hc, List.drop_left, hc]
     exact ih r l hr (by simpa using hm)
  exact key m xs l h.rd hm
 ·obtain ⟨a, n, c, rfl⟩ := h.sl
  cases a with
  | none => exact ⟨_, _, _, rfl⟩
  | some ad => obtain ⟨b, off, sp⟩ := ad; exact ⟨_, _, _, rfl⟩
theorem BK {α : Type} [aF α] {T1 T2 T : TypeId} {y z : Operand} {v w : Value} {ad : Addr} {hs : List Value} {pre mx : List bP} {sg : List Nat} {ls : List (List α)} {i k n : Nat}
  (h : Mx T1 T2 H v hs mx sg ls) (hi : i < sg.length) (hx : hs[k]? = some w) (hn' : n ≤ ((ls[k]?).getD []).length) (hone : ∀ j : Nat, sg[j]? = some k → j = i)
  (hg : gd ops L ⟨none, .store T y z, ty, pos, aft, g⟩ = some true) (hn : ∀ w, (sizeOf T).run x.P w = .ok 1 w)
  (hy : ev L y = some (.pointer (some ad))) (had : ad = (Value.base v).add (i * 1)) (hz : ev L z = some (nY (aF.sz α) n w))
  (kk : ∀ mx', Mx T1 T2 H v (hs.set k (nY (aF.sz α) n w)) mx' (sg.set i k) (ls.set k (((ls[k]?).getD []).drop n)) → W x ops Q rest H (pre ++ (mx' ++ M)) L) :
  W x ops Q (⟨none, .store T y z, ty, pos, aft, g⟩ :: rest) H (pre ++ (mx ++ M)) L := by
 obtain ⟨oxs, ws, rfl, h2, h2', h3, h4, h5⟩ := h.ex
 obtain ⟨u, hu, rfl⟩ := xy h2' hx
 have hkw : k < ws.length := (ET.1 hu).1
 have hk : k < ls.length := by omega
 have hl := EZ hk
 have hwe : ws[k] = u := by rw [EZ hkw] at hu; exact EV hu
 have hgd : (ls[k]?).getD [] = ls[k] := by rw [hl]; rfl
 rw [hgd] at hn' kk
 have hr := h3 k u _ hu hl
 have hrs := hr.sub hn'
 have hsp : ∀ (ws : List (Value × List Value)) (ls : List (List α)) (h1 : k < ws.length) (h2 : k < ls.length), rowsOf T2 (aF.sz α) ws ls = rowsOf T2 (aF.sz α) (ws.take k) (ls.take k) ++ .row ws[k].1 T2 (aF.sz α) ls[k].length ws[k].2 :: rowsOf T2 (aF.sz α) (ws.drop (k + 1)) (ls.drop (k + 1)) := fun ws ls h1 h2 => by
  have e1 : ws = ws.take k ++ ws[k] :: ws.drop (k + 1) := by rw [← GJ h1, GN]
  have e2 : ls = ls.take k ++ ls[k] :: ls.drop (k + 1) := by rw [← GJ h2, GN]
  have e3 : rowsOf T2 (aF.sz α) ws ls = rowsOf T2 (aF.sz α) (ws.take k ++ ws[k] :: ws.drop (k + 1)) (ls.take k ++ ls[k] :: ls.drop (k + 1)) := by rw [← e1, ← e2]
  rw [e3]
  unfold rowsOf
  rw [IH (by simp; omega)]
  rfl
 generalize hA : rowsOf T2 (aF.sz α) (ws.take k) (ls.take k) = A at hsp
 generalize hB : rowsOf T2 (aF.sz α) (ws.drop (k + 1)) (ls.drop (k + 1)) = Bq at hsp
 have hrows : rowsOf T2 (aF.sz α) ws ls = A ++ .row u.1 T2 (aF.sz α) ls[k].length u.2 :: Bq := by
  rw [← hA, ← hB]
  have e1 : ws = ws.take k ++ ws[k] :: ws.drop (k + 1) := by rw [← GJ hkw, GN]
  have e2 : ls = ls.take k ++ ls[k] :: ls.drop (k + 1) := by rw [← GJ hk, GN]
  have e3 : rowsOf T2 (aF.sz α) ws ls = rowsOf T2 (aF.sz α) (ws.take k ++ ws[k] :: ws.drop (k + 1)) (ls.take k ++ ls[k] :: ls.drop (k + 1)) := by rw [← e1, ← e2]
  rw [e3]
  unfold rowsOf
  rw [IH (by simp; omega), ← hwe]
  rfl
 have hrows2 : rowsOf T2 (aF.sz α) (ws.set k (nY (aF.sz α) n u.1, u.2.drop (n * aF.sz α))) (ls.set k (ls[k].drop n)) = A ++ .row (nY (aF.sz α) n u.1) T2 (aF.sz α) (ls[k].drop n).length (u.2.drop (n * aF.sz α)) :: Bq := by
  rw [← hA, ← hB]
  have e1 : ws.set k (nY (aF.sz α) n u.1, u.2.drop (n * aF.sz α)) = ws.take k ++ (nY (aF.sz α) n u.1, u.2.drop (n * aF.sz α)) :: ws.drop (k + 1) := by rw [IB, E_ hkw]
  have e2 : ls.set k (ls[k].drop n) = ls.take k ++ ls[k].drop n :: ls.drop (k + 1) := by rw [IB, E_ hk]
  rw [e1, e2]
  unfold rowsOf
  rw [IH (by simp; omega)]
  rfl
 have hnew : Mx T1 T2 H v (hs.set k (nY (aF.sz α) n u.1)) (.row v T1 1 (sg.set i k).length (oxs.set i (nY (aF.sz α) n u.1)) :: rowsOf T2 (aF.sz α) (ws.set k (nY (aF.sz α) n u.1, u.2.drop (n * aF.sz α))) (ls.set k (ls[k].drop n))) (sg.set i k) (ls.set k (ls[k].drop n)) := by
  refine ⟨⟨_, _, rfl, by simp [h2], by rw [List.map_set, h2'], fun j u' l' hu' hl' => ?_, by simp [h4], fun i' k' hk' => ?_⟩, h.sl⟩
  ·by_cases e : k = j
   ·subst e
    rw [FD hkw] at hu'
    rw [FD hk] at hl'
    obtain rfl := EV hu'
    obtain rfl := EV hl'
    exact hrs
   ·rw [Fz e] at hu' hl'
    exact h3 j u' l' hu' hl'
  ·by_cases e : i = i'
   ·subst e
    rw [FD hi] at hk'
    obtain rfl := EV hk'
    exact ⟨_, by rw [FD hkw], by rw [FD (by omega)]⟩
   ·rw [Fz e] at hk'
    obtain ⟨u', hu', hx'⟩ := h5 i' k' hk'
    have hne : k ≠ k' := fun e2 => by subst e2; exact e (hone i' hk').symm
    exact ⟨u', by rw [Fz hne]; exact hu', by rw [Fz e]; exact hx'⟩
 refine a_ (mX pre [] (rowsOf T2 (aF.sz α) ws ls) M _) ?_
 refine qv (i := i * 1) (cs := [nY (aF.sz α) n u.1]) hg hn hy had hz hrs.cells rfl (by simp; omega) rfl (fun c hc => by simp at hc; subst hc; exact hrs.one) ?_
 have e : over oxs (i * 1) [nY (aF.sz α) n u.1] = oxs.set i (nY (aF.sz α) n u.1) := by rw [HN]; rfl
 rw [e]
 refine a_ (mX pre [] (rowsOf T2 (aF.sz α) ws ls) M _).symm ?_
 rw [He, hrows]
 have p1 : (pre ++ ((.row v T1 1 sg.length (oxs.set i (nY (aF.sz α) n u.1)) :: (A ++ .row u.1 T2 (aF.sz α) ls[k].length u.2 :: Bq)) ++ M)).Perm (.row u.1 T2 (aF.sz α) ls[k].length u.2 :: (pre ++ (((.row v T1 1 sg.length (oxs.set i (nY (aF.sz α) n u.1)) :: A) ++ Bq) ++ M))) :=
  mX pre (.row v T1 1 sg.length (oxs.set i (nY (aF.sz α) n u.1)) :: A) Bq M _
 refine a_ p1 ?_
 intro a w0' hsl ht
 have hok := ht.ok _ (E4 ..)
 have hs2 : St x.B x.w0 H (.row (nY (aF.sz α) n u.1) T2 (aF.sz α) (ls[k].drop n).length (u.2.drop (n * aF.sz α)) :: (pre ++ (((.row v T1 1 sg.length (oxs.set i (nY (aF.sz α) n u.1)) :: A) ++ Bq) ++ M))) w0' := by
  refine ht.same ?_ (zD u.1)
  have h1 : fO w0' T2 (aF.sz α) u.1 ls[k].length u.2 := hok
  have := h1.sub hn'
  rw [← GU] at this
  exact this
 have p2 := (mX pre (.row v T1 1 sg.length (oxs.set i (nY (aF.sz α) n u.1)) :: A) Bq M (.row (nY (aF.sz α) n u.1) T2 (aF.sz α) (ls[k].drop n).length (u.2.drop (n * aF.sz α)))).symm
 refine kk _ hnew a w0' hsl ?_
 rw [hrows2, Fj]
 exact hs2.perm p2
theorem zX {α : Type} [aF α] {T2 t e : TypeId} {y lo : Operand} {w : Value} {xs : List Value} {l : List α} {n : Nat} {kk : IntKind}
  (hm : bP.row w T2 (aF.sz α) l.length xs ∈ M) (hn : n ≤ l.length)
  (hg : gd ops L ⟨some d, .slice t y (some lo) none none, ty, pos, aft, g⟩ = some true) (hN : Nat.blt d x.N = true)
  (hT : ∀ w, (underlying t).run x.P w = .ok (.slice e) w) (hs : ∀ w, (sizeOf e).run x.P w = .ok (aF.sz α) w) (hy : ev L y = some w) (hlo : ev L lo = some (.int kk (n : Int)))
  (k : W x ops Q rest H M ((d, nY (aF.sz α) n w) :: L)) :
  W x ops Q (⟨some d, .slice t y (some lo) none none, ty, pos, aft, g⟩ :: rest) H M L := by
 intro a w0' hsl ht
 have hok : fO w0' T2 (aF.sz α) w l.length xs := ht.ok _ hm
 rcases hok.2 with ⟨rfl, h0⟩ | ⟨gb, off, cap, cur, rfl, _, hnc, _⟩
 ·obtain rfl : n = 0 := by omega
  exact pD (m := 0) (h := 0) (l := 0) hg hN hT hs hy (.inl rfl) (.inl ⟨rfl, rfl⟩) (.inl ⟨rfl, rfl⟩) (.inr ⟨lo, kk, _, rfl, hlo, H4 _, H4 _, rfl⟩) rfl k a w0' hsl ht
 ·refine pD (m := cap) (h := l.length) (l := n) hg hN hT hs hy (.inl rfl) (.inl ⟨rfl, rfl⟩) (.inl ⟨rfl, rfl⟩) (.inr ⟨lo, kk, _, rfl, hlo, by omega, by omega, by omega⟩) ?_ k a w0' hsl ht
  show _ = Value.slice (some ⟨gb, if cap = n then off else off + n * aF.sz α, none⟩) (l.length - n) (cap - n)
  by_cases hc : cap = n
  ·rw [E_ hc, E_ hc]
  ·rw [E6 hc, E6 hc]
   rw [G1, Ge]
end
theorem vm (pre os mx M : List bP) : (pre ++ (mx ++ (os ++ M))).Perm (pre ++ (os ++ (mx ++ M))) :=
 List.Perm.append_left pre (List.perm_append_comm_assoc mx os M)
theorem tV (pre mx M : List bP) : (pre ++ (mx ++ M)).Perm (mx ++ (pre ++ M)) := List.perm_append_comm_assoc pre mx M
def lone (sg : List Nat) (i k : Nat) : Bool := (List.range sg.length).all fun j => sg[j]? != some k || j == i
theorem zp {sg : List Nat} {i k : Nat} (h : lone sg i k = true) (j : Nat) (hj : sg[j]? = some k) : j = i := by
 unfold lone at h
 rw [Gq] at h
 have hl := (ET.1 hj).1
 have := h j (by simpa using hl)
 rw [hj] at this
 simpa using this
theorem Ce {sg : List Nat} {i k : Nat} (h : ∀ j, sg[j]? = some k → j = i) : lone sg i k = true := by
 unfold lone
 rw [Gq]
 intro j hj
 by_cases e : sg[j]? = some k
 ·simp [h j e]
 ·simp [e]
section
variable {x : Cx} {ops : Array Oper} {Q : jL} {rest : List Oper} {H : Hp} {M : List bP} {L : Env} {d : Nat} {ty : TypeId} {pos : String} {aft : Array Edge} {g : Option (Nat × Bool)}
variable {α : Type} [aF α] {T1 T2 : TypeId} {v : Value} {hs : List Value} {mx : List bP} {sg : List Nat} {ls : List (List α)}
theorem qQ {t e : TypeId} {y : Operand} (h : Mx T1 T2 H v hs mx sg ls) (hsub : ∀ s ∈ mx, s ∈ M) (hg : gd ops L ⟨some d, .call ⟨.builtin .len, #[y], #[t]⟩, ty, pos, aft, g⟩ = some true) (hN : Nat.blt d x.N = true)
  (hT : ∀ w, (underlying t).run x.P w = .ok (.slice e) w) (hy : ev L y = some v) (k : W x ops Q rest H M ((d, .int .i64 (sg.length : Int)) :: L)) :
  W x ops Q (⟨some d, .call ⟨.builtin .len, #[y], #[t]⟩, ty, pos, aft, g⟩ :: rest) H M L := by
 obtain ⟨oxs, m2, he, _⟩ := h.outer
 exact k9 (hsub _ (by rw [he]; exact E4 ..)) hg hN hT hy k
theorem cQ {t e : TypeId} {y z : Operand} {kk : IntKind} {i : Int} {p : Nat} (h : Mx T1 T2 H v hs mx sg ls) (hsub : ∀ s ∈ mx, s ∈ M)
  (hg : gd ops L ⟨some d, .indexAddr t y z, ty, pos, aft, g⟩ = some true) (hN : Nat.blt d x.N = true)
  (hT : ∀ w, (underlying t).run x.P w = .ok (.slice e) w) (hsz : ∀ w, (sizeOf e).run x.P w = .ok 1 w)
  (hy : ev L y = some v) (hz : ev L z = some (.int kk i)) (h0 : 0 ≤ i) (h1 : sg[i.toNat]? = some p)
  (k : W x ops Q rest H M ((d, .pointer (some ((Value.base v).add (i.toNat * 1)))) :: L)) :
  W x ops Q (⟨some d, .indexAddr t y z, ty, pos, aft, g⟩ :: rest) H M L := by
 obtain ⟨oxs, m2, he, _⟩ := h.outer
 exact bC (hsub _ (by rw [he]; exact E4 ..)) hg hN hT hsz hy hz h0 (ET.1 h1).1 k
theorem eH {T : TypeId} {y : Operand} {ad : Addr} {i p : Nat} (h : Mx T1 T2 H v hs mx sg ls) (hsub : ∀ s ∈ mx, s ∈ M) (h1 : sg[i]? = some p)
  (hg : gd ops L ⟨some d, .load T y, ty, pos, aft, g⟩ = some true) (hN : Nat.blt d x.N = true)
  (hT : ∀ w, (isAgg T).run x.P w = .ok false w) (hy : ev L y = some (.pointer (some ad))) (had : ad = (Value.base v).add (i * 1))
  (k : ∀ w, hs[p]? = some w → W x ops Q rest H M ((d, w) :: L)) : W x ops Q (⟨some d, .load T y, ty, pos, aft, g⟩ :: rest) H M L := by
 obtain ⟨oxs, m2, he, _, hget, _⟩ := h.outer
 obtain ⟨w, hw, hx⟩ := hget i p h1
 subst had
 refine aI hg hN hT hy (ud (hsub _ (by rw [he]; exact E4 ..)) ?_) (k w hw)
 rw [HN]; exact hx
theorem yd {t e : TypeId} {y : Operand} {w : Value} {p : Nat} (h : Mx T1 T2 H v hs mx sg ls) (hsub : ∀ s ∈ mx, s ∈ M) (hw : hs[p]? = some w) (hg : gd ops L ⟨some d, .call ⟨.builtin .len, #[y], #[t]⟩, ty, pos, aft, g⟩ = some true) (hN : Nat.blt d x.N = true)
  (hT : ∀ w, (underlying t).run x.P w = .ok (.slice e) w) (hy : ev L y = some w) (k : W x ops Q rest H M ((d, .int .i64 (((ls[p]?).getD []).length : Int)) :: L)) :
  W x ops Q (⟨some d, .call ⟨.builtin .len, #[y], #[t]⟩, ty, pos, aft, g⟩ :: rest) H M L := by
 obtain ⟨xs, hm, _⟩ := h.get hw
 exact k9 (hsub _ hm) hg hN hT hy k
theorem fB {t e : TypeId} {y z : Operand} {kk : IntKind} {j : Int} {w : Value} {p n : Nat} {a : α} (h : Mx T1 T2 H v hs mx sg ls) (hsub : ∀ s ∈ mx, s ∈ M) (hw : hs[p]? = some w)
  (hg : gd ops L ⟨some d, .indexAddr t y z, ty, pos, aft, g⟩ = some true) (hN : Nat.blt d x.N = true)
  (hT : ∀ w, (underlying t).run x.P w = .ok (.slice e) w) (hsz : ∀ w, (sizeOf e).run x.P w = .ok n w) (hn : n = aF.sz α)
  (hy : ev L y = some w) (hz : ev L z = some (.int kk j)) (h0 : 0 ≤ j) (h1 : ((ls[p]?).getD [])[j.toNat]? = some a)
  (k : W x ops Q rest H M ((d, .pointer (some ((Value.base w).add (j.toNat * aF.sz α)))) :: L)) :
  W x ops Q (⟨some d, .indexAddr t y z, ty, pos, aft, g⟩ :: rest) H M L := by
 subst hn
 obtain ⟨xs, hm, _⟩ := h.get hw
 exact bC (hsub _ hm) hg hN hT hsz hy hz h0 (ET.1 h1).1 k
theorem kX {T : TypeId} {y : Operand} {ad : Addr} {w : Value} {p j n : Nat} {a : α} (h : Mx T1 T2 H v hs mx sg ls) (hsub : ∀ s ∈ mx, s ∈ M) (hw : hs[p]? = some w) (h1 : ((ls[p]?).getD [])[j]? = some a)
  (hg : gd ops L ⟨some d, .load T y, ty, pos, aft, g⟩ = some true) (hN : Nat.blt d x.N = true)
  (hT : ∀ w, (isAgg T).run x.P w = .ok true w) (hn : ∀ w, (sizeOf T).run x.P w = .ok n w) (hn' : n = aF.sz α) (hy : ev L y = some (.pointer (some ad))) (had : ad = (Value.base w).add (j * aF.sz α))
  (k : ∀ cs, aF.E H cs a → W x ops Q rest H M ((d, .agg cs.toArray) :: L)) : W x ops Q (⟨some d, .load T y, ty, pos, aft, g⟩ :: rest) H M L := by
 subst hn'
 subst had
 obtain ⟨xs, hm, hr⟩ := h.get hw
 obtain ⟨c, hE, hc⟩ := hr.elem h1
 exact aR hg hN hT hn hy (qW (hsub _ hm) hc) (aF.len hE) (k c hE)
theorem zW {t e : TypeId} {y lo : Operand} {w : Value} {p n : Nat} {j : Int} {kk : IntKind} (h : Mx T1 T2 H v hs mx sg ls) (hsub : ∀ s ∈ mx, s ∈ M) (hw : hs[p]? = some w) (h0 : 0 ≤ j) (h1 : j ≤ (((ls[p]?).getD []).length : Int))
  (hg : gd ops L ⟨some d, .slice t y (some lo) none none, ty, pos, aft, g⟩ = some true) (hN : Nat.blt d x.N = true)
  (hT : ∀ w, (underlying t).run x.P w = .ok (.slice e) w) (hsz : ∀ w, (sizeOf e).run x.P w = .ok n w) (hn : n = aF.sz α) (hy : ev L y = some w) (hlo : ev L lo = some (.int kk j))
  (k : W x ops Q rest H M ((d, nY (aF.sz α) j.toNat w) :: L)) :
  W x ops Q (⟨some d, .slice t y (some lo) none none, ty, pos, aft, g⟩ :: rest) H M L := by
 subst hn
 obtain ⟨xs, hm, hr⟩ := h.get hw
 exact zX (l := (ls[p]?).getD []) (n := j.toNat) (hsub _ hm) (by omega) hg hN hT hsz hy (by rw [hlo, IF h0]) k
theorem sJ {pre : List bP} (h : Mx T1 T2 H v hs mx sg ls) (h0 : Nat.blt 0 (aF.sz α) = true)
  (k : ∀ H', H.le H' → aL H' v (lY sg ls) → W x ops Q rest H' (pre ++ M) L) : W x ops Q rest H (pre ++ (mx ++ M)) L :=
 a_ (tV pre mx M) (xb h h0 k)
theorem sG {e : Exit} {pre : List bP} (h : Mx T1 T2 H v hs mx sg ls) (h0 : Nat.blt 0 (aF.sz α) = true)
  (k : ∀ H', H.le H' → aL H' v (lY sg ls) → E x e Q H' (pre ++ M) L) : E x e Q H (pre ++ (mx ++ M)) L := by
 refine ti (tV pre mx M) ?_
 intro a w hsl ht
 obtain ⟨H', h1, h2, h3⟩ := St.wm ht h (by simpa [Gw] using h0)
 exact k H' h1 h3 a w hsl h2
theorem tr {t e : TypeId} {bytes : Nat} {y y2 : Operand} {n : Int} {pre : List bP} (T2 : TypeId) (α : Type) [aF α]
  (hg : gd ops L ⟨some d, .makeSlice t y y2, ty, pos, aft, g⟩ = some true) (hN : Nat.blt d x.N = true)
  (hT : x.P.underlying t = some (.slice e)) (hi : DF x.P e 1 bytes (.slice none 0 0)) (hb0 : Nat.blt 0 bytes = true)
  (hy : ev L y = some (.int .i64 n)) (hy2 : ev L y2 = some (.int .i64 n)) (h0 : 0 ≤ n) (hb : n * bytes ≤ 140737488355328)
  (k : ∀ v' mx', Mx e T2 H v' [.slice none 0 0] mx' (List.replicate n.toNat 0) ([[]] : List (List α)) → W x ops Q rest H (pre ++ (mx' ++ M)) ((d, v') :: L)) :
  W x ops Q (⟨some d, .makeSlice t y y2, ty, pos, aft, g⟩ :: rest) H (pre ++ M) L := by
 refine eE (α := yW) (zs := [.slice none 0 0]) (ze := yW.mk) hg hN hT hi rfl rfl hb0 rfl hy hy2 h0 hb ?_
 intro v' xs' hr
 refine tt T2 (aF.sz α) ?_
 have hm := Mx.make (α := α) (T1 := e) (T2 := T2) hr
 refine a_ (M' := pre ++ ((.row v' e 1 (List.replicate n.toNat 0).length xs' :: [.row (.slice none 0 0) T2 (aF.sz α) 0 []]) ++ M)) ?_ (k v' _ hm)
 have e1 : (List.replicate n.toNat yW.mk).length = (List.replicate n.toNat 0).length := by simp
 rw [e1]
 refine (List.Perm.swap _ _ _).trans ?_
 exact (tV pre [.row v' e 1 (List.replicate n.toNat 0).length xs', .row (.slice none 0 0) T2 (aF.sz α) 0 []] M).symm
end
def DY : List Int := [1, 10, 100, 1000, 10000, 100000, 1000000, 10000000, 100000000, 1000000000, 10000000000, 100000000000, 1000000000000, 10000000000000, 100000000000000, 1000000000000000, 10000000000000000, 100000000000000000, 1000000000000000000, 10000000000000000000]
def Eh : List Int := [0, 1, 28, 2, 29, 14, 24, 3, 30, 22, 20, 15, 25, 17, 4, 8, 31, 27, 13, 23, 21, 19, 16, 7, 26, 12, 18, 6, 11, 5, 10, 9]
def Ei : List Int := [0, 1, 56, 2, 57, 49, 28, 3, 61, 58, 42, 50, 38, 29, 17, 4, 62, 47, 59, 36, 45, 43, 51, 22, 53, 39, 33, 30, 24, 18, 12, 5, 63, 55, 48, 27, 60, 41, 37, 16, 46, 35, 44, 21, 52, 32, 23, 11, 54, 26, 40, 15, 34, 20, 31, 10, 25, 14, 19, 9, 13, 8, 7, 6]
structure dE where
 Name : ByteArray
 A : ByteArray
 B_ : ByteArray
 qP : Bool
 Open : Bool
 deriving DecidableEq
instance : aF dE where
 sz := 5
 E H cs x := cs = [.string (x.Name), .string (x.A), .string (x.B_), .bool (x.qP), .bool (x.Open)]
 len h := by obtain rfl := h; rfl
 mono hle h := by obtain rfl := h; exact rfl
 one h := by obtain rfl := h; exact (EU rfl (EU rfl (EU rfl (EU rfl (EU rfl E8)))))
instance : Flat dE := ⟨fun h => h⟩
structure cA where
 Name : ByteArray
 gY : ByteArray
 To : ByteArray
 X : Int
 qn : Int
 Shift : Int
 ky : Int
 lO : Int
 pg : Int
 deriving DecidableEq
instance : aF cA where
 sz := 9
 E H cs x := cs = [.string (x.Name), .string (x.gY), .string (x.To), .int .i64 (x.X), .int .i64 (x.qn), .int .i64 (x.Shift), .int .i64 (x.ky), .int .i64 (x.lO), .int .i64 (x.pg)]
 len h := by obtain rfl := h; rfl
 mono hle h := by obtain rfl := h; exact rfl
 one h := by obtain rfl := h; exact (EU rfl (EU rfl (EU rfl (EU rfl (EU rfl (EU rfl (EU rfl (EU rfl (EU rfl E8)))))))))
instance : Flat cA := ⟨fun h => h⟩
structure dB where
 Name : ByteArray
 Node : ByteArray
 cH : Int
 eN : Int
 rM : Int
 deriving DecidableEq
instance : aF dB where
 sz := 5
 E H cs x := cs = [.string (x.Name), .string (x.Node), .int .i64 (x.cH), .int .i64 (x.eN), .int .i64 (x.rM)]
 len h := by obtain rfl := h; rfl
 mono hle h := by obtain rfl := h; exact rfl
 one h := by obtain rfl := h; exact (EU rfl (EU rfl (EU rfl (EU rfl (EU rfl E8)))))
instance : Flat dB := ⟨fun h => h⟩
structure cB where
 Name : ByteArray
 Node : ByteArray
 bI : Int
 deriving DecidableEq
instance : aF cB where
 sz := 3
 E H cs x := cs = [.string (x.Name), .string (x.Node), .int .i64 (x.bI)]
 len h := by obtain rfl := h; rfl
 mono hle h := by obtain rfl := h; exact rfl
 one h := by obtain rfl := h; exact (EU rfl (EU rfl (EU rfl E8)))
instance : Flat cB := ⟨fun h => h⟩
structure fG where
 Name : ByteArray
 Node : ByteArray
 kr : Int
 Discharge : Int
 l8 : Int
 deriving DecidableEq
instance : aF fG where
 sz := 5
 E H cs x := cs = [.string (x.Name), .string (x.Node), .int .i64 (x.kr), .int .i64 (x.Discharge), .int .i64 (x.l8)]
 len h := by obtain rfl := h; rfl
 mono hle h := by obtain rfl := h; exact rfl
 one h := by obtain rfl := h; exact (EU rfl (EU rfl (EU rfl (EU rfl (EU rfl E8)))))
instance : Flat fG := ⟨fun h => h⟩
structure aJ where
 bJ : (List ByteArray)
 cC : (List dE)
 bE : (List cA)
 eM : (List dB)
 dA : (List cB)
 cI : (List fG)
 deriving DecidableEq
instance : aF aJ where
 sz := 6
 E H cs x := ∃ v0 v1 v2 v3 v4 v5 : Value, cs = [v0, v1, v2, v3, v4, v5] ∧ aL H v0 x.bJ ∧ aL H v1 x.cC ∧ aL H v2 x.bE ∧ aL H v3 x.eM ∧ aL H v4 x.dA ∧ aL H v5 x.cI
 len h := by obtain ⟨v0, v1, v2, v3, v4, v5, rfl, h0, h1, h2, h3, h4, h5⟩ := h; rfl
 mono hle h := by obtain ⟨v0, v1, v2, v3, v4, v5, rfl, h0, h1, h2, h3, h4, h5⟩ := h; exact ⟨v0, v1, v2, v3, v4, v5, rfl, h0.mono hle, h1.mono hle, h2.mono hle, h3.mono hle, h4.mono hle, h5.mono hle⟩
 one h := by obtain ⟨v0, v1, v2, v3, v4, v5, rfl, h0, h1, h2, h3, h4, h5⟩ := h; exact (EU (aL.b_ h0) (EU (aL.b_ h1) (EU (aL.b_ h2) (EU (aL.b_ h3) (EU (aL.b_ h4) (EU (aL.b_ h5) E8))))))
structure aK where
 seen : (List (ByteArray × Bool))
 nodes : (List ByteArray)
 deriving DecidableEq
structure aN where
 iW : (List Int)
 aW : (List Int)
 deriving DecidableEq
instance : aF aN where
 sz := 2
 E H cs x := ∃ v0 v1 : Value, cs = [v0, v1] ∧ aL H v0 x.iW ∧ aL H v1 x.aW
 len h := by obtain ⟨v0, v1, rfl, h0, h1⟩ := h; rfl
 mono hle h := by obtain ⟨v0, v1, rfl, h0, h1⟩ := h; exact ⟨v0, v1, rfl, h0.mono hle, h1.mono hle⟩
 one h := by obtain ⟨v0, v1, rfl, h0, h1⟩ := h; exact (EU (aL.b_ h0) (EU (aL.b_ h1) E8))
structure bK where
 a0 : Int
 a1 : Int
 deriving DecidableEq
instance : aF bK where
 sz := 2
 E H cs x := cs = [.int .i64 (x.a0), .int .i64 (x.a1)]
 len h := by obtain rfl := h; rfl
 mono hle h := by obtain rfl := h; exact rfl
 one h := by obtain rfl := h; exact (EU rfl (EU rfl E8))
instance : Flat bK := ⟨fun h => h⟩
structure aE where
 cH : Int
 eN : Int
 bI : Int
 deriving DecidableEq
instance : aF aE where
 sz := 3
 E H cs x := cs = [.int .i64 (x.cH), .int .i64 (x.eN), .int .i64 (x.bI)]
 len h := by obtain rfl := h; rfl
 mono hle h := by obtain rfl := h; exact rfl
 one h := by obtain rfl := h; exact (EU rfl (EU rfl (EU rfl E8)))
instance : Flat aE := ⟨fun h => h⟩
structure i_ where
 lA : (List ByteArray)
 oB : (List ByteArray)
 deriving DecidableEq
instance : aF i_ where
 sz := 2
 E H cs x := ∃ v0 v1 : Value, cs = [v0, v1] ∧ aL H v0 x.lA ∧ aL H v1 x.oB
 len h := by obtain ⟨v0, v1, rfl, h0, h1⟩ := h; rfl
 mono hle h := by obtain ⟨v0, v1, rfl, h0, h1⟩ := h; exact ⟨v0, v1, rfl, h0.mono hle, h1.mono hle⟩
 one h := by obtain ⟨v0, v1, rfl, h0, h1⟩ := h; exact (EU (aL.b_ h0) (EU (aL.b_ h1) E8))
structure aB where
 minus : Bool
 words : (List bA)
 deriving DecidableEq
instance : aF aB where
 sz := 2
 E H cs x := ∃ v1 : Value, cs = [.bool (x.minus), v1] ∧ aL H v1 x.words
 len h := by obtain ⟨v1, rfl, h0⟩ := h; rfl
 mono hle h := by obtain ⟨v1, rfl, h0⟩ := h; exact ⟨v1, rfl, h0.mono hle⟩
 one h := by obtain ⟨v1, rfl, h0⟩ := h; exact (EU rfl (EU (aL.b_ h0) E8))
structure aA where
 N : aB
 D : aB
 deriving DecidableEq
instance : aF aA where
 sz := 4
 E H cs x := ∃ v1 v3 : Value, cs = [.bool (x.N.minus), v1, .bool (x.D.minus), v3] ∧ aL H v1 x.N.words ∧ aL H v3 x.D.words
 len h := by obtain ⟨v1, v3, rfl, h0, h1⟩ := h; rfl
 mono hle h := by obtain ⟨v1, v3, rfl, h0, h1⟩ := h; exact ⟨v1, v3, rfl, h0.mono hle, h1.mono hle⟩
 one h := by obtain ⟨v1, v3, rfl, h0, h1⟩ := h; exact (EU rfl (EU (aL.b_ h0) (EU rfl (EU (aL.b_ h1) E8))))
structure aO where
 pj : aN
 gY : (List Int)
 To : (List Int)
 B_ : (List aA)
 C : (List aA)
 kV : (List Int)
 lH : (List (List aA))
 deriving DecidableEq
instance : aF aO where
 sz := 8
 E H cs x := ∃ v0 v1 v2 v3 v4 v5 v6 v7 : Value, cs = [v0, v1, v2, v3, v4, v5, v6, v7] ∧ aL H v0 x.pj.iW ∧ aL H v1 x.pj.aW ∧ aL H v2 x.gY ∧ aL H v3 x.To ∧ aL H v4 x.B_ ∧ aL H v5 x.C ∧ aL H v6 x.kV ∧ aL H v7 x.lH
 len h := by obtain ⟨v0, v1, v2, v3, v4, v5, v6, v7, rfl, h0, h1, h2, h3, h4, h5, h6, h7⟩ := h; rfl
 mono hle h := by obtain ⟨v0, v1, v2, v3, v4, v5, v6, v7, rfl, h0, h1, h2, h3, h4, h5, h6, h7⟩ := h; exact ⟨v0, v1, v2, v3, v4, v5, v6, v7, rfl, h0.mono hle, h1.mono hle, h2.mono hle, h3.mono hle, h4.mono hle, h5.mono hle, h6.mono hle, h7.mono hle⟩
 one h := by obtain ⟨v0, v1, v2, v3, v4, v5, v6, v7, rfl, h0, h1, h2, h3, h4, h5, h6, h7⟩ := h; exact (EU (aL.b_ h0) (EU (aL.b_ h1) (EU (aL.b_ h2) (EU (aL.b_ h3) (EU (aL.b_ h4) (EU (aL.b_ h5) (EU (aL.b_ h6) (EU (aL.b_ h7) E8))))))))
def kB (j : aJ) : Option (aJ) := dL (0 ≤ (min (j.dA.length : Int) 4) ∧ (min (j.dA.length : Int) 4) ≤ (j.dA.length : Int)) (dL (0 ≤ (min (j.eM.length : Int) 4) ∧ (min (j.eM.length : Int) 4) ≤ (j.eM.length : Int)) (some (aJ.mk j.bJ j.cC j.bE (qk j.eM 0 ((min (j.eM.length : Int) 4 : Int).toNat)) (qk j.dA 0 ((min (j.dA.length : Int) 4 : Int).toNat)) j.cI)))
def mz (I : Nat) (j : U8) (o : Unit → Option (Bool)) : Option (Bool) := if !(((decide (65 ≤ j.n)) && (decide (j.n ≤ 90))) || (((decide (0 < (I : Int))) && (decide (48 ≤ j.n))) && (decide (j.n ≤ 57)))) then (some false) else (o ())
def bZ (j : ByteArray) : Option (Bool) := dL (j.size ≤ maxLen) (dJ (fun k y o n => mz k y n) (fun _ => some ((decide (1 ≤ (j.size : Int))) && (decide ((j.size : Int) ≤ 8)))) 0 (fC j) ())
def gW (I : (List ByteArray)) (J : ByteArray) (j : Nat) (o : Unit → Option (Int)) : Option (Int) := idx I (j : Int) fun R => if decide (J = R) then (some (j : Int)) else (o ())
def aZ (j : (List ByteArray)) (o : ByteArray) : Option (Int) := jK (fun k I n => gW j o k n) (fun _ => some (-1)) ((j.length : Int) : Int).toNat 0 ()
def dK (j : (List ByteArray)) (o : ByteArray) : Option (Bool) := (aZ j o).bind fun I => some (decide (0 ≤ I))
def dZ (j : aK) (name : ByteArray) (nodes : (List ByteArray)) (R : Nat) (I : ByteArray) (o : Unit → Option (Int × aK)) : Option (Int × aK) := (dK j.nodes I).bind fun J => if !J then (some (6, (aK.mk (oV j.seen name true) j.nodes))) else (o ())
def bO (j : aK) (name : ByteArray) (nodes : (List ByteArray)) : Option (Int × aK) := (bZ name).bind fun o => if !o then (some (5, j)) else (if (lX j.seen name).getD false then (some (7, j)) else (dJ (fun k y R n => dZ j name nodes k y n) (fun _ => if decide ((nodes.length : Int) = 2) then (idx nodes 0 fun I => idx nodes 1 fun J => if decide (I = J) then (some (3, (aK.mk (oV j.seen name true) j.nodes))) else (some (0, (aK.mk (oV j.seen name true) j.nodes)))) else (some (0, (aK.mk (oV j.seen name true) j.nodes)))) 0 nodes ()))
def bD (I : Int) (o : Int) (j : Int) : Bool := ((decide (I < o)) || (decide (j < I)))
def fK (j : cA) : Int := if (((((bD j.X 1 10000) || (bD j.qn 500 1500)) || (bD j.Shift (-1000) 1000)) || (bD j.ky 0 100000)) || (bD j.lO j.ky 100000)) || (bD j.pg 0 200000) then 4 else 0
def aP (j : Int) : Bool := (!(bD j 0 100000))
def eZ (I : aK) (U : Nat) (j : fG) (R : (List (ByteArray × Bool))) (J : (List (ByteArray × Bool)) → Option (Int × aK)) : Option (Int × aK) := (bO (aK.mk R I.nodes) j.Name ([j.Node])).bind fun o => if !decide (o.1 = 0) then (some (o.1, (aK.mk o.2.seen I.nodes))) else (if ((!(aP j.kr)) || (!(aP j.Discharge))) || (!(aP j.l8)) then (some (4, (aK.mk o.2.seen I.nodes))) else (J o.2.seen))
def eY (o : aK) (U : Nat) (I : cB) (R : (List (ByteArray × Bool))) (J : (List (ByteArray × Bool)) → Option (Int × aK)) : Option (Int × aK) := (bO (aK.mk R o.nodes) I.Name ([I.Node])).bind fun j => if !decide (j.1 = 0) then (some (j.1, (aK.mk j.2.seen o.nodes))) else (if !(aP I.bI) then (some (4, (aK.mk j.2.seen o.nodes))) else (J j.2.seen))
def eX (I : aK) (U : Nat) (j : dB) (R : (List (ByteArray × Bool))) (J : (List (ByteArray × Bool)) → Option (Int × aK)) : Option (Int × aK) := (bO (aK.mk R I.nodes) j.Name ([j.Node])).bind fun o => if !decide (o.1 = 0) then (some (o.1, (aK.mk o.2.seen I.nodes))) else (if ((!(aP j.cH)) || (bD j.eN j.cH 100000)) || (!(aP j.rM)) then (some (4, (aK.mk o.2.seen I.nodes))) else (J o.2.seen))
def dQ (j : aK) (o : aJ) : Option (Int × aK) := dJ (fun k y I n => eX j k y I n) (fun I => dJ (fun k y J n => eY j k y J n) (fun J => dJ (fun k y R n => eZ j k y R n) (fun R => some (0, (aK.mk R j.nodes))) 0 o.cI J) 0 o.dA I) 0 o.eM j.seen
def iU (J : aJ) (U : Nat) (j : cA) (R : (List (ByteArray × Bool))) (I : (List (ByteArray × Bool)) → Option (Int)) : Option (Int) := (bO (aK.mk R J.bJ) j.Name ([j.gY, j.To])).bind fun o => if !decide (o.1 = 0) then (some o.1) else (if !decide ((fK j) = 0) then (some (fK j)) else (I o.2.seen))
def iT (J : aJ) (U : Nat) (j : dE) (R : (List (ByteArray × Bool))) (I : (List (ByteArray × Bool)) → Option (Int)) : Option (Int) := (bO (aK.mk R J.bJ) j.Name ([j.A, j.B_])).bind fun o => if !decide (o.1 = 0) then (some o.1) else (I o.2.seen)
def iS (I : aJ) (U : Nat) (J : ByteArray) (R : (List (ByteArray × Bool))) (o : (List (ByteArray × Bool)) → Option (Int)) : Option (Int) := (bO (aK.mk R I.bJ) J []).bind fun j => if !decide (j.1 = 0) then (some j.1) else (o j.2.seen)
def cM (j : aJ) : Option (Int) := if (((((decide (24 < (j.bJ.length : Int))) || (decide (32 < (j.cC.length : Int)))) || (decide (24 < (j.bE.length : Int)))) || (decide (10 < (j.eM.length : Int)))) || (decide (12 < (j.dA.length : Int)))) || (decide (4 < (j.cI.length : Int))) then (some 2) else (dJ (fun k y o n => iS j k y o n) (fun o => dJ (fun k y I n => iT j k y I n) (fun I => dJ (fun k y J n => iU j k y J n) (fun J => (dQ (aK.mk J j.bJ) j).bind fun R => some R.1) 0 j.bE I) 0 j.cC o) 0 j.bJ ([] : (List (ByteArray × Bool))))
def jH (j : (List bK × List Int) → Option ((List bK) × (List Int))) (o : List bK) (I : List Int) : Option ((List bK) × (List Int)) := j (o, I)
def mA (U : aJ) (j : Bool) (EC : Nat) (o : dE) (I : List bK) (J : List Int) (R : (List bK × List Int) → Option ((List bK) × (List Int))) : Option ((List bK) × (List Int)) := if decide (o.Open = j) then ((aZ U.bJ o.A).bind fun ED => (aZ U.bJ o.B_).bind fun EE => dL ((I.length + ([(bK.mk ED EE)]).length) * 16 ≤ 140737488355328) (dL ((J.length + ([((EC : Int))] : List Int).length) * 8 ≤ 140737488355328) (jH R (I ++ ([(bK.mk ED EE)])) (J ++ ([((EC : Int))] : List Int))))) else (jH R I J)
def k4 (I : aJ) (o : Bool) : Option ((List bK) × (List Int)) := dJ (fun k y j n => mA I o k y j.1 j.2 n) (fun j => some (j.1, j.2)) 0 I.cC (([] : List bK), ([] : List Int))
def nt (o : Int) (J : Nat) (j : bK) (I : Unit → Option (Int)) : Option (Int) := if decide (j.a0 < 0) then (some 4) else (if decide (o ≤ j.a0) then (some 4) else (if decide (j.a1 < 0) then (some 4) else (if decide (o ≤ j.a1) then (some 4) else (I ()))))
def mc (j : Int) (o : (List bK)) : Option (Int) := if ((decide (j < 0)) || (decide (24 < j))) || (decide (64 < (o.length : Int))) then (some 2) else (dJ (fun k y I n => nt j k y n) (fun _ => some 0) 0 o ())
def iK (j : Int) (o : Int) : Int × Int := ((u64.wrap ((u64.wrap ((u64.wrap ((iN .u64 j 32) * (iN .u64 o 32))) + (iN .u64 (u64.wrap ((u64.wrap ((iN .u64 j 32) * (u64.wrap ((BitVec.ofInt (u64).bits o &&& BitVec.ofInt (u64).bits 4294967295).toNat)))) + (iN .u64 (u64.wrap ((u64.wrap ((BitVec.ofInt (u64).bits j &&& BitVec.ofInt (u64).bits 4294967295).toNat)) * (u64.wrap ((BitVec.ofInt (u64).bits o &&& BitVec.ofInt (u64).bits 4294967295).toNat)))) 32))) 32))) + (iN .u64 (u64.wrap ((u64.wrap ((BitVec.ofInt (u64).bits (u64.wrap ((u64.wrap ((iN .u64 j 32) * (u64.wrap ((BitVec.ofInt (u64).bits o &&& BitVec.ofInt (u64).bits 4294967295).toNat)))) + (iN .u64 (u64.wrap ((u64.wrap ((BitVec.ofInt (u64).bits j &&& BitVec.ofInt (u64).bits 4294967295).toNat)) * (u64.wrap ((BitVec.ofInt (u64).bits o &&& BitVec.ofInt (u64).bits 4294967295).toNat)))) 32))) &&& BitVec.ofInt (u64).bits 4294967295).toNat)) + (u64.wrap ((u64.wrap ((BitVec.ofInt (u64).bits j &&& BitVec.ofInt (u64).bits 4294967295).toNat)) * (iN .u64 o 32))))) 32))), (u64.wrap (j * o)))
def mi (j : Int) (o : Int) : Int × Int := ((((iK j o)).1), (((iK j o)).2))
def fH (j : (List Int × Int) → Option ((List Int))) (o : List Int) (I : Int) : Option ((List Int)) := j (o, I)
def cN (j : (List Int × List Int) → Option ((List Int))) (o : List Int) (I : List Int) : Option ((List Int)) := j (o, I)
def lq (without : Int) (U : Int) (o : Int) (EC : Nat) (j : bK) (I : List Int) (J : List Int) (R : (List Int × List Int) → Option ((List Int))) : Option ((List Int)) := if decide ((EC : Int) = without) then (cN R I J) else (if decide (j.a0 = o) then (idx I (i64.wrap ((i64.wrap (j.a0 + j.a1)) - o)) fun ED => if decide (ED < 0) then (idx I (i64.wrap ((i64.wrap (j.a0 + j.a1)) - o)) fun EF => dL ((J.length + ([(i64.wrap ((i64.wrap (j.a0 + j.a1)) - o))] : List Int).length) * 8 ≤ 140737488355328) (cN R (I.set ((i64.wrap ((i64.wrap (j.a0 + j.a1)) - o) : Int).toNat) U) (J ++ ([(i64.wrap ((i64.wrap (j.a0 + j.a1)) - o))] : List Int)))) else (cN R I J)) else (if !decide (j.a1 = o) then (cN R I J) else (idx I (i64.wrap ((i64.wrap (j.a0 + j.a1)) - o)) fun EE => if decide (EE < 0) then (idx I (i64.wrap ((i64.wrap (j.a0 + j.a1)) - o)) fun EG => dL ((J.length + ([(i64.wrap ((i64.wrap (j.a0 + j.a1)) - o))] : List Int).length) * 8 ≤ 140737488355328) (cN R (I.set ((i64.wrap ((i64.wrap (j.a0 + j.a1)) - o) : Int).toNat) U) (J ++ ([(i64.wrap ((i64.wrap (j.a0 + j.a1)) - o))] : List Int)))) else (cN R I J))))
def ln (ED : (List bK)) (without : Int) (I : Int) (R : (List Int × Int) → Option ((List Int))) (J : List Int) (j : List Int) (U : (List Int × List Int) → Option ((List Int))) : Option ((List Int)) := if decide (0 < (j.length : Int)) then (idx j 0 fun EC => dL (0 ≤ 1 ∧ 1 ≤ (j.length : Int)) (dJ (fun k y o n => lq without I EC k y o.1 o.2 n) (fun o => U (o.1, o.2)) 0 ED (J, (qk j (1 : Int).toNat j.length)))) else (fH R J (i64.wrap (I + 1)))
def lj (EC : (List bK)) (without : Int) (I : Nat) (j : List Int) (o : Int) (J : (List Int × Int) → Option ((List Int))) : Option ((List Int)) := idx j (I : Int) fun U => if decide (0 ≤ U) then (fH J j o) else (idx j (I : Int) fun ED => gC (fun R n => ln EC without o J R.1 R.2 n) fR ((j.set (((I : Int) : Int).toNat) o), ([((I : Int))] : List Int)))
def kt (o : Int) (I : (List bK)) (without : Int) : Option ((List Int)) := dL (([((-1))] : List Int).length = 1 ∧ 0 ≤ o ∧ o * 8 ≤ 140737488355328) (dL (o ≤ 9223372036854775807) (jK (fun k j n => lj I without k j.1 j.2 n) (fun j => some j.1) (o : Int).toNat 0 ((wS ([((-1))] : List Int) o), 0)))
def eT (j : Int) (o : (List bK)) : Option ((List Int) × Int) := (mc j o).bind fun I => if !decide (I = 0) then (some (([] : List Int), I)) else ((kt j o (-1)).bind fun J => some (J, 0))
def jR (j : aJ) : Option ((List Int)) := (k4 j false).bind fun o => (eT (j.bJ.length : Int) o.1).bind fun I => some I.1
def mV (j : aJ) (o : ((List Int))) (EF : Nat) (I : cA) (J : List bK) (EC : List bK → Option (aN)) : Option (aN) := (aZ j.bJ I.gY).bind fun ED => idx o ED fun R => (aZ j.bJ I.To).bind fun EE => idx o EE fun U => dL ((J.length + ([(bK.mk R U)]).length) * 16 ≤ 140737488355328) (EC (J ++ ([(bK.mk R U)])))
def mU (I : Nat) (o : Int) (n114 : Int) (j : Int → Option (aN)) : Option (aN) := j (max n114 (i64.wrap (o + 1)))
def cK (j : aJ) : Option (aN) := (jR j).bind fun o => dJ (fun k y I n => mU k y I n) (fun I => dJ (fun k y J n => mV j o k y J n) (fun J => (eT I J).bind fun R => some (aN.mk o R.1)) 0 j.bE ([] : List bK)) 0 o 0
def lR (I : Nat) (o : Int) (n115 : Int) (j : Int → Option (Int)) : Option (Int) := j (max n115 (i64.wrap (o + 1)))
def hO (o : aJ) : Option (Int) := (cK o).bind fun I => dJ (fun k y j n => lR k y j n) (fun j => some j) 0 I.aW 0
def iM (o : aJ) (j : aN) (node : ByteArray) : Option (Int) := (aZ o.bJ node).bind fun I => idx j.iW I fun J => idx j.aW J fun R => some R
def mO (U : aJ) (EC : (aN)) (EE : Nat) (I : cB) (j : List aE) (R : List aE → Option ((List aE))) : Option ((List aE)) := (iM U EC I.Node).bind fun o => idx j o fun ED => idx j o fun J => R (j.set ((o : Int).toNat) (aE.mk J.cH J.eN (i64.wrap (ED.bI + I.bI))))
def mM (U : aJ) (EC : (aN)) (ED : Nat) (o : dB) (J : List aE) (R : List aE → Option ((List aE))) : Option ((List aE)) := (iM U EC o.Node).bind fun I => idx J I fun j => R ((J.set ((I : Int).toNat) (aE.mk (i64.wrap (j.cH + o.cH)) j.eN j.bI)).set ((I : Int).toNat) (aE.mk (i64.wrap (j.cH + o.cH)) (i64.wrap (j.eN + o.eN)) j.bI))
def kE (j : aJ) : Option ((List aE)) := (cK j).bind fun R => (hO j).bind fun o => dL (0 ≤ o ∧ o * 24 ≤ 140737488355328) (dJ (fun k y I n => mM j R k y I n) (fun I => dJ (fun k y J n => mO j R k y J n) (fun J => some J) 0 j.dA I) 0 j.eM (List.replicate (o : Int).toNat ((aE.mk 0 0 0) : aE)))
def jX (j : Int) : Bool := (decide (0 < j))
def dH (I : (List Int)) (j : Nat) (o : Unit → Option (Int)) : Option (Int) := idx I (j : Int) fun J => if (jX J) then (some (j : Int)) else (o ())
def cW (j : (List Int)) : Option (Int) := jK (fun k o n => dH j k n) (fun _ => some (-1)) ((j.length : Int) : Int).toNat 0 ()
def cE (j : (List Int)) : Option (Bool) := (cW j).bind fun o => some (decide (0 ≤ o))
def iA (I : List Int) (j : List Int) (o : (List Int × List Int) → Option ((List Int) × Int)) (J : (Int)) (R : Int) (n316 : Int) : Option ((List Int) × Int) := dL ((j.length + ([n316] : List Int).length) * 8 ≤ 140737488355328) (o ((I.set ((J : Int).toNat) (i64.wrap (R - n316))), (j ++ ([n316] : List Int))))
def mq (EC : aJ) (ED : (aN)) (EE : Nat) (o : dB) (I : List Int) (U : List Int) (J : (List Int × List Int) → Option ((List Int) × Int)) : Option ((List Int) × Int) := (iM EC ED o.Node).bind fun R => idx I R fun j => if decide (o.cH ≤ j) then (iA I U J R j (min o.eN j)) else (iA I U J R j 0)
def mo (J : Nat) (j : aE) (o : List Int) (I : List Int → Option ((List Int) × Int)) : Option ((List Int) × Int) := dL ((o.length + ([j.bI] : List Int).length) * 8 ≤ 140737488355328) (I (o ++ ([j.bI] : List Int)))
def gS (j : aJ) : Option ((List Int) × Int) := (cM j).bind fun J => if !decide (J = 0) then (some (([] : List Int), J)) else ((cK j).bind fun R => (kE j).bind fun U => dJ (fun k y I n => mo k y I n) (fun I => dJ (fun k y o n => mq j R k y o.1 o.2 n) (fun o => (cE o.1).bind fun EC => if EC then (some (([] : List Int), 14)) else (some (o.2, 0))) 0 j.eM (I, ([] : List Int))) 0 U ([] : List Int))
def nq (I : Nat) (j : Int) (o : Unit → Option ((List Int) × Int)) : Option ((List Int) × Int) := if (decide (j < (-100000))) || (decide (100000 < j)) then (some (([] : List Int), 4)) else (o ())
def np (R : aJ) (EC : Nat) (I : cB) (j : List Int) (J : List Int → Option ((List Int) × Int)) : Option ((List Int) × Int) := (aZ R.bJ I.Node).bind fun o => idx j o fun U => idx j o fun ED => J (j.set ((o : Int).toNat) (i64.wrap (U - I.bI)))
def nk (U : aJ) (stores : (List Int)) (j : Nat) (o : fG) (I : List Int) (R : List Int → Option ((List Int) × Int)) : Option ((List Int) × Int) := idx stores (j : Int) fun EC => if decide (EC < (i64.wrap (0 - o.kr))) then (some (([] : List Int), 17)) else (idx stores (j : Int) fun ED => if decide (o.Discharge < ED) then (some (([] : List Int), 17)) else ((aZ U.bJ o.Node).bind fun J => idx I J fun EE => idx stores (j : Int) fun EF => idx I J fun EG => R (I.set ((J : Int).toNat) (i64.wrap (EE + EF)))))
def nj (EC : aJ) (gens : (List Int)) (o : Nat) (I : dB) (j : List Int) (J : List Int → Option ((List Int) × Int)) : Option ((List Int) × Int) := idx gens (o : Int) fun ED => if decide (ED = 0) then ((aZ EC.bJ I.Node).bind fun R => idx j R fun EE => idx gens (o : Int) fun EF => idx j R fun EK => J (j.set ((R : Int).toNat) (i64.wrap (EE + EF)))) else (idx gens (o : Int) fun EG => if decide (EG < I.cH) then (some (([] : List Int), 17)) else (idx gens (o : Int) fun EH => if decide (I.eN < EH) then (some (([] : List Int), 17)) else ((aZ EC.bJ I.Node).bind fun U => idx j U fun EI => idx gens (o : Int) fun EJ => idx j U fun EL => J (j.set ((U : Int).toNat) (i64.wrap (EI + EJ))))))
def mb (j : aJ) (gens : (List Int)) (stores : (List Int)) : Option ((List Int) × Int) := (cM j).bind fun R => if !decide (R = 0) then (some (([] : List Int), R)) else (if (!decide ((gens.length : Int) = (j.eM.length : Int))) || (!decide ((stores.length : Int) = (j.cI.length : Int))) then (some (([] : List Int), 3)) else (dL (0 ≤ (j.bJ.length : Int) ∧ (j.bJ.length : Int) * 8 ≤ 140737488355328) (dJ (fun k y I n => nj j gens k y I n) (fun I => dJ (fun k y J n => nk j stores k y J n) (fun J => dJ (fun k y o n => np j k y o n) (fun o => dJ (fun k y U n => nq k y n) (fun _ => some (o, 0)) 0 o ()) 0 j.dA J) 0 j.cI I) 0 j.eM (List.replicate ((j.bJ.length : Int) : Int).toNat (0 : Int)))))
def fT (j : aJ) : Option ((List Int) × Int) := (gS j).bind fun o => if !decide (o.2 = 0) then (some (([] : List Int), o.2)) else (dL (0 ≤ (j.cI.length : Int) ∧ (j.cI.length : Int) * 8 ≤ 140737488355328) ((mb j o.1 (List.replicate ((j.cI.length : Int) : Int).toNat (0 : Int))).bind fun I => some (I.1, I.2)))
def gL : aJ := (aJ.mk ([(⟨#[65]⟩), (⟨#[66]⟩)]) ([(dE.mk (⟨#[83]⟩) (⟨#[65]⟩) (⟨#[66]⟩) false true)]) ([(cA.mk (⟨#[76]⟩) (⟨#[65]⟩) (⟨#[66]⟩) 1000 1000 0 40 60 10)]) ([(dB.mk (⟨#[71]⟩) (⟨#[65]⟩) 10 50 0)]) ([(cB.mk (⟨#[68]⟩) (⟨#[66]⟩) 30)]) [])
def pX (j : aJ) : Option ((List aE) × Int) := (cM j).bind fun o => if !decide (o = 0) then (some (([] : List aE), o)) else ((kE j).bind fun I => some (I, 0))
def fL (J : (List aE)) (R : (List aE)) (I : Nat) (U : Unit → Option (Bool)) : Option (Bool) := idx J (I : Int) fun j => idx R (I : Int) fun o => if !(decide (j.cH = o.cH) && (decide (j.eN = o.eN) && (decide (j.bI = o.bI) && true))) then (some false) else (U ())
def dR (j : (List aE)) (o : (List aE)) : Option (Bool) := if !decide ((j.length : Int) = (o.length : Int)) then (some false) else (jK (fun k I n => fL j o k n) (fun _ => some true) ((j.length : Int) : Int).toNat 0 ())
def lP (o : (List Int)) (I : (List Int)) (j : Nat) (J : Unit → Option (Bool)) : Option (Bool) := idx o (j : Int) fun R => idx I (j : Int) fun U => if !decide (R = U) then (some false) else (J ())
def kU (j : (List Int)) (o : (List Int)) : Option (Bool) := if !decide ((j.length : Int) = (o.length : Int)) then (some false) else (jK (fun k I n => lP j o k n) (fun _ => some true) ((j.length : Int) : Int).toNat 0 ())
def eI : Option (Bool) := (pX ((gL))).bind fun j => (gS ((gL))).bind fun o => if decide (j.2 = 0) then (if decide (o.2 = 0) then ((dR j.1 ([(aE.mk 10 50 30)])).bind fun I => if I then ((kU o.1 ([30] : List Int)).bind fun J => some J) else (some false)) else (some false)) else (some false)
def nR (o : (aN)) (U : Nat) (j : Int) (I : (List (Int × Int))) (R : (List (Int × Int)) → Option (Int)) : Option (Int) := if (decide (j < (-100000))) || (decide (100000 < j)) then (some 4) else (idx o.iW (U : Int) fun EC => idx o.aW EC fun J => R (oV I J (i64.wrap (((lX I J).getD (0 : Int)) + j))))
def iC (j : aJ) (inject : (List Int)) : Option (Int) := (cM j).bind fun I => if !decide (I = 0) then (some I) else (if !decide ((inject.length : Int) = (j.bJ.length : Int)) then (some 3) else ((cK j).bind fun J => dJ (fun k y o n => nR J k y o n) (fun o => if (o.any (fun R => !decide (R.2 = 0))) then (some 14) else (some 0)) 0 inject ([] : (List (Int × Int)))))
def jP (minus : Bool) (j : (List bA)) : Option (aB) := if minus then (some (aB.mk (decide (0 < (j.length : Int))) j)) else (some (aB.mk false j))
def nW (minus : Bool) (j : (List bA)) (o : (List bA) → Option (aB)) : Option (aB) := if decide (0 < (j.length : Int)) then (idx j (i64.wrap ((j.length : Int) - 1)) fun I => if decide (I.n = 0) then (dL (0 ≤ (i64.wrap ((j.length : Int) - 1)) ∧ (i64.wrap ((j.length : Int) - 1)) ≤ (j.length : Int)) (o (qk j 0 ((i64.wrap ((j.length : Int) - 1) : Int).toNat)))) else (jP minus j)) else (jP minus j)
def eJ (minus : Bool) (j : (List bA)) : Option (aB) := gC (fun o n => nW minus o n) fR j
def k7 (j : Int) (n103 : Int) : Option (aB) := (eJ (decide (j < 0)) ([⟨u32.wrap (n103)⟩, ⟨u32.wrap (iN .u64 n103 32)⟩] : List bA)).bind fun o => some o
def jF (j : Int) : Option (aB) := if decide (j < 0) then (k7 j (u64.wrap (0 - (u64.wrap (j))))) else (k7 j (u64.wrap (j)))
def gU (j : aB) : Option (aB) := (eJ (!j.minus) j.words).bind fun o => some o
def fU (j : aB) : Int := if decide ((j.words.length : Int) = 0) then 0 else (if j.minus then (-1) else 1)
def lU (j : (List bA)) (o : (List bA)) (n154 : Int) (I : Int → Option (Int)) : Option (Int) := if decide (0 ≤ n154) then (idx j n154 fun J => idx o n154 fun R => if !decide (J.n = R.n) then (idx j n154 fun U => idx o n154 fun EC => if decide (U.n < EC.n) then (some (-1)) else (some 1)) else (I (i64.wrap (n154 - 1)))) else (some 0)
def jw (j : (List bA)) (o : (List bA)) : Option (Int) := if !decide ((j.length : Int) = (o.length : Int)) then (some (i64.wrap ((j.length : Int) - (o.length : Int)))) else (gC (fun I n => lU j o I n) fR (i64.wrap ((j.length : Int) - 1)))
def lV (R : (List bA)) (j : Int) (o : List bA) (n151 : Int) (n152 : Int) (J : (List bA × Int × Int) → Option ((List bA) × Int)) : Option ((List bA) × Int) := if decide (0 ≤ n152) then (idx R n152 fun I => dL ((u64.wrap (j)) ≠ 0) (idx o n152 fun U => dL ((u64.wrap (j)) ≠ 0) (J ((o.set ((n152 : Int).toNat) ⟨u32.wrap (u64.wrap (Int.tdiv (u64.wrap ((BitVec.ofInt (u64).bits (jI .u64 n151 32) ||| BitVec.ofInt (u64).bits (u64.wrap (I.n))).toNat)) (u64.wrap (j))))⟩), Int.tmod (u64.wrap ((BitVec.ofInt (u64).bits (jI .u64 n151 32) ||| BitVec.ofInt (u64).bits (u64.wrap (I.n))).toNat)) (u64.wrap (j)), i64.wrap (n152 - 1))))) else (some (o, (u32.wrap (n151))))
def jy (j : (List bA)) (I : Int) : Option ((List bA) × Int) := dL (0 ≤ (j.length : Int) ∧ (j.length : Int) * 4 ≤ 140737488355328) (gC (fun o n => lV j I o.1 o.2.1 o.2.2 n) fR ((List.replicate ((j.length : Int) : Int).toNat (⟨0⟩ : bA)), 0, i64.wrap ((j.length : Int) - 1)))
def fX (n106 : Int) (n107 : Int) : Option (Int) := idx (fC (⟨#[0, 1, 2, 2, 3, 3, 3, 3, 4, 4, 4, 4, 4, 4, 4, 4, 5, 5, 5, 5, 5, 5, 5, 5, 5, 5, 5, 5, 5, 5, 5, 5, 6, 6, 6, 6, 6, 6, 6, 6, 6, 6, 6, 6, 6, 6, 6, 6, 6, 6, 6, 6, 6, 6, 6, 6, 6, 6, 6, 6, 6, 6, 6, 6, 7, 7, 7, 7, 7, 7, 7, 7, 7, 7, 7, 7, 7, 7, 7, 7, 7, 7, 7, 7, 7, 7, 7, 7, 7, 7, 7, 7, 7, 7, 7, 7, 7, 7, 7, 7, 7, 7, 7, 7, 7, 7, 7, 7, 7, 7, 7, 7, 7, 7, 7, 7, 7, 7, 7, 7, 7, 7, 7, 7, 7, 7, 7, 7, 8, 8, 8, 8, 8, 8, 8, 8, 8, 8, 8, 8, 8, 8, 8, 8, 8, 8, 8, 8, 8, 8, 8, 8, 8, 8, 8, 8, 8, 8, 8, 8, 8, 8, 8, 8, 8, 8, 8, 8, 8, 8, 8, 8, 8, 8, 8, 8, 8, 8, 8, 8, 8, 8, 8, 8, 8, 8, 8, 8, 8, 8, 8, 8, 8, 8, 8, 8, 8, 8, 8, 8, 8, 8, 8, 8, 8, 8, 8, 8, 8, 8, 8, 8, 8, 8, 8, 8, 8, 8, 8, 8, 8, 8, 8, 8, 8, 8, 8, 8, 8, 8, 8, 8, 8, 8, 8, 8, 8, 8, 8, 8, 8, 8, 8, 8, 8, 8, 8, 8, 8, 8, 8, 8, 8, 8, 8, 8]⟩)) (u8.wrap (n106)) fun j => some (i64.wrap (n107 + (i64.wrap (j.n))))
def fY (n102 : Int) (n103 : Int) : Option (Int) := if decide (256 ≤ n102) then (fX (iN .u32 n102 8) (i64.wrap (n103 + 8))) else (fX n102 n103)
def ly (j : Int) : Option (Int) := if decide (65536 ≤ j) then (fY (iN .u32 j 16) 16) else (fY j 0)
def eV (j : Int) : Option (Int) := (ly j).bind fun o => some (i64.wrap (32 - o))
def my (j : Int) (o : Nat) (I : bA) (J : List bA) (n140 : Int) (R : (List bA × Int) → Option ((List bA))) : Option ((List bA)) := dL (0 ≤ j) (idx J (o : Int) fun U => R ((J.set (((o : Int) : Int).toNat) ⟨u32.wrap (u64.wrap ((BitVec.ofInt (u64).bits n140 ||| BitVec.ofInt (u64).bits (jI .u64 (u64.wrap (I.n)) j)).toNat))⟩), iN .u64 (u64.wrap ((BitVec.ofInt (u64).bits n140 ||| BitVec.ofInt (u64).bits (jI .u64 (u64.wrap (I.n)) j)).toNat)) 32))
def jQ (j : (List bA)) (I : Int) : Option ((List bA)) := dL (0 ≤ (i64.wrap ((j.length : Int) + 1)) ∧ (i64.wrap ((j.length : Int) + 1)) * 4 ≤ 140737488355328) (dJ (fun k y o n => my I k y o.1 o.2 n) (fun o => idx o.1 (j.length : Int) fun J => some (o.1.set (((j.length : Int) : Int).toNat) ⟨u32.wrap (o.2)⟩)) 0 j ((List.replicate (i64.wrap ((j.length : Int) + 1) : Int).toNat (⟨0⟩ : bA)), 0))
def fW (o : List bA) (j : Int) (I : (List bA × List bA × Int) → Option ((List bA) × (List bA))) (J : List bA) (R : Int) : Option ((List bA) × (List bA)) := idx o j fun U => I ((o.set ((j : Int).toNat) ⟨u32.wrap (R)⟩), J, i64.wrap (j - 1))
def kc (ED : (List bA)) (EE : ((List bA))) (o : Int) (j : Nat) (I : List bA) (J : Int) (EC : (List bA × Int) → Option ((List bA) × (List bA))) : Option ((List bA) × (List bA)) := idx I (i64.wrap ((j : Int) + o)) fun R => idx (qk EE 0 (((ED.length : Int) : Int).toNat)) (j : Int) fun U => idx I (i64.wrap ((j : Int) + o)) fun EF => EC ((I.set ((i64.wrap ((j : Int) + o) : Int).toNat) ⟨u32.wrap (u64.wrap (J + (u64.wrap ((u64.wrap (R.n)) + (u64.wrap (U.n))))))⟩), iN .u64 (u64.wrap (J + (u64.wrap ((u64.wrap (R.n)) + (u64.wrap (U.n)))))) 32)
def kb (EF : (List bA)) (EG : ((List bA))) (o : Int) (I : Int) (j : Nat) (J : List bA) (EC : Int) (R : Int) (EE : (List bA × Int × Int) → Option ((List bA) × (List bA))) : Option ((List bA) × (List bA)) := idx (qk EG 0 (((EF.length : Int) : Int).toNat)) (j : Int) fun U => idx J (i64.wrap ((j : Int) + o)) fun ED => idx J (i64.wrap ((j : Int) + o)) fun EH => EE ((J.set ((i64.wrap ((j : Int) + o) : Int).toNat) ⟨u32.wrap (i64.wrap (EC + (i64.wrap ((i64.wrap (ED.n)) - (i64.wrap (u64.wrap ((BitVec.ofInt (u64).bits (u64.wrap (R + (u64.wrap (I * (u64.wrap (U.n)))))) &&& BitVec.ofInt (u64).bits 4294967295).toNat)))))))⟩), iN .i64 (i64.wrap (EC + (i64.wrap ((i64.wrap (ED.n)) - (i64.wrap (u64.wrap ((BitVec.ofInt (u64).bits (u64.wrap (R + (u64.wrap (I * (u64.wrap (U.n)))))) &&& BitVec.ofInt (u64).bits 4294967295).toNat))))))) 32, iN .u64 (u64.wrap (R + (u64.wrap (I * (u64.wrap (U.n)))))) 32)
def dG (I : (List bA)) (EE : ((List bA))) (ED : List bA) (EF : List bA) (o : Int) (EC : (List bA × List bA × Int) → Option ((List bA) × (List bA))) (R : Int) : Option ((List bA) × (List bA)) := jK (fun k j n => kb I EE o R k j.1 j.2.1 j.2.2 n) (fun j => idx j.1 (i64.wrap (o + (I.length : Int))) fun U => idx j.1 (i64.wrap (o + (I.length : Int))) fun EH => if decide ((i64.wrap (j.2.1 + (i64.wrap ((i64.wrap (U.n)) - (i64.wrap (j.2.2)))))) < 0) then (jK (fun k J n => kc I EE o k J.1 J.2 n) (fun J => idx J.1 (i64.wrap (o + (I.length : Int))) fun EG => idx J.1 (i64.wrap (o + (I.length : Int))) fun EI => fW ED o EC (J.1.set ((i64.wrap (o + (I.length : Int)) : Int).toNat) ⟨u32.wrap (EG.n + (u32.wrap (J.2)))⟩) (u64.wrap (R - 1))) ((I.length : Int) : Int).toNat 0 ((j.1.set ((i64.wrap (o + (I.length : Int)) : Int).toNat) ⟨u32.wrap (i64.wrap (j.2.1 + (i64.wrap ((i64.wrap (U.n)) - (i64.wrap (j.2.2))))))⟩), 0)) else (fW ED o EC (j.1.set ((i64.wrap (o + (I.length : Int)) : Int).toNat) ⟨u32.wrap (i64.wrap (j.2.1 + (i64.wrap ((i64.wrap (U.n)) - (i64.wrap (j.2.2))))))⟩) R)) ((I.length : Int) : Int).toNat 0 (EF, 0, 0)
def kd (j : (List bA)) (J : ((List bA))) (ED : List bA) (R : List bA) (U : Int) (EC : (List bA × List bA × Int) → Option ((List bA) × (List bA))) (o : Int) (I : Int) (EE : (Int × Int) → Option ((List bA) × (List bA))) : Option ((List bA) × (List bA)) := if decide (4294967296 ≤ o) then (idx (qk J 0 (((j.length : Int) : Int).toNat)) (i64.wrap ((j.length : Int) - 1)) fun EF => if decide (4294967296 ≤ (u64.wrap (I + (u64.wrap (EF.n))))) then (dG j J ED R U EC (u64.wrap (o - 1))) else (EE (u64.wrap (o - 1), u64.wrap (I + (u64.wrap (EF.n)))))) else (idx (qk J 0 (((j.length : Int) : Int).toNat)) (i64.wrap ((j.length : Int) - 2)) fun EH => idx R (i64.wrap ((i64.wrap (U + (j.length : Int))) - 2)) fun EI => if decide ((u64.wrap ((BitVec.ofInt (u64).bits (jI .u64 I 32) ||| BitVec.ofInt (u64).bits (u64.wrap (EI.n))).toNat)) < (u64.wrap (o * (u64.wrap (EH.n))))) then (idx (qk J 0 (((j.length : Int) : Int).toNat)) (i64.wrap ((j.length : Int) - 1)) fun EG => if decide (4294967296 ≤ (u64.wrap (I + (u64.wrap (EG.n))))) then (dG j J ED R U EC (u64.wrap (o - 1))) else (EE (u64.wrap (o - 1), u64.wrap (I + (u64.wrap (EG.n)))))) else (dG j J ED R U EC o))
def iE (R : (Int)) (o : List bA) (j : Nat) (I : List bA) (J : List bA → Option ((List bA) × (List bA))) : Option ((List bA) × (List bA)) := idx o (i64.wrap ((j : Int) + 1)) fun U => idx o (j : Int) fun EC => dL (0 ≤ R) (idx I (j : Int) fun ED => J (I.set (((j : Int) : Int).toNat) ⟨u32.wrap (iN .u64 (u64.wrap ((BitVec.ofInt (u64).bits (jI .u64 (u64.wrap (U.n)) 32) ||| BitVec.ofInt (u64).bits (u64.wrap (EC.n))).toNat)) R)⟩))
def ka (j : (List bA)) (EI : (Int)) (R : ((List bA))) (U : List bA) (o : List bA) (I : Int) (EH : (List bA × List bA × Int) → Option ((List bA) × (List bA))) : Option ((List bA) × (List bA)) := if decide (0 ≤ I) then (idx o (i64.wrap (I + (j.length : Int))) fun EC => idx o (i64.wrap ((i64.wrap (I + (j.length : Int))) - 1)) fun ED => idx (qk R 0 (((j.length : Int) : Int).toNat)) (i64.wrap ((j.length : Int) - 1)) fun EE => dL ((u64.wrap (EE.n)) ≠ 0) (idx (qk R 0 (((j.length : Int) : Int).toNat)) (i64.wrap ((j.length : Int) - 1)) fun EF => dL ((u64.wrap (EF.n)) ≠ 0) (gC (fun EG n => kd j R U o I EH EG.1 EG.2 n) fR (u64.wrap (Int.tdiv (u64.wrap ((BitVec.ofInt (u64).bits (jI .u64 (u64.wrap (EC.n)) 32) ||| BitVec.ofInt (u64).bits (u64.wrap (ED.n))).toNat)) (u64.wrap (EE.n))), Int.tmod (u64.wrap ((BitVec.ofInt (u64).bits (jI .u64 (u64.wrap (EC.n)) 32) ||| BitVec.ofInt (u64).bits (u64.wrap (ED.n))).toNat)) (u64.wrap (EF.n)))))) else (dL (0 ≤ (j.length : Int) ∧ (j.length : Int) * 4 ≤ 140737488355328) (jK (fun k J n => iE EI o k J n) (fun J => some (U, J)) ((j.length : Int) : Int).toNat 0 (List.replicate ((j.length : Int) : Int).toNat (⟨0⟩ : bA))))
def jx (o : (List bA)) (j : (List bA)) : Option ((List bA) × (List bA)) := (jw o j).bind fun EC => if decide (EC < 0) then (some ([], o)) else (if decide ((j.length : Int) = 1) then (idx j 0 fun ED => (jy o ED.n).bind fun R => some (R.1, ([⟨R.2⟩] : List bA))) else (idx j (i64.wrap ((j.length : Int) - 1)) fun EE => (eV EE.n).bind fun J => (jQ o J).bind fun EF => (jQ j J).bind fun U => dL (0 ≤ (j.length : Int) ∧ (j.length : Int) ≤ (U.length : Int)) (dL (0 ≤ (i64.wrap ((i64.wrap ((o.length : Int) - (j.length : Int))) + 1)) ∧ (i64.wrap ((i64.wrap ((o.length : Int) - (j.length : Int))) + 1)) * 4 ≤ 140737488355328) (gC (fun I n => ka j J U I.1 I.2.1 I.2.2 n) fR ((List.replicate (i64.wrap ((i64.wrap ((o.length : Int) - (j.length : Int))) + 1) : Int).toNat (⟨0⟩ : bA)), EF, i64.wrap ((o.length : Int) - (j.length : Int)))))))
def mP (j : Bool) (o : (List bA)) : Option (aB) := some (aB.mk j o)
def oH (o : Bool) (j : (List bA)) (EC : Bool) (I : (List bA)) (U : (Bool × (List bA) × Bool × (List bA)) → Option (aB)) : Option (aB) := if !decide ((fU (aB.mk o j)) = 0) then ((jx I j).bind fun J => dL (J.2.length * 4 ≤ 140737488355328) ((eJ false J.2).bind fun R => U (R.minus, R.words, o, j))) else (mP EC I)
def kK (o : aB) (I : aB) : Option (aB) := gC (fun j n => oH j.1 j.2.1 j.2.2.1 j.2.2.2 n) fR (false, I.words, false, o.words)
def gP (j : List bA) (I : (List bA × Int) → Option ((List bA))) (o : Nat) (n198 : Int) : Option ((List bA)) := idx j (o : Int) fun J => I ((j.set (((o : Int) : Int).toNat) ⟨u32.wrap (n198)⟩), iN .u64 n198 32)
def lT (U : (List bA)) (I : (List bA)) (j : Nat) (J : List bA) (n176 : Int) (o : (List bA × Int) → Option ((List bA))) : Option ((List bA)) := idx U (j : Int) fun R => if decide ((j : Int) < (I.length : Int)) then (idx I (j : Int) fun EC => gP J o j (u64.wrap ((u64.wrap (n176 + (u64.wrap (R.n)))) + (u64.wrap (EC.n))))) else (gP J o j (u64.wrap (n176 + (u64.wrap (R.n)))))
def gQ (j : (List bA)) (I : (List bA)) : Option ((List bA)) := dL (0 ≤ (i64.wrap ((j.length : Int) + 1)) ∧ (i64.wrap ((j.length : Int) + 1)) * 4 ≤ 140737488355328) (jK (fun k o n => lT j I k o.1 o.2 n) (fun o => idx o.1 (j.length : Int) fun J => some (o.1.set (((j.length : Int) : Int).toNat) ⟨u32.wrap (o.2)⟩)) ((j.length : Int) : Int).toNat 0 ((List.replicate (i64.wrap ((j.length : Int) + 1) : Int).toNat (⟨0⟩ : bA)), 0))
def kG (j : (List bA)) (o : (List bA)) : Option ((List bA)) := if decide ((j.length : Int) < (o.length : Int)) then (gQ o j) else (gQ j o)
def gR (j : List bA) (I : (List bA × Int) → Option ((List bA))) (o : Nat) (n190 : Int) : Option ((List bA)) := idx j (o : Int) fun J => I ((j.set (((o : Int) : Int).toNat) ⟨u32.wrap (n190)⟩), iN .i64 n190 32)
def lW (U : (List bA)) (I : (List bA)) (j : Nat) (J : List bA) (n168 : Int) (o : (List bA × Int) → Option ((List bA))) : Option ((List bA)) := idx U (j : Int) fun R => if decide ((j : Int) < (I.length : Int)) then (idx I (j : Int) fun EC => gR J o j (i64.wrap ((i64.wrap (n168 + (i64.wrap (R.n)))) - (i64.wrap (EC.n))))) else (gR J o j (i64.wrap (n168 + (i64.wrap (R.n)))))
def jz (j : (List bA)) (I : (List bA)) : Option ((List bA)) := dL (0 ≤ (j.length : Int) ∧ (j.length : Int) * 4 ≤ 140737488355328) (jK (fun k o n => lW j I k o.1 o.2 n) (fun o => some o.1) ((j.length : Int) : Int).toNat 0 ((List.replicate ((j.length : Int) : Int).toNat (⟨0⟩ : bA)), 0))
def gT (j : aB) (o : aB) : Option (aB) := if decide (j.minus = o.minus) then ((kG j.words o.words).bind fun I => (eJ j.minus I).bind fun J => some J) else ((jw j.words o.words).bind fun R => if decide (0 ≤ R) then ((jz j.words o.words).bind fun U => (eJ j.minus U).bind fun EC => some EC) else ((jz o.words j.words).bind fun ED => (eJ o.minus ED).bind fun EE => some EE))
def nT (j : aB) (o : aB) : Option (aB) := (gU o).bind fun I => (gT j I).bind fun J => some J
def gX (c194 : Bool) (j : (List bA)) (c198 : Bool) (o : (List bA)) : Option (aB × aB) := some ((aB.mk c198 o), (aB.mk c194 j))
def bW (I : aB) (R : aB) : Option (aB × aB) := (jx I.words R.words).bind fun j => dL (j.1.length * 4 ≤ 140737488355328) ((eJ I.minus j.1).bind fun J => dL (j.2.length * 4 ≤ 140737488355328) ((eJ I.minus j.2).bind fun o => if o.minus then ((jF 1).bind fun ED => (nT J ED).bind fun U => (gT o R).bind fun EC => gX EC.minus EC.words U.minus U.words) else (gX o.minus o.words J.minus J.words)))
def jv (o : Bool) (j : (List bA)) (c127 : Bool) (I : (List bA)) : Option (aA) := if decide ((j.length : Int) = 1) then (idx j 0 fun EJ => if decide (EJ.n = 1) then (some (aA.mk (aB.mk c127 I) (aB.mk o j))) else ((kK (aB.mk c127 I) (aB.mk o j)).bind fun J => if decide ((J.words.length : Int) = 1) then (idx J.words 0 fun EK => if decide (EK.n = 1) then (some (aA.mk (aB.mk c127 I) (aB.mk o j))) else ((bW (aB.mk false I) J).bind fun U => (bW (aB.mk o j) J).bind fun EF => if c127 then (some (aA.mk (aB.mk (decide (0 < (U.1.words.length : Int))) U.1.words) EF.1)) else (some (aA.mk (aB.mk false U.1.words) EF.1)))) else ((bW (aB.mk false I) J).bind fun EC => (bW (aB.mk o j) J).bind fun EG => if c127 then (some (aA.mk (aB.mk (decide (0 < (EC.1.words.length : Int))) EC.1.words) EG.1)) else (some (aA.mk (aB.mk false EC.1.words) EG.1))))) else ((kK (aB.mk c127 I) (aB.mk o j)).bind fun R => if decide ((R.words.length : Int) = 1) then (idx R.words 0 fun EL => if decide (EL.n = 1) then (some (aA.mk (aB.mk c127 I) (aB.mk o j))) else ((bW (aB.mk false I) R).bind fun ED => (bW (aB.mk o j) R).bind fun EH => if c127 then (some (aA.mk (aB.mk (decide (0 < (ED.1.words.length : Int))) ED.1.words) EH.1)) else (some (aA.mk (aB.mk false ED.1.words) EH.1)))) else ((bW (aB.mk false I) R).bind fun EE => (bW (aB.mk o j) R).bind fun EI => if c127 then (some (aA.mk (aB.mk (decide (0 < (EE.1.words.length : Int))) EE.1.words) EI.1)) else (some (aA.mk (aB.mk false EE.1.words) EI.1))))
def jt (o : aB) (j : aB) : Option (aA) := if j.minus then ((gU o).bind fun I => (gU j).bind fun J => jv J.minus J.words I.minus I.words) else (jv j.minus j.words o.minus o.words)
def lK (j : Int) (o : Int) : Option (aA) := (jF j).bind fun I => (jF o).bind fun J => (jt I J).bind fun R => some R
def mu (J : bA) (j : Nat) (o : Nat) (R : bA) (I : List bA) (n337 : Int) (EC : (List bA × Int) → Option (aB)) : Option (aB) := idx I (i64.wrap ((j : Int) + (o : Int))) fun U => idx I (i64.wrap ((j : Int) + (o : Int))) fun ED => EC ((I.set ((i64.wrap ((j : Int) + (o : Int)) : Int).toNat) ⟨u32.wrap (u64.wrap (n337 + (u64.wrap ((u64.wrap (U.n)) + (u64.wrap ((u64.wrap (J.n)) * (u64.wrap (R.n))))))))⟩), iN .u64 (u64.wrap (n337 + (u64.wrap ((u64.wrap (U.n)) + (u64.wrap ((u64.wrap (J.n)) * (u64.wrap (R.n)))))))) 32)
def mr (o : aB) (I : Nat) (R : bA) (U : List bA) (J : List bA → Option (aB)) : Option (aB) := dJ (fun k y j n => mu R I k y j.1 j.2 n) (fun j => idx j.1 (i64.wrap ((I : Int) + (o.words.length : Int))) fun EC => J (j.1.set ((i64.wrap ((I : Int) + (o.words.length : Int)) : Int).toNat) ⟨u32.wrap (j.2)⟩)) 0 o.words (U, 0)
def dN (j : aB) (o : aB) : Option (aB) := dL (0 ≤ (i64.wrap ((j.words.length : Int) + (o.words.length : Int))) ∧ (i64.wrap ((j.words.length : Int) + (o.words.length : Int))) * 4 ≤ 140737488355328) (dJ (fun k y I n => mr o k y I n) (fun I => (eJ (!decide (j.minus = o.minus)) I).bind fun J => some J) 0 j.words (List.replicate (i64.wrap ((j.words.length : Int) + (o.words.length : Int)) : Int).toNat (⟨0⟩ : bA)))
def gV (j : aA) (o : aA) : Option (aA) := (dN j.N o.N).bind fun I => (dN j.D o.D).bind fun J => (jt I J).bind fun R => some R
def ju (j : Int) : Option (aA) := (jF j).bind fun o => (jF 1).bind fun I => some (aA.mk o I)
def ku (j : Int) : Option ((List aA)) := (ju 0).bind fun o => dL (([o]).length = 1 ∧ 0 ≤ j ∧ j * 64 ≤ 140737488355328) (some (wS ([o]) j))
def jN (I : (List Int)) (J : Int) (j : Nat) (o : Unit → Option (Int)) : Option (Int) := idx I (j : Int) fun R => if decide (J = R) then (some (j : Int)) else (o ())
def gJ (j : (List Int)) (o : Int) : Option (Int) := jK (fun k I n => jN j o k n) (fun _ => some (-1)) ((j.length : Int) : Int).toNat 0 ()
def g_ (j : aO) (bus : Int) : Option (Int) := (gJ j.kV bus).bind fun o => some o
def dY (j : aA) (o : aA) : Option (aA) := (dN j.N o.D).bind fun I => (dN o.N j.D).bind fun J => (gT I J).bind fun R => (dN j.D o.D).bind fun U => (jt R U).bind fun EC => some EC
def k0 (j : aA) : Option (aA) := (gU j.N).bind fun o => some (aA.mk o j.D)
def fA (j : aA) (o : aA) : Option (aA) := (k0 o).bind fun I => (dY j I).bind fun J => some J
def pn (I : Nat) (J : (List aA)) (j : List Nat) (o : List (List aA)) (R : (List Nat × List (List aA)) → Option ((List Nat × List (List aA)))) : Option ((List Nat × List (List aA))) := dL ((([] : List aA).length + J.length) * 64 ≤ 140737488355328) (idx j (I : Int) fun U => R ((j.set (((I : Int) : Int).toNat) o.length), (o ++ [([] : List aA) ++ J])))
def oN (o : (List (List aA))) : Option ((List Nat × List (List aA))) := dL (0 ≤ (o.length : Int) ∧ (o.length : Int) * 24 ≤ 140737488355328) (dJ (fun k y j n => pn k y j.1 j.2 n) (fun j => some (j.1, j.2)) 0 o ((List.replicate ((o.length : Int) : Int).toNat 0), ([[]])))
def cL (j : aA) : Int := (fU j.N)
def kZ (j : aA) (o : aA) : Option (aA) := (dN j.N o.D).bind fun I => (dN j.D o.N).bind fun J => (jt I J).bind fun R => some R
def ke (J : Int) (j : (List Int × Int × List Nat × List (List aA)) → Option ((List Nat × List (List aA)) × (List Int))) (R : List Int) (o : List Nat) (I : List (List aA)) : Option ((List Nat × List (List aA)) × (List Int)) := j (R, i64.wrap (J + 1), o, I)
def fJ (j : List (List aA) → Option ((List Nat × List (List aA)) × (List Int))) (o : List (List aA)) : Option ((List Nat × List (List aA)) × (List Int)) := j o
def iJ (I : Int) (j : (Int × List (List aA)) → Option ((List Nat × List (List aA)) × (List Int))) (o : List (List aA)) : Option ((List Nat × List (List aA)) × (List Int)) := j (i64.wrap (I + 1), o)
def kg (I : List Int) (J : List Nat) (R : Int) (U : Nat) (EC : Nat) (EG : List (List aA) → Option ((List Nat × List (List aA)) × (List Int))) (ED : Nat) (EH : aA) (o : Int) (j : List (List aA)) (EF : (Int × List (List aA)) → Option ((List Nat × List (List aA)) × (List Int))) : Option ((List Nat × List (List aA)) × (List Int)) := idx ((J.set (((I.length : Int) : Int).toNat) U).set ((R : Int).toNat) EC) (ED : Int) fun EI => if decide (o < (((j[EI]?).getD []).length : Int)) then (idx ((J.set (((I.length : Int) : Int).toNat) U).set ((R : Int).toNat) EC) (I.length : Int) fun EJ => idx ((j[EJ]?).getD []) o fun EK => if !decide ((cL EK) = 0) then (idx ((J.set (((I.length : Int) : Int).toNat) U).set ((R : Int).toNat) EC) (ED : Int) fun EE => idx ((J.set (((I.length : Int) : Int).toNat) U).set ((R : Int).toNat) EC) (ED : Int) fun EL => idx ((j[EL]?).getD []) o fun EM => idx ((J.set (((I.length : Int) : Int).toNat) U).set ((R : Int).toNat) EC) (I.length : Int) fun EN => idx ((j[EN]?).getD []) o fun EO => (gV EH EO).bind fun EP => (fA EM EP).bind fun ER => idx ((j[EE]?).getD []) o fun ES => iJ o EF (j.set EE (((j[EE]?).getD []).set ((o : Int).toNat) ER))) else (iJ o EF j)) else (fJ EG j)
def lx (o : List Int) (U : Int) (J : List Nat) (EC : Int) (ED : Nat) (EE : Nat) (I : Nat) (j : List (List aA)) (R : List (List aA) → Option ((List Nat × List (List aA)) × (List Int))) : Option ((List Nat × List (List aA)) × (List Int)) := if decide ((I : Int) = (o.length : Int)) then (fJ R j) else (idx ((J.set (((o.length : Int) : Int).toNat) ED).set ((EC : Int).toNat) EE) (I : Int) fun EG => idx ((j[EG]?).getD []) U fun EH => if decide ((cL EH) = 0) then (fJ R j) else (idx ((J.set (((o.length : Int) : Int).toNat) ED).set ((EC : Int).toNat) EE) (I : Int) fun EI => idx ((j[EI]?).getD []) U fun EJ => gC (fun EF n => kg o J EC ED EE R I EJ EF.1 EF.2 n) fR (U, j)))
def kf (j : List Int) (ED : Int) (o : List Nat) (EG : (List Int × Int × List Nat × List (List aA)) → Option ((List Nat × List (List aA)) × (List Int))) (J : Int) (R : Nat) (U : Nat) (EI : aA) (EC : Int) (I : List (List aA)) (EH : (Int × List (List aA)) → Option ((List Nat × List (List aA)) × (List Int))) : Option ((List Nat × List (List aA)) × (List Int)) := idx ((o.set (((j.length : Int) : Int).toNat) R).set ((J : Int).toNat) U) (j.length : Int) fun EJ => if decide (EC < (((I[EJ]?).getD []).length : Int)) then (idx ((o.set (((j.length : Int) : Int).toNat) R).set ((J : Int).toNat) U) (j.length : Int) fun EE => idx ((o.set (((j.length : Int) : Int).toNat) R).set ((J : Int).toNat) U) (j.length : Int) fun EK => idx ((I[EK]?).getD []) EC fun EL => (kZ EL EI).bind fun EM => idx ((I[EE]?).getD []) EC fun EN => EH (i64.wrap (EC + 1), (I.set EE (((I[EE]?).getD []).set ((EC : Int).toNat) EM)))) else (dL ((((o.set (((j.length : Int) : Int).toNat) R).set ((J : Int).toNat) U).length : Int) ≤ 9223372036854775807) (jK (fun k EF n => lx j ED o J R U k EF n) (fun EF => dL ((j.length + ([ED] : List Int).length) * 8 ≤ 140737488355328) (ke ED EG (j ++ ([ED] : List Int)) ((o.set (((j.length : Int) : Int).toNat) R).set ((J : Int).toNat) U) EF)) ((((o.set (((j.length : Int) : Int).toNat) R).set ((J : Int).toNat) U).length : Int) : Int).toNat 0 I))
def ki (o : List Int) (J : Int) (j : List Nat) (R : List (List aA)) (EC : (List Int × Int × List Nat × List (List aA)) → Option ((List Nat × List (List aA)) × (List Int))) (I : Int) : Option ((List Nat × List (List aA)) × (List Int)) := if decide (I = (j.length : Int)) then (ke J EC o j R) else (idx j I fun U => idx j (o.length : Int) fun ED => idx j (o.length : Int) fun EH => idx (j.set (((o.length : Int) : Int).toNat) U) I fun EI => idx ((j.set (((o.length : Int) : Int).toNat) U).set ((I : Int).toNat) ED) (o.length : Int) fun EF => idx ((R[EF]?).getD []) J fun EG => gC (fun EE n => kf o J j EC I U ED EG EE.1 EE.2 n) fR (J, R))
def mQ (U : List Int) (J : Int) (j : List Nat) (I : List (List aA)) (R : (List Int × Int × List Nat × List (List aA)) → Option ((List Nat × List (List aA)) × (List Int))) (o : Int) (EC : Int → Option ((List Nat × List (List aA)) × (List Int))) : Option ((List Nat × List (List aA)) × (List Int)) := if decide (o < (j.length : Int)) then (idx j o fun ED => idx ((I[ED]?).getD []) J fun EE => if decide ((cL EE) = 0) then (EC (i64.wrap (o + 1))) else (ki U J j I R o)) else (ki U J j I R o)
def iI (cols : Int) (j : List Int) (J : Int) (o : List Nat) (I : List (List aA)) (R : (List Int × Int × List Nat × List (List aA)) → Option ((List Nat × List (List aA)) × (List Int))) : Option ((List Nat × List (List aA)) × (List Int)) := if (decide (J < cols)) && (decide ((j.length : Int) < (o.length : Int))) then (gC (fun U n => mQ j J o I R U n) fR (j.length : Int)) else (some ((o, I), j))
def lL (I : (List (List aA))) (cols : Int) : Option ((List Nat × List (List aA)) × (List Int)) := (oN I).bind fun o => gC (fun j n => iI cols j.1 j.2.1 j.2.2.1 j.2.2.2 n) fR (([] : List Int), 0, o.1, o.2)
def nC (R : (List (List aA))) (J : Nat) (j : List Nat) (I : List (List aA)) (U : (List Nat × List (List aA)) → Option ((List (List aA)) × Bool)) : Option ((List (List aA)) × Bool) := idx j (J : Int) fun o => dL (0 ≤ (R.length : Int) ∧ (R.length : Int) ≤ (((I[o]?).getD []).length : Int)) (idx j (J : Int) fun EC => dL (lone j (((J : Int) : Int).toNat) o = true) (U ((j.set (((J : Int) : Int).toNat) o), (I.set o (((I[o]?).getD []).drop ((R.length : Int) : Int).toNat)))))
def nB (R : (List (List aA))) (j : Nat) (J : List Nat) (o : List (List aA)) (ED : (List Nat × List (List aA)) → Option ((List (List aA)) × Bool)) : Option ((List (List aA)) × Bool) := idx R (j : Int) fun I => dL ((([] : List aA).length + I.length) * 64 ≤ 140737488355328) ((ku (R.length : Int)).bind fun U => dL (((([] : List aA) ++ I).length + U.length) * 64 ≤ 140737488355328) (idx J (j : Int) fun EF => idx (J.set (((j : Int) : Int).toNat) o.length) (j : Int) fun EC => (ju 1).bind fun EE => idx (((o ++ [(([] : List aA) ++ I) ++ U])[EC]?).getD []) (i64.wrap ((R.length : Int) + (j : Int))) fun EG => ED ((J.set (((j : Int) : Int).toNat) o.length), ((o ++ [(([] : List aA) ++ I) ++ U]).set EC ((((o ++ [(([] : List aA) ++ I) ++ U])[EC]?).getD []).set ((i64.wrap ((R.length : Int) + (j : Int)) : Int).toNat) EE)))))
def k8 (j : (List (List aA))) : Option ((List (List aA)) × Bool) := dL (0 ≤ (j.length : Int) ∧ (j.length : Int) * 24 ≤ 140737488355328) (jK (fun k o n => nB j k o.1 o.2 n) (fun o => (lL (lY o.1 o.2) (j.length : Int)).bind fun I => if decide ((I.2.length : Int) < (j.length : Int)) then (some ([], false)) else (dL ((I.1.1.length : Int) ≤ 9223372036854775807) (jK (fun k J n => nC j k J.1 J.2 n) (fun J => some (lY J.1 J.2, true)) ((I.1.1.length : Int) : Int).toNat 0 (I.1.1, I.1.2)))) ((j.length : Int) : Int).toNat 0 ((List.replicate ((j.length : Int) : Int).toNat 0), ([[]])))
def dP (j : List (List aA) → Option (aO)) (o : List (List aA)) : Option (aO) := j o
def eO (R : List Nat) (ED : List (List aA) → Option (aO)) (EE : aA) (J : (Int)) (o : (Int)) (j : List (List aA)) : Option (aO) := if (decide (0 ≤ J)) && (decide (0 ≤ o)) then (idx R J fun I => idx R o fun U => idx R J fun EF => idx ((j[EF]?).getD []) o fun EG => (fA EG EE).bind fun EC => idx R o fun EH => idx ((j[EH]?).getD []) J fun EI => (fA EI EE).bind fun EJ => idx ((j[I]?).getD []) o fun EK => idx (((j.set I (((j[I]?).getD []).set ((o : Int).toNat) EC))[U]?).getD []) J fun EL => dP ED ((j.set I (((j[I]?).getD []).set ((o : Int).toNat) EC)).set U ((((j.set I (((j[I]?).getD []).set ((o : Int).toNat) EC))[U]?).getD []).set ((J : Int).toNat) EJ))) else (dP ED j)
def eP (I : List Nat) (U : List (List aA) → Option (aO)) (J : aA) (EC : (Int)) (j : (Int)) (o : List (List aA)) : Option (aO) := if decide (0 ≤ j) then (idx I j fun R => idx I j fun ED => idx ((o[ED]?).getD []) j fun EE => (dY EE J).bind fun EF => idx ((o[R]?).getD []) j fun EG => eO I U J EC j (o.set R (((o[R]?).getD []).set ((j : Int).toNat) EF))) else (eO I U J EC j o)
def fS (I : aO) (J : List Nat) (ED : Nat) (U : aA) (o : List (List aA)) (R : List (List aA) → Option (aO)) : Option (aO) := idx I.gY (ED : Int) fun EF => (g_ I EF).bind fun j => idx I.To (ED : Int) fun EG => (g_ I EG).bind fun EE => idx I.gY (ED : Int) fun EH => idx I.To (ED : Int) fun EI => if decide (EH = EI) then (dP R o) else (if decide (0 ≤ j) then (idx J j fun EC => idx J j fun EJ => idx ((o[EJ]?).getD []) j fun EK => (dY EK U).bind fun EL => idx ((o[EC]?).getD []) j fun EM => eP J R U j EE (o.set EC (((o[EC]?).getD []).set ((j : Int).toNat) EL))) else (eP J R U j EE o))
def kR (R : aO) (I : Nat) (j : List Nat) (o : List (List aA)) (J : (List Nat × List (List aA)) → Option (aO)) : Option (aO) := (ku (R.kV.length : Int)).bind fun U => idx j (I : Int) fun EC => J ((j.set (((I : Int) : Int).toNat) o.length), (o ++ [U]))
def iR (j : aO) : Option (aO) := dL (0 ≤ (j.kV.length : Int) ∧ (j.kV.length : Int) * 24 ≤ 140737488355328) (dL (((List.replicate ((j.kV.length : Int) : Int).toNat 0).length : Int) ≤ 9223372036854775807) (jK (fun k o n => kR j k o.1 o.2 n) (fun o => dJ (fun k y I n => fS j o.1 k y I n) (fun I => (k8 (lY o.1 I)).bind fun J => some (aO.mk j.pj j.gY j.To j.B_ j.C j.kV J.1)) 0 j.B_ o.2) (((List.replicate ((j.kV.length : Int) : Int).toNat 0).length : Int) : Int).toNat 0 ((List.replicate ((j.kV.length : Int) : Int).toNat 0), ([[]]))))
def lJ (o : (List (Int × Bool))) (j : ((List (Int × Bool)) × List Int) → Option ((Option aO))) (I : Int) (J : List Int) : Option ((Option aO)) := j ((oV o I true), J)
def pW (R : Nat) (j : Int) (o : (List (Int × Bool))) (I : List Int) (J : ((List (Int × Bool)) × List Int) → Option ((Option aO))) : Option ((Option aO)) := if (lX o j).getD false then (dL ((I.length + ([((R : Int))] : List Int).length) * 8 ≤ 140737488355328) (lJ o J j (I ++ ([((R : Int))] : List Int)))) else (lJ o J j I)
def pV (I : aJ) (J : (aN)) (EL : Nat) (j : cA) (R : List Int) (U : List Int) (EC : List aA) (ED : List aA) (EH : (List Int × List Int × List aA × List aA) → Option ((Option aO))) : Option ((Option aO)) := (aZ I.bJ j.gY).bind fun EI => idx J.iW EI fun EE => dL ((R.length + ([EE] : List Int).length) * 8 ≤ 140737488355328) ((aZ I.bJ j.To).bind fun EJ => idx J.iW EJ fun EF => dL ((U.length + ([EF] : List Int).length) * 8 ≤ 140737488355328) ((lK 1000000 (i64.wrap (j.X * j.qn))).bind fun o => dL ((EC.length + ([o]).length) * 64 ≤ 140737488355328) ((lK (i64.wrap (0 - j.Shift)) 1000).bind fun EK => (gV o EK).bind fun EG => dL ((ED.length + ([EG]).length) * 64 ≤ 140737488355328) (EH ((R ++ ([EE] : List Int)), (U ++ ([EF] : List Int)), (EC ++ ([o])), (ED ++ ([EG])))))))
def ox (I : aJ) : Option ((Option aO)) := (cK I).bind fun J => dJ (fun k y j n => pV I J k y j.1 j.2.1 j.2.2.1 j.2.2.2 n) (fun j => dJ (fun k y o n => pW k y o.1 o.2 n) (fun o => (iR (aO.mk J j.1 j.2.1 j.2.2.1 j.2.2.2 o.2 [])).bind fun R => some (some R)) 0 J.aW (([] : (List (Int × Bool))), ([] : List Int))) 0 I.bE (([] : List Int), ([] : List Int), ([] : List aA), ([] : List aA))
def bY (j : aO) : Int := (j.pj.aW.length : Int)
def lC (R : Nat) (J : Int) (j : List aA) (I : List aA → Option ((List aA))) : Option ((List aA)) := (ju J).bind fun o => dL ((j.length + ([o]).length) * 64 ≤ 140737488355328) (I (j ++ ([o])))
def lB (J : aO) (R : Nat) (U : Int) (j : List Int) (I : List Int → Option ((List aA))) : Option ((List aA)) := idx J.pj.iW (R : Int) fun o => idx j o fun EC => idx j o fun ED => I (j.set ((o : Int).toNat) (i64.wrap (EC + U)))
def jV (j : aO) (inject : (List Int)) : Option ((List aA)) := dL (0 ≤ (bY j) ∧ (bY j) * 8 ≤ 140737488355328) (dJ (fun k y o n => lB j k y o n) (fun o => dJ (fun k y I n => lC k y I n) (fun I => some I) 0 o ([] : List aA)) 0 inject (List.replicate ((bY j) : Int).toNat (0 : Int)))
def iD (j : (Bool × (List bA) × Bool × (List bA)) → Option (aA)) (o : Bool) (I : (List bA)) (J : Bool) (R : (List bA)) : Option (aA) := j (o, I, J, R)
def oG (ED : (List aA)) (EE : (List aA)) (o : Nat) (J : Bool) (R : (List bA)) (U : Bool) (EC : (List bA)) (j : (Bool × (List bA) × Bool × (List bA)) → Option (aA)) : Option (aA) := idx ED (o : Int) fun EF => if decide ((cL EF) = 0) then (iD j J R U EC) else (idx EE (o : Int) fun EG => if !decide ((cL EG) = 0) then (idx ED (o : Int) fun EH => idx EE (o : Int) fun EI => (gV EH EI).bind fun EJ => (dY (aA.mk (aB.mk J R) (aB.mk U EC)) EJ).bind fun I => iD j I.N.minus I.N.words I.D.minus I.D.words) else (iD j J R U EC))
def nM (I : (List aA)) (J : (List aA)) : Option (aA) := (ju 0).bind fun o => jK (fun k j n => oG I J k j.1 j.2.1 j.2.2.1 j.2.2.2 n) (fun j => some (aA.mk (aB.mk j.1 j.2.1) (aB.mk j.2.2.1 j.2.2.2))) ((I.length : Int) : Int).toNat 0 (o.N.minus, o.N.words, o.D.minus, o.D.words)
def kQ (J : aO) (R : List aA) (U : Nat) (j : Int) (o : List aA) (I : List aA → Option ((List aA))) : Option ((List aA)) := idx J.lH (U : Int) fun EC => (nM EC R).bind fun ED => idx o j fun EE => I (o.set ((j : Int).toNat) ED)
def kP (J : (List aA)) (j : Nat) (R : Int) (o : List aA) (I : List aA → Option ((List aA))) : Option ((List aA)) := idx J R fun U => idx o (j : Int) fun EC => I (o.set (((j : Int) : Int).toNat) U)
def iQ (j : aO) (J : (List aA)) : Option ((List aA)) := dL (0 ≤ (j.kV.length : Int) ∧ (j.kV.length : Int) * 64 ≤ 140737488355328) (dJ (fun k y o n => kP J k y o n) (fun o => (ku (bY j)).bind fun R => dJ (fun k y I n => kQ j o k y I n) (fun I => some I) 0 j.kV R) 0 j.kV (List.replicate ((j.kV.length : Int) : Int).toNat ((aA.mk (aB.mk false []) (aB.mk false [])) : aA)))
def iY (o : aO) (I : Nat) (U : aA) (j : List aA) (ED : List aA → Option ((List aA))) : Option ((List aA)) := idx o.gY (I : Int) fun J => idx o.gY (I : Int) fun EE => idx j EE fun EF => (fA EF U).bind fun R => idx j J fun EJ => idx o.To (I : Int) fun EC => idx o.To (I : Int) fun EG => idx (j.set ((J : Int).toNat) R) EG fun EH => (dY EH U).bind fun EI => idx (j.set ((J : Int).toNat) R) EC fun EK => ED ((j.set ((J : Int).toNat) R).set ((EC : Int).toNat) EI)
def iP (j : aO) (I : (List aA)) : Option ((List aA)) := dL (I.length * 64 ≤ 140737488355328) (dJ (fun k y o n => iY j k y o n) (fun o => (iQ j o).bind fun J => some J) 0 j.C I)
def gM (n291 : Int) (I : (Int × List U8) → Option (ByteArray × Bool)) (j : bA) (o : List U8) : Option (ByteArray × Bool) := dL (o.length + (mK (u64.wrap (j.n))).size ≤ 140737488355328) (I (i64.wrap (n291 - 1), (o ++ fC (mK (u64.wrap (j.n))))))
def gO (j : List U8) (o : ByteArray) : Option (ByteArray × Bool) := some (o, (decide (((rA j).size : Int) ≤ 2000)))
def kC (R : aB) (J : List bA) (n291 : Int) (j : List U8) (I : (Int × List U8) → Option (ByteArray × Bool)) : Option (ByteArray × Bool) := if decide (0 ≤ n291) then (idx J n291 fun o => dL (0 ≤ (u64.wrap (o.n)) ∧ (u64.wrap (o.n)) ≤ 18446744073709551615) (if decide (n291 < (i64.wrap ((J.length : Int) - 1))) then (dL (0 ≤ ((mK (u64.wrap (o.n))).size : Int) ∧ ((mK (u64.wrap (o.n))).size : Int) ≤ ((⟨#[48, 48, 48, 48, 48, 48, 48, 48, 48]⟩ : ByteArray).size : Int)) (dL (j.length + ((⟨#[48, 48, 48, 48, 48, 48, 48, 48, 48]⟩ : ByteArray).extract ((((mK (u64.wrap (o.n))).size : Int) : Int).toNat) ((⟨#[48, 48, 48, 48, 48, 48, 48, 48, 48]⟩ : ByteArray).size)).size ≤ 140737488355328) (gM n291 I o (j ++ fC ((⟨#[48, 48, 48, 48, 48, 48, 48, 48, 48]⟩ : ByteArray).extract ((((mK (u64.wrap (o.n))).size : Int) : Int).toNat) ((⟨#[48, 48, 48, 48, 48, 48, 48, 48, 48]⟩ : ByteArray).size)))))) else (gM n291 I o j))) else (dL (0 < j.length) (if R.minus then (dL ((⟨#[45]⟩ : ByteArray).size + (rA j).size ≤ maxLen) (gO j ((⟨#[45]⟩ : ByteArray) ++ (rA j)))) else (gO j (rA j))))
def lS (U : aB) (j : List bA) (I : (List bA)) (R : (List bA × (List bA)) → Option (ByteArray × Bool)) : Option (ByteArray × Bool) := if decide (0 < (I.length : Int)) then ((jy I 1000000000).bind fun o => dL ((j.length + ([⟨o.2⟩] : List bA).length) * 4 ≤ 140737488355328) ((eJ false o.1).bind fun EC => R ((j ++ ([⟨o.2⟩] : List bA)), EC.words))) else (gC (fun J n => kC U j J.1 J.2 n) fR (i64.wrap ((j.length : Int) - 1), ([] : List U8)))
def fV (j : aB) : Option (ByteArray × Bool) := if decide ((j.words.length : Int) = 0) then (some ((⟨#[48]⟩), true)) else (if decide (210 < (j.words.length : Int)) then (some ((⟨#[]⟩), false)) else (gC (fun o n => lS j o.1 o.2 n) fR (([] : List bA), j.words)))
def kF (I : aA) : Option (ByteArray × Bool) := (fV I.N).bind fun j => if !j.2 then (some ((⟨#[]⟩), false)) else ((fV I.D).bind fun o => if decide (o.1 = (⟨#[49]⟩)) then (some (j.1, o.2)) else (dL (j.1.size + (⟨#[47]⟩ : ByteArray).size ≤ maxLen) (dL ((j.1 ++ (⟨#[47]⟩)).size + o.1.size ≤ maxLen) (some (((j.1 ++ (⟨#[47]⟩)) ++ o.1), o.2)))))
def nA (j : Nat) (R : aA) (o : List ByteArray) (J : List ByteArray → Option ((List ByteArray) × Bool)) : Option ((List ByteArray) × Bool) := (kF R).bind fun I => if !I.2 then (some (([] : List ByteArray), false)) else (idx o (j : Int) fun U => J (o.set (((j : Int) : Int).toNat) I.1))
def nH (j : (List aA)) : Option ((List ByteArray) × Bool) := dL (0 ≤ (j.length : Int) ∧ (j.length : Int) * 16 ≤ 140737488355328) (dJ (fun k y o n => nA k y o n) (fun o => some (o, true)) 0 j (List.replicate ((j.length : Int) : Int).toNat ((⟨#[]⟩) : ByteArray)))
def jA (o : (List aA)) : Option ((List ByteArray) × Int) := (nH o).bind fun j => if !j.2 then (some (([] : List ByteArray), 2)) else (some (j.1, 0))
def k_ (j : aO) (I : (List aA)) (o : Nat) (EC : aA) (J : List aA) (U : List aA → Option ((List aA))) : Option ((List aA)) := idx j.B_ (o : Int) fun ED => idx j.gY (o : Int) fun EE => idx I EE fun EF => idx j.To (o : Int) fun EG => idx I EG fun EH => (fA EF EH).bind fun EI => (gV ED EI).bind fun EJ => (dY EJ EC).bind fun R => dL ((J.length + ([R]).length) * 64 ≤ 140737488355328) (U (J ++ ([R])))
def jD (o : aO) (I : (List aA)) : Option ((List aA)) := dJ (fun k y j n => k_ o I k y j n) (fun j => some j) 0 o.C ([] : List aA)
def jW (j : aJ) (inject : (List Int)) : Option (i_ × Int) := (iC j inject).bind fun o => if !decide (o = 0) then (some ((i_.mk [] []), o)) else ((ox j).bind fun U => zt U none (fun sp108 => (jV sp108 inject).bind fun EC => (iP sp108 EC).bind fun I => (jA I).bind fun J => (jD sp108 I).bind fun ED => (jA ED).bind fun R => if (!decide (J.2 = 0)) || (!decide (R.2 = 0)) then (some ((i_.mk [] []), 2)) else (some ((i_.mk J.1 R.1), 0))))
def cR (o : ByteArray) (j : ByteArray) : Option (Bool) := if decide ((j.size : Int) ≤ (o.size : Int)) then (dL (0 ≤ (j.size : Int) ∧ (j.size : Int) ≤ (o.size : Int)) (some (decide ((o.extract 0 (((j.size : Int) : Int).toNat)) = j)))) else (some false)
def eB (o : ByteArray) (j : ByteArray) : Option (ByteArray) := (cR o j).bind fun I => if I then (dL (0 ≤ (j.size : Int) ∧ (j.size : Int) ≤ (o.size : Int)) (some (o.extract (((j.size : Int) : Int).toNat) o.size))) else (some o)
def f_ (o : ByteArray) (j : ByteArray) : Option (ByteArray) := (eB o j).bind fun I => some I
def dF (j : ByteArray) (o : Int) : Int := (Dm j o)
def dX (j : ByteArray) (substr : ByteArray) : Option (Int) := if (decide ((substr.size : Int) = 0)) || (decide (substr = j)) then (some 0) else (if decide ((substr.size : Int) = 1) then (idx (fC substr) 0 fun o => some (dF j o.n)) else (if decide ((j.size : Int) ≤ (substr.size : Int)) then (some (-1)) else none))
def eU (j : ByteArray) (sep : ByteArray) : Option (ByteArray × ByteArray × Bool) := (dX j sep).bind fun o => if decide (0 ≤ o) then (dL (0 ≤ o ∧ o ≤ (j.size : Int)) (dL (0 ≤ (i64.wrap (o + (sep.size : Int))) ∧ (i64.wrap (o + (sep.size : Int))) ≤ (j.size : Int)) (some ((j.extract 0 ((o : Int).toNat)), (j.extract ((i64.wrap (o + (sep.size : Int)) : Int).toNat) j.size), true)))) else (some (j, (⟨#[]⟩), false))
def kx (o : ByteArray) (sep : ByteArray) : Option (ByteArray × ByteArray × Bool) := (eU o sep).bind fun j => some (j.1, j.2.1, j.2.2)
def oP (I : Nat) (j : U8) (o : Unit → Option (Int)) : Option (Int) := if (decide (j.n < 48)) || (decide (57 < j.n)) then (some 5) else (o ())
def kL (j : ByteArray) : Option (Int) := dL (j.size ≤ maxLen) (dJ (fun k y I n => oP k y n) (fun _ => if decide (j = (⟨#[]⟩)) then (some 5) else (if decide (1 < (j.size : Int)) then (idx (fC j) 0 fun o => if decide (o.n = 48) then (some 5) else (if decide (2000 < (j.size : Int)) then (some 2) else (some 0))) else (if decide (2000 < (j.size : Int)) then (some 2) else (some 0)))) 0 (fC j) ())
def iV (o : ByteArray) (j : ByteArray) : Option (Bool) := (cR o j).bind fun I => some I
def mg (o : (Bool)) (I : Bool) (j : (List bA)) : Option (aB) := if o then (some (aB.mk (decide (0 < (j.length : Int))) j)) else (some (aB.mk false j))
def nU (U : (Bool)) (j : ByteArray) (o : Bool) (I : (List bA)) (R : (ByteArray × Bool × (List bA)) → Option (aB)) : Option (aB) := if decide (0 < (j.size : Int)) then (dL (0 ≤ (i64.wrap ((Int.tmod (i64.wrap ((j.size : Int) - 1)) 9) + 1)) ∧ (i64.wrap ((Int.tmod (i64.wrap ((j.size : Int) - 1)) 9) + 1)) ≤ (j.size : Int)) (dL ((j.extract 0 ((i64.wrap ((Int.tmod (i64.wrap ((j.size : Int) - 1)) 9) + 1) : Int).toNat)).size ≠ 0 ∧ (j.extract 0 ((i64.wrap ((Int.tmod (i64.wrap ((j.size : Int) - 1)) 9) + 1) : Int).toNat)).size ≤ 281474976710656 ∧ (Ba (j.extract 0 ((i64.wrap ((Int.tmod (i64.wrap ((j.size : Int) - 1)) 9) + 1) : Int).toNat))).2 = false) ((jF 1000000000).bind fun EC => (dN (aB.mk o I) EC).bind fun ED => (jF (i64.wrap ((Ba (j.extract 0 ((i64.wrap ((Int.tmod (i64.wrap ((j.size : Int) - 1)) 9) + 1) : Int).toNat))).1))).bind fun EE => (gT ED EE).bind fun J => dL (0 ≤ (i64.wrap ((Int.tmod (i64.wrap ((j.size : Int) - 1)) 9) + 1)) ∧ (i64.wrap ((Int.tmod (i64.wrap ((j.size : Int) - 1)) 9) + 1)) ≤ (j.size : Int)) (R (j.extract ((i64.wrap ((Int.tmod (i64.wrap ((j.size : Int) - 1)) 9) + 1) : Int).toNat) j.size, J.minus, J.words))))) else (mg U o I)
def jZ (o : ByteArray) : Option (aB) := (iV o (⟨#[45]⟩)).bind fun I => (f_ o (⟨#[45]⟩)).bind fun J => gC (fun j n => nU I j.1 j.2.1 j.2.2 n) fR (J, false, [])
def pZ (I : ByteArray) (J : ByteArray) (R : Nat) (o : Unit → Option (aB × aB × Int)) : Option (aB × aB × Int) := idx [I, J] (R : Int) fun U => (kL U).bind fun j => if !decide (j = 0) then (some ((aB.mk false []), (aB.mk false []), j)) else (o ())
def pM (j : ByteArray) (o : ByteArray) : Option (aB × aB × Int) := jK (fun k R n => pZ j o k n) (fun _ => (jZ j).bind fun I => (jZ o).bind fun J => some (I, J, 0)) (2 : Int).toNat 0 ()
def pY (o : aB) : Option (ByteArray × Int) := (fV o).bind fun j => if !j.2 then (some ((⟨#[]⟩), 2)) else (some (j.1, 0))
def pL (I : ByteArray) (J : ByteArray) : Option (ByteArray × Int) := (pM I J).bind fun j => if !decide (j.2.2 = 0) then (some ((⟨#[]⟩), j.2.2)) else ((kK j.1 j.2.1).bind fun R => (pY R).bind fun o => some (o.1, o.2))
def mS : Option (Int) := some 0
def iF (I : ByteArray) (J : (ByteArray)) (j : (ByteArray × ByteArray × Bool)) (o : (Int)) (n110 : Int) : Option (Int) := if ((decide (o = 5)) || (decide (n110 = 5))) || ((decide (j.1 = (⟨#[48]⟩))) && (decide ((J.size : Int) < (I.size : Int)))) then (some 5) else (if (!decide (o = 0)) || (!decide (n110 = 0)) then (some 2) else (if j.2.2 then ((pL j.1 j.2.1).bind fun R => if ((decide (j.2.1 = (⟨#[48]⟩))) || (decide (j.2.1 = (⟨#[49]⟩)))) || (!decide (R.1 = (⟨#[49]⟩))) then (some 3) else mS) else mS))
def kM (o : ByteArray) : Option (Int) := (f_ o (⟨#[45]⟩)).bind fun I => (kx I (⟨#[47]⟩)).bind fun j => (kL j.1).bind fun J => if j.2.2 then ((kL j.2.1).bind fun R => iF o I j J R) else (iF o I j J 0)
def mR (J : Nat) (I : ByteArray) (o : Unit → Option (Int)) : Option (Int) := (kM I).bind fun j => if !decide (j = 0) then (some j) else (o ())
def lD (j : (List ByteArray)) : Option (Int) := dJ (fun k y o n => mR k y n) (fun _ => some 0) 0 j ()
def kn (j : (List ByteArray)) : Option (Int) := if decide (40 < (j.length : Int)) then (some 2) else ((lD j).bind fun o => some o)
def gB (o : (List ByteArray)) (I : (List ByteArray)) (j : Nat) (J : Unit → Option (Bool)) : Option (Bool) := idx o (j : Int) fun R => idx I (j : Int) fun U => if !decide (R = U) then (some false) else (J ())
def cZ (j : (List ByteArray)) (o : (List ByteArray)) : Option (Bool) := if !decide ((j.length : Int) = (o.length : Int)) then (some false) else (jK (fun k I n => gB j o k n) (fun _ => some true) ((j.length : Int) : Int).toNat 0 ())
def nr (J : Nat) (I : (List ByteArray)) (o : Unit → Option (Int)) : Option (Int) := (kn I).bind fun j => if !decide (j = 0) then (some j) else (o ())
def k6 (o : aJ) (inject : (List Int)) (j : i_) : Option (Int) := (iC o inject).bind fun J => if !decide (J = 0) then (some J) else ((ox o).bind fun R => zt R none (fun sp108 => if decide ((j.lA.length : Int) = (bY sp108)) then (if !decide ((j.oB.length : Int) = (o.bE.length : Int)) then (some 3) else (dJ (fun k y ED n => nr k y n) (fun _ => (jW o inject).bind fun I => if decide (I.2 = 0) then ((cZ I.1.lA j.lA).bind fun U => if U then ((cZ I.1.oB j.oB).bind fun EC => if !EC then (some 21) else (some 0)) else (some 21)) else (some 21)) 0 ([j.lA, j.oB]) ())) else (some 3)))
def cY (J : aJ) : Option (Bool) := (kB J).bind fun o => (fT o).bind fun j => if !decide (j.2 = 0) then ((eI).bind fun R => some (R && (decide ((j.1.length : Int) = 0)))) else ((jW o j.1).bind fun I => (eI).bind fun U => if U then ((iC o j.1).bind fun EC => if decide (EC = 0) then (if decide (I.2 = 0) then ((k6 o j.1 I.1).bind fun ED => some (decide (ED = 0))) else (some false)) else (some false)) else (some false))
end Go.Sim
namespace Go.Sim
open Go Go.RowKit
open _root_.Go.IntKind (i64 u64 u32 u8)
def Gd {R : Type} (o : Option R) (Q : R → Prop) : Prop := ∃ r, o = some r ∧ Q r
section
variable {R α β σ : Type} {Q Q' : R → Prop}
theorem Gd.mono {o : Option R} (h : Gd o Q) (k : ∀ r, Q r → Q' r) : Gd o Q' := by
 obtain ⟨r, e, q⟩ := h; exact ⟨r, e, k r q⟩
theorem Gd.ret {r : R} (h : Q r) : Gd (some r) Q := ⟨r, rfl, h⟩
theorem Gd.nd {p : Prop} [Decidable p] {k : Option R} (h : p) (hk : Gd k Q) : Gd (dL p k) Q := by
 unfold Sim.dL; rw [E_ h]; exact hk
theorem Gd.e_ {o : Option α} {k : α → Option R} {P : α → Prop} (h : Gd o P) (hk : ∀ a, P a → Gd (k a) Q) : Gd (o.bind k) Q := by
 obtain ⟨a, rfl, q⟩ := h; exact hk a q
theorem Gd.bind_eq {o : Option α} {a : α} {k : α → Option R} (h : o = some a) (hk : Gd (k a) Q) : Gd (o.bind k) Q := by
 subst h; exact hk
theorem Gd.ite {b : Bool} {p q : Option R} (h1 : b = true → Gd p Q) (h2 : b = false → Gd q Q) : Gd (if b = true then p else q) Q := by
 cases b
 ·simpa using h2 rfl
 ·simpa using h1 rfl
theorem Gd.ix {l : List α} {i : Int} {k : α → Option R} {y : α} (h0 : 0 ≤ i) (hy : l[i.toNat]? = some y) (hk : Gd (k y) Q) : Gd (idx l i k) Q := by
 unfold Sim.idx; rw [E_ h0, hy]; exact hk
theorem Gd.jS {l : List α} {i : Nat} {k : α → Option R} (h : i < l.length) (hk : Gd (k l[i]) Q) : Gd (Sim.idx l (i : Int) k) Q :=
 Gd.ix (by omega) (EZ (by simpa using h)) hk
theorem Gd.dJ {body : Nat → α → σ → (σ → Option R) → Option R} {k : σ → Option R} (I : Nat → List α → σ → Prop)
  (hb : ∀ i y ys s n, I i (y :: ys) s → (∀ s', I (i + 1) ys s' → Gd (n s') Q) → Gd (body i y s n) Q) (hk : ∀ i s, I i [] s → Gd (k s) Q) :
  ∀ (l : List α) (i : Nat) (s : σ), I i l s → Gd (dJ body k i l s) Q
 | [], i, s, h => hk i s h
 | y :: ys, i, s, h => hb i y ys s _ h (fun s' h' => Gd.dJ I hb hk ys (i + 1) s' h')
theorem Gd.jK {body : Nat → σ → (σ → Option R) → Option R} {k : σ → Option R} (I : Nat → Nat → σ → Prop)
  (hb : ∀ m i s n, I (m + 1) i s → (∀ s', I m (i + 1) s' → Gd (n s') Q) → Gd (body i s n) Q) (hk : ∀ i s, I 0 i s → Gd (k s) Q) :
  ∀ (m i : Nat) (s : σ), I m i s → Gd (jK body k m i s) Q
 | 0, i, s, h => hk i s h
 | m + 1, i, s, h => hb m i s _ h (fun s' h' => Gd.jK I hb hk m (i + 1) s' h')
theorem Gd.gC {body : σ → (σ → Option R) → Option R} (I : σ → Prop) (μ : σ → Nat)
  (hb : ∀ s n, I s → (∀ s', I s' → μ s' < μ s → Gd (n s') Q) → Gd (body s n) Q) :
  ∀ (m : Nat) (s : σ), I s → μ s < m → Gd (gC body m s) Q
 | 0, s, _, h => by omega
 | m + 1, s, hI, h => hb s _ hI (fun s' h' hlt => Gd.gC I μ hb m s' h' (by omega))
theorem Gd.eq {o : Option R} {r : R} : Gd o (fun x => x = r) ↔ o = Option.some r := by
 constructor
 ·rintro ⟨x, h, rfl⟩; exact h
 ·intro h; exact ⟨r, h, rfl⟩
end
theorem bN {n : Int} (h : -9223372036854775808 ≤ n ∧ n ≤ 9223372036854775807) : i64.wrap n = n := qA h.1 h.2
theorem Gd.seen {R α σ : Type} {Q : R → Prop} {body : Nat → α → σ → (σ → Option R) → Option R} {k : σ → Option R} {l : List α} (I : List α → σ → Prop)
  (hb : ∀ i y s n pre, (∃ post, l = pre ++ y :: post) → I pre s → (∀ s', I (pre ++ [y]) s' → Gd (n s') Q) → Gd (body i y s n) Q) (hk : ∀ s, I l s → Gd (k s) Q) (s : σ) (hs : I [] s) : Gd (Sim.dJ body k 0 l s) Q := by
 have key : ∀ (ys pre : List α) (i : Nat) (s : σ), l = pre ++ ys → I pre s → Gd (Sim.dJ body k i ys s) Q := by
  intro ys
  induction ys with
  | nil => intro pre i s hl hs; rw [FY] at hl; subst hl; exact hk s hs
  | cons y ys ih =>
   intro pre i s hl hs
   exact hb i y s _ pre ⟨ys, hl⟩ hs (fun s' hs' => ih (pre ++ [y]) (i + 1) s' (by rw [hl]; simp) hs')
 exact key l [] 0 s rfl hs
theorem pz {α : Type} {l pre : List α} {y : α} (h : ∃ post, l = pre ++ y :: post) : pre.length < l.length ∧ y ∈ l ∧ ∀ x ∈ pre, x ∈ l := by
 obtain ⟨post, rfl⟩ := h
 exact ⟨by simp, by simp, fun x hx => E0 _ hx⟩
end Go.Sim
