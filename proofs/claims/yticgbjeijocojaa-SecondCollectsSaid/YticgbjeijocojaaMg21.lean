/-
  Collect, from its entry to the making of its group.
  Collect, from its entry to the making of its group: the walk.
  Goroutine 0 comes to its turn; one step of its own that makes a group; the end of the run.
  What Collect answers; goroutine 0's blocks; from Collect's entry to the frame behind its pool.
  Collect: the data of its pool, and the way on behind it.
  Collect, from its entry to its return, beside leavers.
  Collect's contract: paid by the pool's law.
  A slice whose elements are slices, all owned: one resource.
  own[k] = append(own[k], m): the whole region.
-/
import Derived.Test.YticgbjeijocojaaMg20
import Derived.Conc.SmallLaws
import Derived.Test.YticgbjeijocojaaMg15
set_option linter.unusedVariables false
set_option linter.unusedSimpArgs false
section
set_option linter.unusedVariables false
set_option linter.unusedSimpArgs false
set_option maxRecDepth 100000
set_option maxHeartbeats 4000000
namespace Go.Sim
open Go Go.Conc Go.Proofs.Try

section
variable {P : Program} {x : Cx P} {ops : Array Oper} {Q : Post} {rest : List Oper} {H : Hp} {M : List Res} {L : Env} {d : Nat} {ty : TypeId} {pos : String} {aft : Array Edge} {g : Option (Nat × Bool)}
theorem rep_eq {m : Nat} {z0 : Value} : ((Array.range m).map fun j => #[z0][j % 1]!) = (List.replicate m z0).toArray := by
  apply Array.ext'
  simp [Nat.mod_one, List.map_const']
/-- A slice of one-cell elements, its block told. -/
theorem W_makeObj {t e : TypeId} {bytes m : Nat} {z z0 : Value} {y y2 : Operand}
    (hg : gd ops L ⟨some d, .makeSlice t y y2, ty, pos, aft, g⟩ = some true) (hN : Nat.blt d x.N = true)
    (hT : P.underlying t = some (.slice e)) (hi : TyI P e 1 bytes z) (hz : z.cells = #[z0]) (hb0 : Nat.blt 0 bytes = true)
    (hy : ev L y = some (.int .i64 m)) (hy2 : ev L y2 = some (.int .i64 m)) (hb : m * bytes ≤ 140737488355328)
    (k : ∀ b cs, cs.size = m → W x ops Q rest H (.obj b (.cells cs e (0, 0)) :: M) ((d, .slice (some ⟨b, 0, none⟩) m m) :: L)) :
    W x ops Q (⟨some d, .makeSlice t y y2, ty, pos, aft, g⟩ :: rest) H M L := by
  obtain ⟨i, h1, h2, h3, h4⟩ := hi.ex
  have hb0' : 0 < bytes := by simpa [Nat.blt_eq] using hb0
  have hcast : ((m * bytes : Nat) : Int) = (m : Int) * (bytes : Int) := Int.natCast_mul m bytes
  have hm : m ≤ m * bytes := Nat.le_mul_of_pos_right _ hb0'
  have hw : IntKind.i64.wrap (m : Int) = m := i64_of (by omega) (by omega)
  refine W_run rfl hg hN fun a w hsl ht => ?_
  have hev : (execOp a.eval ⟨some d, .makeSlice t y y2, ty, pos, aft, g⟩).events P w #[] = #[] := by
    have := Conc.events_make (P := P) w t e i z hT h1 h4 .i64 .i64 m m (by omega) (Int.le_refl _) (by rw [h3, Int.mul_comm]; omega) (by omega) (by rw [h3]; simpa using hb) #[]
    simp only [execOp, hsl.ev hy, hsl.ev hy2, Sem.events_bind, this]
    cases (Instr.makeSlice t (.int .i64 m) (.int .i64 m)).run P w <;> rfl
  refine ⟨.slice (some ⟨w.heap.size, 0, none⟩) m m, w.alloc (.cells ((Array.range m).map fun j => #[z0][j % 1]!) e), ?_, fun hN2 => ⟨by rw [hev]; exact Did.alloc _ _, H, _, ht.alloc _ hN2, k _ _ (by simp)⟩⟩
  have e1 : ¬ ((i.bytes : Int) * (m : Int) > 2 ^ 48) := by
    rw [h3, Int.mul_comm]
    omega
  have e3 : ¬ (m * i.bytes > roomBytes) := by rw [h3]; unfold roomBytes; omega
  have e4 : ¬ ((m : Int) < 0) := by omega
  have hti : ∀ w, (typeInfo e).run P w = .ok i w := fun w => by simp [typeInfo, h1]
  have hsz : ∀ w, (sizeOf e).run P w = .ok 1 w := fun w => by simp [sizeOf, hti, h2]
  have hzv : ∀ w, (zeroValue e).run P w = .ok z w := fun w => by simp [zeroValue, hti, h4]
  have hun : ∀ w, (underlying t).run P w = .ok (.slice e) w := fun w => run_underlying hT w
  have hnr : ∀ c w, (newRow e c).run P w = .ok ⟨w.heap.size, 0, none⟩ (w.alloc (.cells c e)) := fun c w => by
    simp only [newRow, newObj, Sem.run_bind, Sem.run_pure, Sem.run, Result.andThen_ok, World.alloc]
  by_cases hm0 : m = 0
  · subst hm0
    simp only [execOp, hsl.ev hy, hsl.ev hy2, Instr.makeSlice, Sem.run_bind, hun, Result.andThen_ok, asInt, asIntOf, Sem.run_pure, hti, hw, e1, e4, decide_false, Bool.or_self, Bool.false_eq_true, if_false, Int.toNat_natCast, askRoom, hsz, if_true, hnr, gt_iff_lt, Int.lt_irrefl, Nat.zero_mul, Nat.not_lt_zero]
    simp [Array.range]
  · have hm1 : ¬ (m * 1 = 0) := by omega
    have e5 : m * 1 = m := Nat.mul_one m
    simp only [execOp, hsl.ev hy, hsl.ev hy2, Instr.makeSlice, Sem.run_bind, hun, Result.andThen_ok, asInt, asIntOf, Sem.run_pure, hti, hw, e1, e4, decide_false, Bool.or_self, Bool.false_eq_true, if_false, Int.toNat_natCast, askRoom, e3, hsz, hm1, e5, hm0, hzv, hz, hnr, gt_iff_lt, Int.lt_irrefl]
    rfl

/-- .. and its cells. -/
theorem W_makeObj2 {t e : TypeId} {bytes m : Nat} {z z0 : Value} {y y2 : Operand}
    (hg : gd ops L ⟨some d, .makeSlice t y y2, ty, pos, aft, g⟩ = some true) (hN : Nat.blt d x.N = true)
    (hT : P.underlying t = some (.slice e)) (hi : TyI P e 1 bytes z) (hz : z.cells = #[z0]) (hb0 : Nat.blt 0 bytes = true)
    (hy : ev L y = some (.int .i64 m)) (hy2 : ev L y2 = some (.int .i64 m)) (hb : m * bytes ≤ 140737488355328)
    (k : ∀ b, W x ops Q rest H (.obj b (.cells (List.replicate m z0).toArray e (0, 0)) :: M) ((d, .slice (some ⟨b, 0, none⟩) m m) :: L)) :
    W x ops Q (⟨some d, .makeSlice t y y2, ty, pos, aft, g⟩ :: rest) H M L := by
  obtain ⟨i, h1, h2, h3, h4⟩ := hi.ex
  have hb0' : 0 < bytes := by simpa [Nat.blt_eq] using hb0
  have hcast : ((m * bytes : Nat) : Int) = (m : Int) * (bytes : Int) := Int.natCast_mul m bytes
  have hm : m ≤ m * bytes := Nat.le_mul_of_pos_right _ hb0'
  have hw : IntKind.i64.wrap (m : Int) = m := i64_of (by omega) (by omega)
  refine W_run rfl hg hN fun a w hsl ht => ?_
  have hev : (execOp a.eval ⟨some d, .makeSlice t y y2, ty, pos, aft, g⟩).events P w #[] = #[] := by
    have := Conc.events_make (P := P) w t e i z hT h1 h4 .i64 .i64 m m (by omega) (Int.le_refl _) (by rw [h3, Int.mul_comm]; omega) (by omega) (by rw [h3]; simpa using hb) #[]
    simp only [execOp, hsl.ev hy, hsl.ev hy2, Sem.events_bind, this]
    cases (Instr.makeSlice t (.int .i64 m) (.int .i64 m)).run P w <;> rfl
  refine ⟨.slice (some ⟨w.heap.size, 0, none⟩) m m, w.alloc (.cells ((Array.range m).map fun j => #[z0][j % 1]!) e), ?_, fun hN2 => ⟨by rw [hev]; exact Did.alloc _ _, H, _, ht.alloc _ hN2, by rw [rep_eq]; exact k _⟩⟩
  have e1 : ¬ ((i.bytes : Int) * (m : Int) > 2 ^ 48) := by
    rw [h3, Int.mul_comm]
    omega
  have e3 : ¬ (m * i.bytes > roomBytes) := by rw [h3]; unfold roomBytes; omega
  have e4 : ¬ ((m : Int) < 0) := by omega
  have hti : ∀ w, (typeInfo e).run P w = .ok i w := fun w => by simp [typeInfo, h1]
  have hsz : ∀ w, (sizeOf e).run P w = .ok 1 w := fun w => by simp [sizeOf, hti, h2]
  have hzv : ∀ w, (zeroValue e).run P w = .ok z w := fun w => by simp [zeroValue, hti, h4]
  have hun : ∀ w, (underlying t).run P w = .ok (.slice e) w := fun w => run_underlying hT w
  have hnr : ∀ c w, (newRow e c).run P w = .ok ⟨w.heap.size, 0, none⟩ (w.alloc (.cells c e)) := fun c w => by
    simp only [newRow, newObj, Sem.run_bind, Sem.run_pure, Sem.run, Result.andThen_ok, World.alloc]
  by_cases hm0 : m = 0
  · subst hm0
    simp only [execOp, hsl.ev hy, hsl.ev hy2, Instr.makeSlice, Sem.run_bind, hun, Result.andThen_ok, asInt, asIntOf, Sem.run_pure, hti, hw, e1, e4, decide_false, Bool.or_self, Bool.false_eq_true, if_false, Int.toNat_natCast, askRoom, hsz, if_true, hnr, gt_iff_lt, Int.lt_irrefl, Nat.zero_mul, Nat.not_lt_zero]
    simp [Array.range]
  · have hm1 : ¬ (m * 1 = 0) := by omega
    have e5 : m * 1 = m := Nat.mul_one m
    simp only [execOp, hsl.ev hy, hsl.ev hy2, Instr.makeSlice, Sem.run_bind, hun, Result.andThen_ok, asInt, asIntOf, Sem.run_pure, hti, hw, e1, e4, decide_false, Bool.or_self, Bool.false_eq_true, if_false, Int.toNat_natCast, askRoom, e3, hsz, hm1, e5, hm0, hzv, hz, hnr, gt_iff_lt, Int.lt_irrefl]
    rfl

/-- A channel without a buffer. -/
theorem W_makeChan {t e : TypeId} {dir : ChanDir} {i : TypeInfo} {y : Operand} (hg : gd ops L ⟨some d, .makeChan t y, ty, pos, aft, g⟩ = some true) (hN : Nat.blt d x.N = true)
    (ht : P.underlying t = some (.chan dir e)) (hi : P.info? e = some i) (hy : ev L y = some (.int .i64 0))
    (k : ∀ b, W x ops Q rest H (.obj b (.chan 0 #[] false 0 0 false) :: M) ((d, .chan (some b)) :: L)) :
    W x ops Q (⟨some d, .makeChan t y, ty, pos, aft, g⟩ :: rest) H M L := by
  refine W_run rfl hg hN fun a w hsl hst => ?_
  have h1 := run_makeChan (w := w) ht hi .i64 0 (by omega) (by omega)
  have h2 := events_makeChan (w := w) ht hi .i64 0 (by omega) (by omega) #[]
  have h3 : (execOp a.eval ⟨some d, .makeChan t y, ty, pos, aft, g⟩).run P w = .ok (.value (.chan (some w.heap.size))) (w.alloc (.chan 0 #[] false 0 0 false)) := by
    have h1' : (Instr.makeChan t (.int .i64 0)).run P w = _ := h1
    simp only [execOp, hsl.ev hy, Sem.run_bind, h1', Result.andThen_ok, Sem.run_pure]
  have h4 : (execOp a.eval ⟨some d, .makeChan t y, ty, pos, aft, g⟩).events P w #[] = #[] := by
    have h1' : (Instr.makeChan t (.int .i64 0)).run P w = _ := h1
    have h2' : (Instr.makeChan t (.int .i64 0)).events P w #[] = _ := h2
    simp only [execOp, hsl.ev hy, Sem.events_bind, h2', h1']
    rfl
  exact ⟨_, _, h3, fun n => ⟨by rw [h4]; exact Did.alloc _ _, H, _, hst.alloc _ n, k _⟩⟩
end
end Go.Sim
end

section
set_option linter.unusedVariables false
set_option linter.unusedSimpArgs false
set_option maxRecDepth 100000
set_option maxHeartbeats 4000000
namespace Go.Sim
open Go Go.Conc Go.Proofs.Try

/-- Where the group is about to be made. -/
def Stop7 (B : Nat) (c : Bs CPR) (H : Hp) (s : List (List S_api_TelemetryMsg)) (v0 : Value) (k : Int) (cf : Frame) (cs : List Frame) (g : Goroutine) (w : World) : Prop :=
  ∃ (T : Array Value) (bS bL bN C Ch : Nat) (zs : Array Value), zs.size = s.length ∧ Sl 44 [(1, .int .i64 k), (2, .pointer (some ⟨bS, 0, none⟩)), (6, .pointer (some ⟨bL, 0, none⟩)), (7, .pointer (some ⟨bN, 0, none⟩))] ⟨T, []⟩ ∧
    St B c H [.obj bN (.cells [.chan (some Ch)].toArray 47 (0, 0)), .obj Ch (.chan 0 #[] false 0 0 false), .obj bL (.cells [.slice (some ⟨C, 0, none⟩) s.length s.length].toArray 22 (0, 0)), .obj C (.cells zs 27 (0, 0)), .obj bS (.cells [v0].toArray 22 (0, 0))] w ∧
    g = G (b7.at ⟨T, []⟩ (.inRegion o7_7.toArray [0] :: [.code tail8])) (cf :: cs)

theorem collect_front {c : Bs CPR} {B : Nat} {H : Hp} {s : List (List S_api_TelemetryMsg)} {v0 : Value} {k : Int} {cf : Frame} {cs : List Frame} (h0 : RdS H v0 s) (hk1 : 1 ≤ k) (hk2 : k ≤ 8) (hs8 : s.length ≤ 8) {w : World} (ht : St B c H [] w) :
    Walks c (Stop7 B c H s v0 k cf cs) (G (Frame.enter CPR 7 #[v0, .int .i64 k] .normal) (cf :: cs)) w := by
  have hn : f7.ntmps = 44 := by kernel_rfl
  obtain ⟨o0, cap0, hv0, _⟩ := h0.len
  have hcells : v0.cells = [v0].toArray := by rw [hv0]; rfl
  have hone : v0.oneCell' = true := by rw [hv0]; rfl
  have d1 : decide (k < 1) = false := decide_eq_false (by omega)
  have d2 : decide (8 < k) = false := decide_eq_false (by omega)
  have d3 : decide (8 < (s.length : Int)) = false := decide_eq_false (by omega)
  rw [enter_at _ func7 body7, hn]
  have hsl0 : Sl 44 [(0, v0), (1, .int .i64 k)] ⟨#[v0, .int .i64 k] ++ Array.replicate (44 - #[v0, .int .i64 k].size) undef, []⟩ := by
    refine ⟨by simp, rfl, fun t v h => ?_⟩
    have := envOf_get 44 [v0, .int .i64 k] 0 t v [] rfl h
    simpa using this
  rw [c7_eq]
  refine mv rfl (fun _ => stepG_seq) ?_
  refine reg_on (x := ⟨44, B, c⟩) (b := b7) (H := H) (M := []) (l := o7_0) (L := [(0, v0), (1, .int .i64 k)]) (Q := fun e a w => ∃ bS, Sl 44 [(1, .int .i64 k), (2, .pointer (some ⟨bS, 0, none⟩))] a ∧ St B c H [.obj bS (.cells [v0].toArray 22 (0, 0))] w) ?_ hsl0 ht (by decide) ?_
  · refine W_box rfl rfl rfl hcells (fun bS => ?_)
    refine W_assign rfl rfl rfl ?_
    refine W_assign rfl rfl rfl ?_
    refine W_end ?_
    intro a w hs ht
    exact ⟨bS, hs.keep ⟨rfl, rfl, trivial⟩, ht⟩
  rintro T1 w1 ⟨bS, hs1, ht1⟩
  refine mv rfl (fun _ => stepG_seq) ?_
  have hC : Sim.C ⟨44, B, c⟩ block7 (fun e a w => e = .normal ∧ Sl 44 [(1, .int .i64 k), (2, .pointer (some ⟨bS, 0, none⟩))] a ∧ St B c H [.obj bS (.cells [v0].toArray 22 (0, 0))] w) H [.obj bS (.cells [v0].toArray 22 (0, 0))] [(1, .int .i64 k), (2, .pointer (some ⟨bS, 0, none⟩))] := by
    refine C_block ?_
    refine C_seq ?_
    refine C_region ?_
    refine W_move rfl rfl rfl ?_
    refine W_bin rfl rfl rfl rfl rfl ?_
    rw [d1]
    refine W_move rfl rfl rfl ?_
    refine W_move rfl rfl rfl ?_
    refine W_bin rfl rfl rfl rfl rfl ?_
    rw [d2]
    refine W_pick (b := false) rfl rfl rfl rfl ?_
    refine W_assign rfl rfl rfl ?_
    refine W_end (E_then ?_)
    refine C_cond (b := false) rfl (fun h => Bool.noConfusion h) (fun _ => ?_)
    refine C_seq ?_
    refine C_region ?_
    refine W_load rfl rfl isAgg22 rfl (own_at (off := 0) (List.mem_cons_self ..) rfl) ?_
    refine W_lenR rfl rfl runUnderlying22 rfl h0 ?_
    refine W_bin rfl rfl rfl rfl rfl ?_
    rw [d3]
    refine W_assign rfl rfl rfl ?_
    refine W_end (E_then ?_)
    refine C_cond (b := false) rfl (fun h => Bool.noConfusion h) (fun _ => ?_)
    refine C_skip ?_
    intro a w hs ht
    exact ⟨rfl, hs.keep ⟨rfl, rfl, trivial⟩, ht⟩
  refine hC ⟨T1, []⟩ w1 hs1 ht1 b7 _ _ _ (by decide) (fun e a w2 q => ?_)
  obtain ⟨rfl, hs2, ht2⟩ := q
  obtain ⟨T2, D2⟩ := a
  obtain rfl : D2 = [] := hs2.dfr
  show Walks c _ _ _
  refine mv rfl (fun _ => stepG_seq) ?_
  refine reg_on (x := ⟨44, B, c⟩) (b := b7) (H := H) (M := [.obj bS (.cells [v0].toArray 22 (0, 0))]) (l := o7_5) (L := [(1, .int .i64 k), (2, .pointer (some ⟨bS, 0, none⟩))])
    (Q := fun e a w => ∃ bL C zs, zs.size = s.length ∧ Sl 44 [(1, .int .i64 k), (2, .pointer (some ⟨bS, 0, none⟩)), (6, .pointer (some ⟨bL, 0, none⟩))] a ∧ St B c H [.obj bL (.cells [.slice (some ⟨C, 0, none⟩) s.length s.length].toArray 22 (0, 0)), .obj C (.cells zs 27 (0, 0)), .obj bS (.cells [v0].toArray 22 (0, 0))] w) ?_ hs2 ht2 (by decide) ?_
  · refine W_load rfl rfl isAgg22 rfl (own_at (off := 0) (List.mem_cons_self ..) rfl) ?_
    refine W_lenR rfl rfl runUnderlying22 rfl h0 ?_
    refine W_makeObj (bytes := 24) (z := .slice none 0 0) (z0 := .slice none 0 0) rfl rfl underlying22 ⟨_, rfl, rfl, rfl, rfl⟩ rfl rfl rfl rfl (by omega) (fun C zs hz => ?_)
    refine W_alloc (cs := [.slice none 0 0]) rfl rfl zeroValue22 rfl (fun bL => ?_)
    refine W_store (cs := [.slice (some ⟨C, 0, none⟩) s.length s.length]) (out := [.slice (some ⟨C, 0, none⟩) s.length s.length]) rfl sizeOf22 rfl rfl rfl rfl rfl (all_cons rfl (by simp)) rfl ?_
    refine W_end ?_
    intro a w hs ht
    exact ⟨bL, C, zs, hz, hs.keep ⟨rfl, rfl, rfl, trivial⟩, ht⟩
  rintro T3 w3 ⟨bL, C, zs, hz, hs3, ht3⟩
  refine mv rfl (fun _ => stepG_seq) ?_
  refine reg_on (x := ⟨44, B, c⟩) (b := b7) (H := H) (M := [.obj bL (.cells [.slice (some ⟨C, 0, none⟩) s.length s.length].toArray 22 (0, 0)), .obj C (.cells zs 27 (0, 0)), .obj bS (.cells [v0].toArray 22 (0, 0))]) (l := o7_6) (L := [(1, .int .i64 k), (2, .pointer (some ⟨bS, 0, none⟩)), (6, .pointer (some ⟨bL, 0, none⟩))])
    (Q := fun e a w => ∃ bN Ch, Sl 44 [(1, .int .i64 k), (2, .pointer (some ⟨bS, 0, none⟩)), (6, .pointer (some ⟨bL, 0, none⟩)), (7, .pointer (some ⟨bN, 0, none⟩))] a ∧ St B c H [.obj bN (.cells [.chan (some Ch)].toArray 47 (0, 0)), .obj Ch (.chan 0 #[] false 0 0 false), .obj bL (.cells [.slice (some ⟨C, 0, none⟩) s.length s.length].toArray 22 (0, 0)), .obj C (.cells zs 27 (0, 0)), .obj bS (.cells [v0].toArray 22 (0, 0))] w) ?_ hs3 ht3 (by decide) ?_
  · refine W_makeChan rfl rfl underlying47 rfl rfl (fun Ch => ?_)
    refine W_alloc (cs := [.chan none]) rfl rfl zeroValue47 rfl (fun bN => ?_)
    refine W_store (cs := [.chan (some Ch)]) (out := [.chan (some Ch)]) rfl sizeOf47 rfl rfl rfl rfl rfl (all_cons rfl (by simp)) rfl ?_
    refine W_end ?_
    intro a w hs ht
    exact ⟨bN, Ch, hs.keep ⟨rfl, rfl, rfl, rfl, trivial⟩, ht⟩
  rintro T4 w4 ⟨bN, Ch, hs4, ht4⟩
  refine mv rfl (fun _ => stepG_seq) ?_
  refine mv rfl (fun _ => stepG_region) ?_
  exact .stop fun w5 h5 => ⟨T4, bS, bL, bN, C, Ch, zs, hz, hs4, ht4.oth h5, rfl⟩
end Go.Sim
end

section
set_option linter.unusedVariables false
set_option linter.unusedSimpArgs false
namespace Go.Sim
open Go Go.Conc
open Go.ConcN (sumTo upd sumTo_upd upd_ne upd_same)

section
variable {P : Program} {m0 : Machine} {Z : Nat → Prop}

/-- Goroutine 0's turn comes. -/
theorem zero_turn {a : Goroutine} (hs : a.status = .running) : ∀ (M n : Nat) (gs : Array Goroutine) (w : World) (sl : Option (Nat × Nat)) (t : Trace) (q : Nat → Nat), sumTo gs.size q = M → Fr P m0 Z n gs w sl t q a →
    ∃ (n' : Nat) (gs' : Array Goroutine) (w' : World) (sl' sl'' : Option (Nat × Nat)) (t' : Trace) (q' : Nat → Nat) (d : Nat), n ≤ n' ∧ gs'.size = gs.size ∧ w' = w.at w'.drawn ∧ Fr P m0 Z n' gs' w' sl' t' q' a ∧ whoM P (crowd gs' w' sl') = some 0 ∧ stepT P (crowd gs' w' sl') = runT P (crowd gs' (w'.at d) sl'') 0 := by
  intro M
  induction M using Nat.strongRecOn with
  | _ M ihM =>
    intro n gs w' sl t q hM f
    have h0 := f.h0
    have haw : ∀ x ∈ gs, awake x := by
      intro x hx
      obtain ⟨i, hi, rfl⟩ := Array.mem_iff_getElem.1 hx
      rcases Nat.eq_zero_or_pos i with rfl | hpos
      · have : gs[0] = a := by simpa [Array.getElem?_eq_getElem hi] using h0
        rw [this]; exact awake_of (.inl hs)
      · exact awake_of ((f.lv.old i _ hpos (Array.getElem?_eq_getElem hi)).status.elim .inl fun x => .inr (.inr x))
    obtain ⟨i, x, dd, sl', hi, hx, hwho, hst⟩ := crowd_move (P := P) (w := w') (sl := sl) haw ⟨0, a, h0, hs⟩
    rcases Nat.eq_zero_or_pos i with rfl | hpos
    · exact ⟨n, gs, w', sl, sl', t, q, dd, Nat.le_refl _, rfl, rfl, f, hwho, hst⟩
    · have hq := f.lv.old i x hpos hi
      have hi0 : (i == 0) = false := by simp; omega
      have hlt : i < gs.size := (Array.getElem?_eq_some_iff.1 hi).1
      cases hqi : q i with
      | zero => rw [hqi] at hq; rw [hq.1] at hx; cases hx
      | succ k1 =>
        rw [hqi] at hq
        rcases hq with ⟨hfin, _⟩ | ⟨_, g', es, hm, hstp, hq'⟩
        · rw [hfin] at hx; cases hx
        have hrunT := runT_crowd_go (P := P) (sl := sl') (i := i) hi (by rw [hi0]; exact hstp (w'.at dd))
        have hat := f.at_.succ (hst.trans hrunT)
        have hsz : ((gs.map (woken P x g' (w'.at dd))).setIfInBounds i g').size = gs.size := by simp
        have hsum : sumTo gs.size (upd q i k1) + (k1 + 1) = sumTo gs.size q + k1 := by
          have := sumTo_upd q k1 id hlt
          simpa [hqi] using this
        have hall : ∀ op ∈ MemOp.ofEvents i x.frame.fn x.frame.place es, op.g = i := fun op hop => by obtain ⟨e, _, rfl⟩ := Conc.mem_ofEvents hop; rfl
        have hF : Fr P m0 Z (n + 1) ((gs.map (woken P x g' (w'.at dd))).setIfInBounds i g') (w'.at dd) sl' (t ++ MemOp.ofEvents i x.frame.fn x.frame.place es) (upd q i k1) a := by
          refine ⟨hat, ?_, ⟨fun j y hj hy => ?_, fun j hj => ?_⟩, ?_, f.grew.succ hat rfl (Nat.le_refl _), ?_⟩
          · have hne : i ≠ 0 := by omega
            rw [Array.getElem?_setIfInBounds_ne hne, Array.getElem?_map, h0]
            simp [woken_run hs]
          · by_cases hji : i = j
            · subst hji
              rw [Array.getElem?_setIfInBounds_self_of_lt (by simpa using hlt)] at hy
              obtain rfl := Option.some.inj hy
              rw [upd_same, Deaf_own]
              exact hq'
            · rw [Array.getElem?_setIfInBounds_ne hji, Array.getElem?_map] at hy
              obtain ⟨z, hz, rfl⟩ := Option.map_eq_some_iff.1 hy
              have hqj := f.lv.old j z hj hz
              rw [woken_quitsD hqj, upd_ne q k1 (Ne.symm hji), Deaf_other t hji _ hall]
              exact hqj
          · rw [Deaf_other t (g' := i) (by simp at hj; omega) _ hall]
            exact f.lv.above j (by simpa using hj)
          · exact f.past.mute (by omega) hm
          · rw [hsz]
            refine opF_app f.ops fun op hop => ?_
            obtain ⟨e, he, rfl⟩ := Conc.mem_ofEvents hop
            exact opF_mute (hm e he) hlt
        obtain ⟨n', gs', w1, sl1, sl2, t', q', d, h1, h2, h3, h4, h5, h6⟩ := ihM (sumTo gs.size (upd q i k1)) (by omega) (n + 1) _ (w'.at dd) sl' _ (upd q i k1) (by rw [hsz]) hF
        exact ⟨n', gs', w1, sl1, sl2, t', q', d, by omega, h2.trans hsz, h3.trans rfl, h4, h5, h6⟩

/-- ONE STEP OF ITS OWN that lists nothing: what it makes is told. -/
theorem one_step {n : Nat} {gs : Array Goroutine} {w : World} {sl : Option (Nat × Nat)} {t : Trace} {q : Nat → Nat} {a : Goroutine} (f : Fr P m0 Z n gs w sl t q a) (hs : a.status = .running) (ng : World → Goroutine) (nw : World → World)
    (h : ∀ w1, w1 = w.at w1.drawn → stepG P true a w1 = .go (ng w1) (nw w1) #[] ∧ w1.heap.size ≤ (nw w1).heap.size) :
    Comes0 P m0 Z n fun a' w' => ∃ w1, w1 = w.at w1.drawn ∧ a' = ng w1 ∧ w' = nw w1 ∧ ∀ b, w1.heap.size ≤ b → b < w'.heap.size → Mk P m0 0 b ∧ (WgRec a = true → Gp P m0 b) := by
  obtain ⟨n', gs', w', sl', sl'', t', q', d, h1, h2, h3, f', hwho, hst⟩ := zero_turn hs _ n gs w sl t q rfl f
  have e1 : w'.at d = w.at (w'.at d).drawn := by rw [h3]; rfl
  obtain ⟨hgo, hsize⟩ := h (w'.at d) e1
  have h0 := f'.h0
  have hlt0 : 0 < gs'.size := (Array.getElem?_eq_some_iff.1 h0).1
  have hrunT := runT_crowd_go (P := P) (sl := sl'') (i := 0) h0 (show stepG P (0 == 0) a (w'.at d) = _ from hgo)
  have hat := f'.at_.succ (hst.trans hrunT)
  have he : MemOp.ofEvents 0 a.frame.fn a.frame.place #[] = #[] := rfl
  rw [he, Array.append_empty] at hat
  have hbirth : ∀ b, (w'.at d).heap.size ≤ b → b < (nw (w'.at d)).heap.size → Birth P m0 n' b := fun b hb1 hb2 => f'.grew.birth f'.at_ hat hb1 hb2
  refine ⟨n' + 1, _, _, sl'', t', q', ng (w'.at d), by omega, ⟨hat, by simp [hlt0], ⟨fun j y hj hy => ?_, fun j hj => f'.lv.above j (by simpa using hj)⟩, f'.past.mono hsize, f'.grew.succ hat rfl hsize, ?_⟩, w'.at d, e1, rfl, rfl, fun b hb1 hb2 => ⟨⟨n', _, _, hbirth b hb1 hb2, f'.at_, hwho⟩, fun hw => ⟨n', _, _, a, hbirth b hb1 hb2, f'.at_, hwho, h0, hw⟩⟩⟩
  · have hne : 0 ≠ j := by omega
    rw [Array.getElem?_setIfInBounds_ne hne, Array.getElem?_map] at hy
    obtain ⟨z, hz, rfl⟩ := Option.map_eq_some_iff.1 hy
    have hq := f'.lv.old j z hj hz
    rw [woken_quitsD hq]
    exact hq
  · intro op hop
    have := f'.ops op hop
    simpa using this

/-- THE END: whoever stands at the return that ends the run. -/
theorem fr_ends {n : Nat} {gs : Array Goroutine} {w : World} {sl : Option (Nat × Nat)} {t : Trace} {q : Nat → Nat} {a : Goroutine} (f : Fr P m0 Z n gs w sl t q a) {Post : Value → World → Prop}
    (h : ∀ w1, AtRel w w1 → AtEnd P (Shd P m0) w.heap.size Post a w1) :
    ∃ N last o w' t', runNT P (N + 1) m0 #[] = (.ended o w', t') ∧ runN P N m0 = .next last ∧ step P last = .ended o w' ∧ Go.Conc.Good P Post last o w' t' := by
  obtain ⟨N, last, o, w', t', h1, h2, h3, h4⟩ := beside_ends (P := P) (Shun := Shd P m0) (B := w.heap.size) (D := fun w w' es => w' = w ∧ es = #[]) (Post := Post) (fun _ _ _ ⟨_, e⟩ x hx => by subst e; simp at hx) (n := 0) f.h0 f.lv f.past (sl := sl) h
  have hat := f.at_
  unfold At at hat
  refine ⟨n + N, last, o, w', t', ?_, ?_, h3, h4⟩
  · rw [Nat.add_assoc, runNT_add, hat]; exact h1
  · rw [runN_add, ← runNT_fst P n _ #[], hat]; exact h2

/-- THE BEGINNING. -/
theorem fr_begin (a : Goroutine) (w : World) : Fr P (crowd #[a] w none) Z 0 #[a] w none #[] (fun _ => 0) a := by
  have hp := past_nil
  refine ⟨At.zero, by simp, leavers_one P a, ⟨hp.clean, fun i x hx => ?_, hp.over, hp.hears, by simp⟩, fun k m t hk hm => ?_, by simp⟩
  · exact absurd hx (by simp [touchAt, Trace.act?])
  · obtain rfl : k = 0 := by omega
    obtain ⟨rfl, _⟩ := hm.fun At.zero
    exact Nat.le_refl _
end
end Go.Sim
end

section
set_option linter.unusedVariables false
set_option linter.unusedSimpArgs false
set_option maxRecDepth 100000
set_option maxHeartbeats 4000000
namespace Go.Sim
open Go Go.Conc Go.Proofs.Try
open Go.ConcN (WgLive)
open Go.ConcR (KK WgAt stA smA wgBlock)

/-! ### the model -/
def takes : List (List S_api_TelemetryMsg) → Option (List (List S_api_TelemetryMsg))
  | [] => some []
  | l :: r => (m_second_taken l).bind fun a => (takes r).bind fun b => some (a :: b)
def m_second_Collect (s : List (List S_api_TelemetryMsg)) (k : Int) : Option (List S_api_TelemetryMsg × Int) :=
  need (1 ≤ k ∧ k ≤ 8 ∧ s.length ≤ 8) ((takes s).bind fun rs => (m_slices_Concat_api_TelemetryMsg_api_TelemetryMsg rs).bind fun c => (m_second_taken c).bind fun r => some (r, 0))
theorem takes_get : ∀ {s rs : List (List S_api_TelemetryMsg)}, takes s = some rs → rs.length = s.length ∧ ∀ (i : Nat) (l : List S_api_TelemetryMsg), s[i]? = some l → ∃ r, rs[i]? = some r ∧ m_second_taken l = some r
  | [], rs, h => by
    simp only [takes, Option.some.injEq] at h
    subst h
    exact ⟨rfl, fun i l h => by simp at h⟩
  | l :: s, rs, h => by
    simp only [takes, Option.bind_eq_some_iff, Option.some.injEq] at h
    obtain ⟨a, ha, b, hb, rfl⟩ := h
    obtain ⟨h1, h2⟩ := takes_get hb
    refine ⟨by simp [h1], fun i x hx => ?_⟩
    cases i with
    | zero => simp only [List.getElem?_cons_zero, Option.some.injEq] at hx; subst hx; exact ⟨a, rfl, ha⟩
    | succ i => simpa using h2 i x (by simpa using hx)

/-! ### goroutine 0's company: nobody; its blocks: all but the groups' -/
def bare (m0 : Machine) (w0 : World) : Bs CPR := ⟨true, fun b => ¬ Gp CPR m0 b, fun _ => False, w0, fun _ _ _ => False, fun _ => True, fun _ => False⟩
open Classical in
/-- All that is not a group's, as facts. -/
noncomputable def snapG (m0 : Machine) (w : World) : Hp := fun b => if Gp CPR m0 b then none else w.heap[b]?
theorem snapG_some {m0 : Machine} {w : World} {b : Nat} {o : Obj} (h : snapG m0 w b = some o) : ¬ Gp CPR m0 b ∧ w.heap[b]? = some o := by
  unfold snapG at h
  split at h
  · cases h
  · rename_i hg; exact ⟨hg, h⟩
theorem snapG_of {m0 : Machine} {w : World} {b : Nat} {o : Obj} (hg : ¬ Gp CPR m0 b) (h : w.heap[b]? = some o) : snapG m0 w b = some o := by
  unfold snapG
  rw [if_neg hg]; exact h
theorem st_snap {m0 : Machine} {w0 w : World} {B : Nat} (hs : Same w0 w) (hB : B ≤ w.heap.size) : St B (bare m0 w0) (snapG m0 w) [] w :=
  ⟨hs, hB, fun b o h => (snapG_some h).2, by simp, by simp, by simp, fun b o h => .inl (snapG_some h).1, by simp, fun b h => h.elim⟩

theorem walk_bare {m0 : Machine} {w0 : World} {Z : Nat → Prop} {Stop : Goroutine → World → Prop} {a : Goroutine} {w : World} (h : Walks (bare m0 w0) Stop a w) {n : Nat} {gs : Array Goroutine} {sl : Option (Nat × Nat)} {t : Trace} {q : Nat → Nat}
    (f : Fr CPR m0 Z n gs w sl t q a) : Comes0 CPR m0 Z n Stop := by
  refine walk_main (c := bare m0 w0) rfl (fun _ _ _ => trivial) (fun _ h => h) (fun b hb => hb.elim id False.elim) ?_ (fun n gs w sl t q a S _ h => h.elim) h n gs sl t q f
  rintro n m t a b hat hwho h0 hr hb ⟨n', m', t', a', hb', hat', hwho', h0', hr'⟩
  obtain rfl := hb.uniq hb'
  obtain ⟨rfl, _⟩ := hat.fun hat'
  rw [h0] at h0'
  cases h0'
  rw [hr] at hr'
  cases hr'

/-- Where one call of Collect's comes to its end: what is asked of whoever goes on. -/
def CollectJ (m0 : Machine) (g : Goroutine) (w : World) (S : Goroutine → World → Prop) : Prop :=
  ∃ (B : Nat) (w0 : World) (H : Hp) (M : List Res) (s : List (List S_api_TelemetryMsg)) (v0 : Value) (k : Int) (r : List S_api_TelemetryMsg × Int) (cf : Frame) (cs : List Frame),
    g = G (Frame.enter CPR 7 #[v0, .int .i64 k] .normal) (cf :: cs) ∧ RdS H v0 s ∧ m_second_Collect s k = some r ∧ St B (bare m0 w0) H M w ∧
    ∀ qv qxs w', St B (bare m0 w0) H (.row qv 29 4 r.1.length qxs :: M) w' → RwF qv qxs r.1 → S (G (cf.finish (.tuple #[qv, .int .i64 r.2])) cs) w'

/-- The step that makes the group. -/
theorem group_step {T : Array Value} {k : List Item} {cs : List Frame} (w : World) :
    stepG CPR true (G (b7.at ⟨T, []⟩ (.inRegion o7_7.toArray [0] :: k)) cs) w = .go (G (b7.at ⟨T.setIfInBounds 8 (.pointer (some ⟨w.heap.size, 0, none⟩)), []⟩ (.inRegion o7_7.toArray [] :: k)) cs) (w.alloc (wgBlock 57 0 0)) #[] := by
  have hz : ∀ w, (zeroValue 57).run CPR w = .ok (.agg #[.int .u64 0, .int .u32 0]) w := wgLib.zeroValue_tWg
  have hr : (execOp (⟨T, []⟩ : Act).eval ⟨some 8, .alloc 57, 0, "second.go:164", #[], none⟩).run CPR w = .ok (.value (.pointer (some ⟨w.heap.size, 0, none⟩))) (w.alloc (wgBlock 57 0 0)) := by
    simp only [execOp, Instr.alloc, hz, newVar, newRow, newObj, Sem.run_bind, Sem.run_pure, Sem.run, Result.andThen_ok, World.alloc]
    rfl
  have he : (execOp (⟨T, []⟩ : Act).eval ⟨some 8, .alloc 57, 0, "second.go:164", #[], none⟩).events CPR w #[] = #[] := by
    simp [execOp, Instr.alloc, hz, newVar, newRow]
  rw [stepG_value (i := 0) (rest := []) (o := ⟨some 8, .alloc 57, 0, "second.go:164", #[], none⟩) rfl rfl (by decide) hr, listed_none he]
  rfl
end Go.Sim
end

section
set_option linter.unusedVariables false
set_option linter.unusedSimpArgs false
set_option maxRecDepth 100000
set_option maxHeartbeats 4000000
namespace Go.Sim
open Go Go.Conc Go.Proofs.Try
open Go.ConcN (WgLive)
open Go.ConcR (KK WgAt stA smA wgBlock)

open Classical in
/-- Some blocks, as facts. -/
noncomputable def snapP (p : Nat → Prop) (w : World) : Hp := fun b => if p b then w.heap[b]? else none
theorem snapP_some {p : Nat → Prop} {w : World} {b : Nat} {o : Obj} (h : snapP p w b = some o) : p b ∧ w.heap[b]? = some o := by
  unfold snapP at h
  split at h
  · rename_i hp; exact ⟨hp, h⟩
  · cases h
theorem snapP_of {p : Nat → Prop} {w : World} {b : Nat} {o : Obj} (hp : p b) (h : w.heap[b]? = some o) : snapP p w b = some o := by
  unfold snapP
  rw [if_pos hp]; exact h
/-- The pool's data, at the world in which the group has been made. -/
noncomputable def mkCD (m0 : Machine) (b0 kn : Nat) (w3 : World) (C Ch Wg bS bL bN : Nat) (v0 : Value) (s : List (List S_api_TelemetryMsg)) (cf : Frame) (cs : List Frame) : CD :=
  { m0, b0, W := kn, Low := w3.heap.size, C, Ch, Wg, w0 := w3, bS, bL, bN, vS := v0, vL := .slice (some ⟨C, 0, none⟩) s.length s.length,
    H0 := snapP (fun b => b < w3.heap.size ∧ b ≠ Wg ∧ b ≠ Ch ∧ b ≠ C ∧ ¬ Gp CPR m0 b) w3, st := s, cf, cs }

section
variable {m0 : Machine} {b0 kn : Nat} {w3 : World} {C Ch Wg bS bL bN : Nat} {v0 : Value} {s : List (List S_api_TelemetryMsg)} {cf : Frame} {cs : List Frame}
theorem mk_H0 {b : Nat} {o : Obj} (h : w3.heap[b]? = some o) (h1 : b ≠ Wg) (h2 : b ≠ Ch) (h3 : b ≠ C) (h4 : ¬ Gp CPR m0 b) : (mkCD m0 b0 kn w3 C Ch Wg bS bL bN v0 s cf cs).H0 b = some o :=
  snapP_of (p := fun b => b < w3.heap.size ∧ b ≠ Wg ∧ b ≠ Ch ∧ b ≠ C ∧ ¬ Gp CPR m0 b) ⟨(Array.getElem?_eq_some_iff.1 h).1, h1, h2, h3, h4⟩ h
theorem mk_ok {H1 : Hp} (hS : w3.heap[bS]? = some (.cells #[v0] 22)) (hL : w3.heap[bL]? = some (.cells #[.slice (some ⟨C, 0, none⟩) s.length s.length] 22)) (hN : w3.heap[bN]? = some (.cells #[.chan (some Ch)] 47))
    (dS : bS ≠ Wg ∧ bS ≠ Ch ∧ bS ≠ C ∧ ¬ Gp CPR m0 bS) (dL : bL ≠ Wg ∧ bL ≠ Ch ∧ bL ≠ C ∧ ¬ Gp CPR m0 bL) (dN : bN ≠ Wg ∧ bN ≠ Ch ∧ bN ≠ C ∧ ¬ Gp CPR m0 bN)
    (hH1 : ∀ b o, H1 b = some o → w3.heap[b]? = some o ∧ b ≠ Wg ∧ b ≠ Ch ∧ b ≠ C ∧ ¬ Gp CPR m0 b) (h0 : RdS H1 v0 s) (hs8 : s.length ≤ 8) (htk : ∀ l ∈ s, ∃ r, m_second_taken l = some r)
    (hW : Wg < w3.heap.size) (hC : C < w3.heap.size) (hCW : C ≠ Wg) (hCh : Ch < w3.heap.size) (hChW : Ch ≠ Wg) (hCCh : C ≠ Ch) (gC : ¬ Gp CPR m0 C) (gW : Gp CPR m0 Wg) (b1 : 1 ≤ b0) (W1 : 1 ≤ kn) (W2 : kn ≤ 8) :
    (mkCD m0 b0 kn w3 C Ch Wg bS bL bN v0 s cf cs).Ok where
  hH b o h := snapP_some h
  box1 := mk_H0 hS dS.1 dS.2.1 dS.2.2.1 dS.2.2.2
  box2 := mk_H0 hL dL.1 dL.2.1 dL.2.2.1 dL.2.2.2
  box3 := mk_H0 hN dN.1 dN.2.1 dN.2.2.1 dN.2.2.2
  rS := h0.mono fun b o hb => let ⟨h, h1, h2, h3, h4⟩ := hH1 b o hb; mk_H0 h h1 h2 h3 h4
  vL := rfl
  low := Nat.le_refl _
  nb := hs8
  tk := htk
  hW := hW
  hC := hC
  hCW := hCW
  hCh := hCh
  hChW := hChW
  hCCh := hCCh
  gC := gC
  gW := gW
  b1 := b1
  W1 := W1
  W2 := W2
end

section
variable {d : CD}
/-- From the group to the first Add. -/
theorem start_walk (O : d.Ok) {T : Array Value} (hT : d.TC T) {w : World} (hR : d.RK w) : Walks d.cM (d.M (.skd 0)) (G (b7.at ⟨T, []⟩ (.inRegion o7_7.toArray [] :: [.code tail8])) (d.cf :: d.cs)) w := by
  refine mv rfl (fun _ => stepG_region_end) ?_
  refine mv rfl (fun _ => stepG_seq) ?_
  refine mv rfl (fun _ => stepG_seq) ?_
  refine Walks.trans (d.keepM O (Stop := fun g w => ∃ T', d.TC T' ∧ T'[25]? = some (.int .i64 d.W) ∧ T'[26]? = some (.int .i64 (0 : Nat)) ∧ g = G (b7.at ⟨T', []⟩ (.code loop1 :: K1)) (d.cf :: d.cs)) ?_ hR) ?_
  · refine reg_on (x := ⟨44, d.Low, d.cM⟩) (b := b7) (H := d.H0) (M := []) (l := o7_8) (L := LC d []) (Q := fun e a w => d.TC a.tmps ∧ a.tmps[25]? = some (.int .i64 d.W) ∧ a.tmps[26]? = some (.int .i64 (0 : Nat))) ?_ (TC_LC hT lk_nil') (hR.stM O) (by decide) ?_
    · refine W_move rfl rfl rfl ?_
      refine W_move rfl rfl rfl ?_
      refine W_end ?_
      intro a w hs ht
      exact ⟨Sl_TC hs rfl rfl rfl rfl rfl rfl, hs.get 25 _ rfl, hs.get 26 _ rfl⟩
    · rintro T' w' ⟨h1, h2, h3⟩
      refine mv rfl (fun _ => stepG_block) ?_
      refine mv rfl (fun _ => stepG_loop) ?_
      exact .stop fun w1 _ => ⟨T', h1, h2, h3, rfl⟩
  · rintro _ w2 ⟨⟨T2, h1, h2, h3, rfl⟩, hR2⟩
    have := head1 O (Nat.zero_le _) h1 h2 h3 hR2
    have e : d.hd1 0 = .skd 0 := by unfold CD.hd1; rw [if_pos (by have := O.W1; omega)]
    rw [e] at this
    exact this
end

/-- What was owned and stands among the facts. -/
theorem rdS_own {α : Type} [Rep α] {w : World} {T : TypeId} {v : Value} {n : Nat} {xs : List Value} {ys : List α} {H : Hp} (h : OwnsR w T (Rep.sz α) v n xs) (hx : Rw H v xs ys) (hs' : 0 < Rep.sz α) (hb : ∀ b o, v.ownBlock = some b → w.heap[b]? = some o → H b = some o) : RdS H v ys := by
  obtain ⟨hl, hh⟩ := h
  have hn : n = ys.length := by
    have := hx.rd.len
    rw [hl] at this
    exact Nat.eq_of_mul_eq_mul_right hs' this
  subst hn
  rcases hh with ⟨rfl, h0⟩ | ⟨g, off, cap, cur, rfl, hg, hnc, hcm, hcs, htake⟩
  · exact .inl ⟨⟨_, rfl⟩, List.eq_nil_of_length_eq_zero h0⟩
  · refine .inr ⟨g, off, cap, cur, T, (0, 0), rfl, hnc, hcm, hb g _ rfl hg, hcs, fun k e he => ?_⟩
    obtain ⟨c, h1, h2⟩ := hx.rd.get k e he
    refine ⟨c, h1, fun j d hd => ?_⟩
    have := h2 j d hd
    rw [← htake, List.getElem?_take] at this
    split at this
    · rw [List.getElem?_drop] at this; simpa [Nat.add_assoc] using this
    · cases this

/-- A frame's rest, to its return. -/
theorem leave_of {P : Program} {R : Rt P} {f : FuncId} {fn : Func} {c : Code} {a : Act} {w : World} {cf : Frame} {cs : List Frame} {Stop : Goroutine → World → Prop} (hf : P.funcs[f]? = some fn) (h : wpK R.c c (bodyPostK P fn R) a w)
    (hc : ∀ v w', R.post v w' → Walks R.c Stop (G (cf.finish v) cs) w') : Walks R.c Stop (G ((base f).at a [.code c]) (cf :: cs)) w := by
  have hleave : ∀ (a' : Act) (w' : World) (todo : List Item), (a'.defers = [] ∧ ∃ v, ResultsC P fn a'.tmps v ∧ R.post v w') →
      Walks R.c Stop (G { (base f).at a' todo with mode := .returning } (cf :: cs)) w' := by
    rintro a' w' todo ⟨hd, v, hr, hp⟩
    exact Walks.move rfl (fun w1 => stepG_leave (b := base f) rfl hd hf (hr w1).1 (hr w1).2) fun w1 h1 => (hc v w' hp).rely h1
  refine h (base f) [] _ Stop (by simp [base]) fun e a' w' q => ?_
  cases e with
  | normal => exact Walks.move rfl (fun w1 => stepG_end) fun w1 h1 => (hleave a' w' [] q).rely h1
  | ret => exact fun todo => hleave a' w' todo q
  | exit id => exact q.elim
  | goto l => exact q.elim
  | panic ch => exact q.elim
  | outgrown => exact q.elim

/-- Behind the pool: what the workers have left is put together. -/
theorem collect_tail {c : Bs CPR} {B : Nat} {H : Hp} {rs : List (List S_api_TelemetryMsg)} {cc r1 : List S_api_TelemetryMsg} {vL : Value} {bL : Nat} {T : Array Value} {cf : Frame} {cs : List Frame} {w : World} {Stop : Goroutine → World → Prop}
    (hcc : m_slices_Concat_api_TelemetryMsg_api_TelemetryMsg rs = some cc) (hr1 : m_second_taken cc = some r1) (hbL : H bL = some (.cells #[vL] 22)) (hrs : RdS H vL rs) (hs : Sl 44 [(6, .pointer (some ⟨bL, 0, none⟩))] ⟨T, []⟩) (ht : St B c H [] w)
    (hk : ∀ qv qxs w', St B c H [.row qv 29 4 r1.length qxs] w' → RwF qv qxs r1 → Walks c Stop (G (cf.finish (.tuple #[qv, .int .i64 0])) cs) w') :
    Walks c Stop (G (b7.at ⟨T, []⟩ (.inRegion o7_19.toArray [] :: [.code tail20])) (cf :: cs)) w := by
  refine mv rfl (fun _ => stepG_region_end) ?_
  have hC : Sim.C ⟨44, B, c⟩ tail20 (bodyPostK CPR f7 (Ret B c fun H' M' v => H' = H ∧ ∃ qv qxs, M' = [.row qv 29 4 r1.length qxs] ∧ RwF qv qxs r1 ∧ v = .tuple #[qv, .int .i64 0])) H [] [(6, .pointer (some ⟨bL, 0, none⟩))] := by
    refine C_seq ?_
    refine C_region ?_
    refine W_load rfl rfl isAgg22 rfl (box_cell hbL).at ?_
    refine W_call call18 rfl rfl rfl (fun w ht => by have h := m_slices_Concat_api_TelemetryMsg_api_TelemetryMsg_c (hm := hcc) hrs ht; exact h) ?_
    rintro _ _ _ ⟨rfl, v1, xs1, rfl, rfl, h1⟩
    refine W_call call16 rfl rfl rfl (fun w ht => by obtain ⟨H0_, hl0_, ht0_, hr0_, bk0_⟩ := ht.lendRow (h1 _) rfl; have h := m_second_taken_c (hm := hr1) hr0_ ht0_; exact lend_back bk0_ h) ?_
    rintro _ _ _ ⟨rfl, _, rfl, qv, qxs, rfl, rfl, hq⟩
    refine W_assign rfl rfl rfl ?_
    refine W_assign rfl rfl rfl ?_
    refine W_end (E_then ?_)
    refine C_ret ?_
    refine E_drop (List.Sublist.cons _ (List.Sublist.refl _)) ?_
    exact end2 rfl rfl rfl ⟨rfl, qv, qxs, rfl, hq, rfl⟩
  refine leave_of (R := Ret B c _) (f := 7) func7 (hC ⟨T, []⟩ w hs ht) fun v w' hp => ?_
  obtain ⟨H', M', hst, rfl, qv, qxs, rfl, hq, rfl⟩ := hp
  exact hk qv qxs w' hst hq
end Go.Sim
end

section
set_option linter.unusedVariables false
set_option linter.unusedSimpArgs false
set_option maxRecDepth 100000
set_option maxHeartbeats 4000000
namespace Go.Sim
open Go Go.Conc Go.Proofs.Try
open Go.ConcN (WgLive)
open Go.ConcR (KK WgAt stA smA wgBlock)

theorem mk_not_gp {P : Program} {m0 : Machine} {k b : Nat} (h : Mk P m0 k b) (hk : k ≠ 0) : ¬ Gp P m0 b := by
  obtain ⟨n, m, t, hbn, ha, hw⟩ := h
  rintro ⟨n', m', t', a, hbn', ha', hw', _⟩
  obtain rfl := hbn.uniq hbn'
  obtain ⟨rfl, _⟩ := ha.fun ha'
  rw [hw] at hw'
  exact hk (Option.some.inj hw')
/-- What is new, beside what stood. -/
theorem st_back {m0 : Machine} {w0 w w' : World} {B : Nat} {H H' : Hp} {M : List Res} {v : Value} {n : Nat} {xs : List Value} (ht : St B (bare m0 w0) H M w) (hst : St w.heap.size (bare m0 w) H' [.row v 29 4 n xs] w') (hsz : w.heap.size ≤ w'.heap.size)
    (hch : ∀ b o, ¬ Gp CPR m0 b → w.heap[b]? = some o → w'.heap[b]? = some o) : St B (bare m0 w0) H (.row v 29 4 n xs :: M) w' := by
  have hkin : ∀ b o, H b = some o → ¬ Gp CPR m0 b := fun b o h => (ht.kin b o h).elim id False.elim
  have hfeet : ∀ r ∈ M, ∀ b ∈ r.feet, b < w.heap.size := fun r hr b hb => Res.feet_lt (ht.ok r hr) hb
  have hrow : ∀ b ∈ (Res.row v 29 4 n xs).feet, w.heap.size ≤ b := fun b hb => (hst.lo _ (.head _) b hb).1
  refine ⟨⟨hst.below.tape.trans ht.below.tape, hst.below.os.trans ht.below.os, hst.below.output.trans ht.below.output⟩, Nat.le_trans ht.le hsz, fun b o hb => hch b o (hkin b o hb) (ht.hin b o hb), fun r hr => ?_, fun r hr b hb => ?_, ?_, ht.kin, fun r hr b hb => ?_, fun b h => h.elim⟩
  · rcases List.mem_cons.1 hr with rfl | hr
    · exact hst.ok _ (.head _)
    · refine Res.same (ht.ok r hr) hsz fun b hb => ?_
      have hlt := hfeet r hr b hb
      rw [Array.getElem?_eq_getElem hlt]
      exact hch b _ (ht.kown r hr b hb) (Array.getElem?_eq_getElem hlt)
  · rcases List.mem_cons.1 hr with rfl | hr
    · have h1 := hrow b hb
      refine ⟨Nat.le_trans ht.le h1, ?_⟩
      cases hH : H b with
      | none => rfl
      | some o => have := ht.lt hH; omega
    · exact ht.lo r hr b hb
  · rw [List.flatMap_cons]
    refine List.nodup_append.2 ⟨?_, ht.nd, fun x hx y hy e => ?_⟩
    · have := hst.nd
      simpa using this
    · subst e
      obtain ⟨r, hr, hb⟩ := List.mem_flatMap.1 hy
      have h1 := hfeet r hr x hb
      have h2 := hrow x hx
      omega
  · rcases List.mem_cons.1 hr with rfl | hr
    · exact hst.kown _ (.head _) b hb
    · exact ht.kown r hr b hb

theorem collect_pays {m0 : Machine} {n : Nat} {gs : Array Goroutine} {w : World} {sl : Option (Nat × Nat)} {t : Trace} {q : Nat → Nat} {a : Goroutine} {S : Goroutine → World → Prop} (f : Fr CPR m0 (fun _ => True) n gs w sl t q a) (hJ : CollectJ m0 a w S) :
    Comes0 CPR m0 (fun _ => True) n S := by
  obtain ⟨B, w0, H, M, s, v0, k, r, cf, cs, rfl, h0, hm, ht, hS⟩ := hJ
  unfold m_second_Collect at hm
  obtain ⟨⟨hk1, hk2, hs8⟩, hm⟩ := need_some hm
  simp only [Option.bind_eq_some_iff, Option.some.injEq] at hm
  obtain ⟨rs, hrs, cc, hcc, r1, hr1, rfl⟩ := hm
  obtain ⟨kn, rfl⟩ : ∃ kn : Nat, k = kn := ⟨k.toNat, by omega⟩
  have f1 : Fr CPR m0 (fun c => c < w.heap.size) n gs w sl t q (G (Frame.enter CPR 7 #[v0, .int .i64 kn] .normal) (cf :: cs)) :=
    ⟨f.at_, f.h0, f.lv, f.past, f.grew, fun op hop => ⟨(f.ops op hop).mem, (f.ops op hop).gs, (f.ops op hop).quiet, fun c i cap e => by have := f.past.seen op hop; rw [e] at this; exact this, (f.ops op hop).norel⟩⟩
  have hle1 : H.le (snapG m0 w) := fun b o hb => snapG_of ((ht.kin b o hb).elim id False.elim) (ht.hin b o hb)
  obtain ⟨n1, gs1, w1, sl1, t1, q1, a1, hn1, f2, T, bS, bL, bN, C, Ch, zs, hz, hsl, ht1, rfl⟩ :=
    walk_bare (collect_front (c := bare m0 w) (B := w.heap.size) (cf := cf) (cs := cs) (h0.mono hle1) hk1 hk2 hs8 (st_snap (w := w) ⟨rfl, rfl, rfl⟩ (Nat.le_refl _))) f1
  obtain ⟨n2, gs2, w3, sl3, t3, q3, a3, hn2, f3, w2, e2, rfl, rfl, hnew⟩ :=
    one_step f2 rfl (fun w => G (b7.at ⟨T.setIfInBounds 8 (.pointer (some ⟨w.heap.size, 0, none⟩)), []⟩ (.inRegion o7_7.toArray [] :: [.code tail8])) (cf :: cs)) (fun w => w.alloc (wgBlock 57 0 0)) (fun w1 _ => ⟨group_step w1, by show w1.heap.size ≤ (w1.heap.push _).size; rw [Array.size_push]; omega⟩)
  have hh : w2.heap = w1.heap := by rw [e2]; rfl
  have hsz3 : (w2.alloc (wgBlock 57 0 0)).heap.size = w1.heap.size + 1 := by show (w2.heap.push _).size = _; rw [Array.size_push, hh]
  have get3 : ∀ b o, w1.heap[b]? = some o → (w2.alloc (wgBlock 57 0 0)).heap[b]? = some o := fun b o h => by
    have hlt := (Array.getElem?_eq_some_iff.1 h).1
    show (w2.heap.push _)[b]? = _
    rw [hh, Array.getElem?_push_lt hlt, ← Array.getElem?_eq_getElem]
    exact h
  have getW : (w2.alloc (wgBlock 57 0 0)).heap[w1.heap.size]? = some (wgBlock 57 0 0) := by
    show (w2.heap.push _)[_]? = _
    rw [hh, Array.getElem?_push_size]
  obtain ⟨_, gW⟩ := hnew w1.heap.size (by rw [hh]; exact Nat.le_refl _) (by rw [hsz3]; omega)
  have gW := gW rfl
  rw [hh] at f3
  -- the five blocks
  have oN : w1.heap[bN]? = some (.cells [.chan (some Ch)].toArray 47 (0, 0)) := ht1.ok (.obj bN _) (.head _)
  have oCh : w1.heap[Ch]? = some (.chan 0 #[] false 0 0 false) := ht1.ok (.obj Ch _) (.tail _ (.head _))
  have oL : w1.heap[bL]? = some (.cells [.slice (some ⟨C, 0, none⟩) s.length s.length].toArray 22 (0, 0)) := ht1.ok (.obj bL _) (.tail _ (.tail _ (.head _)))
  have oC : w1.heap[C]? = some (.cells zs 27 (0, 0)) := ht1.ok (.obj C _) (.tail _ (.tail _ (.tail _ (.head _))))
  have oS : w1.heap[bS]? = some (.cells [v0].toArray 22 (0, 0)) := ht1.ok (.obj bS _) (.tail _ (.tail _ (.tail _ (.tail _ (.head _)))))
  have lCh : w.heap.size ≤ Ch := (ht1.lo (.obj Ch _) (.tail _ (.head _)) Ch (List.mem_singleton.2 rfl)).1
  have lC : w.heap.size ≤ C := (ht1.lo (.obj C _) (.tail _ (.tail _ (.tail _ (.head _)))) C (List.mem_singleton.2 rfl)).1
  have gN : ¬ Gp CPR m0 bN := ht1.kown (.obj bN _) (.head _) bN (List.mem_singleton.2 rfl)
  have gCh : ¬ Gp CPR m0 Ch := ht1.kown (.obj Ch _) (.tail _ (.head _)) Ch (List.mem_singleton.2 rfl)
  have gL : ¬ Gp CPR m0 bL := ht1.kown (.obj bL _) (.tail _ (.tail _ (.head _))) bL (List.mem_singleton.2 rfl)
  have gC : ¬ Gp CPR m0 C := ht1.kown (.obj C _) (.tail _ (.tail _ (.tail _ (.head _)))) C (List.mem_singleton.2 rfl)
  have gS : ¬ Gp CPR m0 bS := ht1.kown (.obj bS _) (.tail _ (.tail _ (.tail _ (.tail _ (.head _))))) bS (List.mem_singleton.2 rfl)
  have tN := (Array.getElem?_eq_some_iff.1 oN).1
  have tCh := (Array.getElem?_eq_some_iff.1 oCh).1
  have tL := (Array.getElem?_eq_some_iff.1 oL).1
  have tC := (Array.getElem?_eq_some_iff.1 oC).1
  have tS := (Array.getElem?_eq_some_iff.1 oS).1
  have hnd := ht1.nd
  simp only [Res.feet, List.flatMap_cons, List.flatMap_nil, List.append_nil, List.singleton_append, List.cons_append, List.nil_append, List.nodup_cons, List.mem_cons, List.not_mem_nil, or_false, not_or, not_false_eq_true, List.nodup_nil, and_true] at hnd
  obtain ⟨⟨x1, x2, x3, x4⟩, ⟨x5, x6, x7⟩, ⟨x8, x9⟩, x10⟩ := hnd
  have hw1 : w.heap.size ≤ w1.heap.size := ht1.le
  have O : (mkCD m0 gs2.size kn (w2.alloc (wgBlock 57 0 0)) C Ch w1.heap.size bS bL bN v0 s cf cs).Ok := by
    refine mk_ok (H1 := snapG m0 w) (get3 _ _ oS) (get3 _ _ oL) (get3 _ _ oN) ⟨by omega, Ne.symm x7, Ne.symm x10, gS⟩ ⟨by omega, Ne.symm x5, x8, gL⟩ ⟨by omega, x1, x3, gN⟩ (fun b o hb => ?_) (h0.mono hle1) hs8 (fun l hl => ?_)
      (by rw [hsz3]; omega) (by rw [hsz3]; omega) (by omega) (by rw [hsz3]; omega) (by omega) (Ne.symm x6) gC gW (Nat.lt_of_le_of_lt (Nat.zero_le _) (Array.getElem?_eq_some_iff.1 f3.h0).1) (by omega) (by omega)
    · have hb1 := ht1.hin b o hb
      have hlt : b < w.heap.size := (Array.getElem?_eq_some_iff.1 (snapG_some hb).2).1
      exact ⟨get3 b o hb1, by omega, by omega, by omega, (snapG_some hb).1⟩
    · obtain ⟨i, hi⟩ := List.getElem?_of_mem hl
      obtain ⟨r, _, h2⟩ := (takes_get hrs).2 i l hi
      exact ⟨r, h2⟩
  obtain ⟨d, hd⟩ : ∃ d, d = mkCD m0 gs2.size kn (w2.alloc (wgBlock 57 0 0)) C Ch w1.heap.size bS bL bN v0 s cf cs := ⟨_, rfl⟩
  rw [← hd] at O
  have dm0 : d.m0 = m0 := by rw [hd]; rfl
  have db0 : d.b0 = gs2.size := by rw [hd]; rfl
  have dW : d.W = kn := by rw [hd]; rfl
  have dLow : d.Low = w1.heap.size + 1 := by rw [hd]; exact hsz3
  have dC : d.C = C := by rw [hd]; rfl
  have dCh : d.Ch = Ch := by rw [hd]; rfl
  have dWg : d.Wg = w1.heap.size := by rw [hd]; rfl
  have dw0 : d.w0 = w2.alloc (wgBlock 57 0 0) := by rw [hd]; rfl
  have dbS : d.bS = bS := by rw [hd]; rfl
  have dbL : d.bL = bL := by rw [hd]; rfl
  have dbN : d.bN = bN := by rw [hd]; rfl
  have dst : d.st = s := by rw [hd]; rfl
  have dcf : d.cf = cf := by rw [hd]; rfl
  have dcs : d.cs = cs := by rw [hd]; rfl
  clear hd
  subst dm0 dC dCh dbS dbL dbN dst dcf dcs
  have hR3 : d.RK (w2.alloc (wgBlock 57 0 0)) := by
    refine ⟨by rw [dw0]; exact ⟨rfl, rfl, rfl⟩, by rw [hsz3, dLow]; exact Nat.le_refl _, fun b _ => by rw [dw0], ⟨0, 0, ?_⟩⟩
    show (w2.alloc (wgBlock 57 0 0)).heap[d.Wg]? = _
    rw [dWg]; exact getW
  have hT : d.TC (T.setIfInBounds 8 (.pointer (some ⟨w1.heap.size, 0, none⟩))) := by
    refine ⟨by simpa using hsl.size, ?_, ?_, ?_, ?_, ?_⟩
    · rw [Array.getElem?_setIfInBounds_ne (by decide), dW]; exact hsl.get 1 _ rfl
    · rw [Array.getElem?_setIfInBounds_ne (by decide)]; exact hsl.get 2 _ rfl
    · rw [Array.getElem?_setIfInBounds_ne (by decide)]; exact hsl.get 6 _ rfl
    · rw [Array.getElem?_setIfInBounds_ne (by decide)]; exact hsl.get 7 _ rfl
    · rw [dWg]; exact Array.getElem?_setIfInBounds_self_of_lt (by have : T.size = 44 := hsl.size; omega)
  have hstart := start_walk O hT hR3
  obtain ⟨n4, gs4, w4, sl4, t4, q4, a4, hn4, f4, ⟨⟨T4, hT4, rfl⟩, hR4⟩, ⟨cs4, hC4, hsz4⟩, hlow4, Bf, hBf, hkept⟩ :=
    pool_ends (p := d.pd) (d.geo O) (pd_laws O) (Z := fun c => c < w.heap.size) (by show ¬ d.Ch < w.heap.size; omega) f3 db0.symm (by show d.Low ≤ _; rw [hsz3, dLow]; exact Nat.le_refl _)
      (by show (w2.alloc (wgBlock 57 0 0)).heap[d.Wg]? = _; rw [dWg]; exact getW) (get3 _ _ oCh) ⟨zs, get3 _ _ oC, hz⟩ hstart
  have hC4 : w4.heap[d.C]? = some (.cells cs4 27) := hC4
  have hsz4 : cs4.size = d.st.length := hsz4
  obtain ⟨hlen, htk⟩ := takes_get hrs
  have hchain : ∀ b o, ¬ Gp CPR d.m0 b → w.heap[b]? = some o → w4.heap[b]? = some o := fun b o hg hb => by
    have hlt := (Array.getElem?_eq_some_iff.1 hb).1
    have h1 := get3 b o (ht1.hin b o (snapG_of hg hb))
    have hRb : d.R b := ⟨by omega, by omega, by omega, by omega, hg⟩
    rw [hR4.heap b hRb, dw0]; exact h1
  have hres : ∀ (i : Nat) (l : List S_api_TelemetryMsg), d.st[i]? = some l → ∃ v r qxs, rs[i]? = some r ∧ cs4[i]? = some v ∧ OwnsR w4 29 4 v r.length qxs ∧ RwF v qxs r ∧ ∀ b, v.ownBlock = some b → ¬ Gp CPR d.m0 b := by
    intro i l hi
    have hlt : i < d.n := (List.getElem?_eq_some_iff.1 hi).1
    obtain ⟨k, v, w5, hk, ⟨l', r', qxs, hl', hr', ho, hw, hb⟩, h1, h2, h3, h4⟩ := hkept i hlt
    rw [hi] at hl'
    cases hl'
    obtain ⟨r, hr, hr2⟩ := htk i l hi
    rw [hr'] at hr2
    cases hr2
    refine ⟨v, r', qxs, hr, ?_, OwnsR.same ho (fun b e => h4 b (hb b e).2.2 (.inl ⟨(hb b e).1, (hb b e).2.1⟩)), hw, fun b e => mk_not_gp (hb b e).1 (by have := O.b1; omega)⟩
    have h3' : w4.cell? ⟨d.C, i, none⟩ = some v := h3
    simpa [World.cell?, hC4] using h3'
  have hrsd : RdS (snapG d.m0 w4) d.vL rs := by
    rw [O.vL]
    refine .inr ⟨d.C, 0, d.n, cs4, 27, (0, 0), by rw [hlen]; rfl, by rw [hlen]; exact Nat.le_refl _, by have := O.nb; unfold maxLen; omega, snapG_of O.gC hC4, by rw [hsz4]; show 0 + d.n * 1 ≤ d.n; omega, fun k e he => ?_⟩
    have hkl : k < d.st.length := by rw [← hlen]; exact (List.getElem?_eq_some_iff.1 he).1
    obtain ⟨v, r, qxs, hr, hv, ho, hw, hg⟩ := hres k _ (List.getElem?_eq_getElem hkl)
    rw [he] at hr
    cases hr
    refine ⟨[v], ⟨v, rfl, rdS_own (α := S_api_TelemetryMsg) ho (hw _) (by decide) fun b o h1 h2 => snapG_of (hg b h1) h2⟩, fun j c hc => ?_⟩
    cases j with
    | zero => simp only [List.getElem?_cons_zero, Option.some.injEq] at hc; subst hc; show cs4[0 + k * 1 + 0]? = some v; rw [show 0 + k * 1 + 0 = k by omega]; exact hv
    | succ j => simp at hc
  have hbL : snapG d.m0 w4 d.bL = some (.cells #[d.vL] 22) := by
    obtain ⟨hRb, h0b⟩ := O.hH _ _ O.box2
    exact snapG_of hRb.2.2.2.2 ((hR4.heap _ hRb).trans h0b)
  have hsame : Same w w4 := by
    have h1 := hR4.same
    rw [dw0, e2] at h1
    have h2 : Same w w1 := ht1.below
    exact ⟨h1.tape.trans h2.tape, h1.os.trans h2.os, h1.output.trans h2.output⟩
  have hsz14 : w.heap.size ≤ w4.heap.size := by have := hR4.size; omega
  have hs6 : Sl 44 [(6, .pointer (some ⟨d.bL, 0, none⟩))] ⟨T4, []⟩ := by
    refine ⟨hT4.size, rfl, fun t v hl => ?_⟩
    simp only [lk_cons] at hl
    split at hl
    · rename_i e; subst e; rw [← hl]; exact hT4.t6
    · cases hl
  refine (walk_bare (w0 := w) (collect_tail (Stop := S) (B := w.heap.size) hcc hr1 hbL hrsd hs6 (st_snap hsame hsz14) fun qv qxs w' hst hq => .stop fun w'' o => hS qv qxs w'' ?_ hq) f4).later (by omega)
  have hst' := hst.oth o
  exact st_back ht hst' hst'.le fun b o hg hb => hst'.hin b o (snapG_of hg (hchain b o hg hb))
end Go.Sim
end

section
set_option linter.unusedVariables false
set_option linter.unusedSimpArgs false
namespace Go.Sim
open Go Go.Conc Go.Proofs.Try

/-- A walk whose calls of Collect's are paid. -/
class JCol (c : Bs CPR) : Prop where
  ex : ∃ m0, c.K = (fun b => ¬ Gp CPR m0 b) ∧ c.R = (fun _ => False) ∧ c.J = CollectJ m0

theorem st_as {B : Nat} {c c' : Bs CPR} {H : Hp} {M : List Res} {w : World} (h : St B c H M w) (hw : c'.w = c.w) (hK : c'.K = c.K) (hR : c'.R = c.R) : St B c' H M w :=
  ⟨by rw [hw]; exact h.below, h.le, h.hin, h.ok, h.lo, h.nd, fun b o hb => by rw [hK, hR]; exact h.kin b o hb, fun r hr b hb => by rw [hK]; exact h.kown r hr b hb, fun b hb => by rw [hR] at hb; exact h.rlow b hb⟩

theorem m_second_Collect_c {B : Nat} {w0 : Bs Proofs.Try.prog} [hJ : JCol w0] {w : World} {H : Hp} {M : List Res} {stations : List (List S_api_TelemetryMsg)} {workers : Int} {v0 : Value} {r : List S_api_TelemetryMsg × Int} (hm : m_second_Collect stations workers = some r) (h0 : RdS H v0 stations) (ht : St B w0 H M w) :
    Calls Proofs.Try.prog 7 [v0, .int .i64 workers].toArray w (Ret B w0 fun H' M' v => H = H' ∧ ∃ qv0 : Value, ∃ qxs0 : List Value, .row qv0 29 (Rep.sz S_api_TelemetryMsg) r.1.length qxs0 :: M = M' ∧ .tuple #[qv0, .int .i64 r.2] = v ∧ RwF qv0 qxs0 r.1) := by
  obtain ⟨m0, hK, hR, hJ⟩ := hJ.ex
  have hnm : (f7.name == "runtime.NumGoroutine") = false := by kernel_rfl
  refine ⟨⟨f7, c7, func7, hnm, body7⟩, fun cf cs Stop hc => ?_⟩
  refine .jump (fun g' w' => ∃ v, g' = G (cf.finish v) cs ∧ (Ret B w0 fun H' M' v => H = H' ∧ ∃ qv0 : Value, ∃ qxs0 : List Value, .row qv0 29 (Rep.sz S_api_TelemetryMsg) r.1.length qxs0 :: M = M' ∧ .tuple #[qv0, .int .i64 r.2] = v ∧ RwF qv0 qxs0 r.1).post v w') (fun w1 h1 => ?_) ?_
  · show w0.J _ w1 _
    rw [hJ]
    exact ⟨B, w0.w, H, M, stations, v0, workers, r, cf, cs, rfl, h0, hm, st_as (ht.oth h1) rfl hK.symm hR.symm, fun qv qxs w' hst hw => ⟨_, rfl, H, _, st_as hst rfl hK hR, rfl, qv, qxs, rfl, rfl, hw⟩⟩
  · rintro g' w' ⟨v, rfl, hp⟩
    exact hc v w' hp
end Go.Sim
end

section
set_option linter.unusedVariables false
set_option linter.unusedSimpArgs false
set_option maxRecDepth 100000
set_option maxHeartbeats 4000000
namespace Go.Sim
open Go Go.Conc Go.Proofs.Try

abbrev Pg_nst := List (Value × Nat × List Value)
def Pr_nst (v : Value) (g : Pg_nst) (_ : List (List S_api_TelemetryMsg)) : List Res := .row v 27 1 g.length (g.map Prod.fst) :: g.map fun p => .row p.1 29 4 p.2.1 p.2.2
def Pf_nst (_ : Hp) (g : Pg_nst) (e : List (List S_api_TelemetryMsg)) : Prop := g.length = e.length ∧ ∀ (i : Nat) (p : Value × Nat × List Value) (l : List S_api_TelemetryMsg), g[i]? = some p → e[i]? = some l → p.2.1 = l.length ∧ RwF p.1 p.2.2 l
theorem Pf_nst.mono {H H' : Hp} {g : Pg_nst} {e : List (List S_api_TelemetryMsg)} (_ : H.le H') (h : Pf_nst H g e) : Pf_nst H' g e := h
def nst0 (n : Nat) : Pg_nst := List.replicate n (.slice none 0 0, 0, [])
theorem nst0_ok {H : Hp} {n : Nat} : Pf_nst H (nst0 n) (List.replicate n ([] : List S_api_TelemetryMsg)) := by
  refine ⟨by simp [nst0], fun i p l hp hl => ?_⟩
  have h1 := List.eq_of_mem_replicate (List.mem_of_getElem? hp)
  have h2 := List.eq_of_mem_replicate (List.mem_of_getElem? hl)
  subst h1 h2
  exact ⟨rfl, fun H => Rw.nil⟩

theorem st_nils {B : Nat} {P : Program} {c : Bs P} {H : Hp} {M : List Res} {w : World} (h : St B c H M w) (T sz : Nat) : ∀ n, St B c H (List.replicate n (.row (.slice none 0 0) T sz 0 []) ++ M) w
  | 0 => h
  | n + 1 => by rw [List.replicate_succ, List.cons_append]; exact (st_nils h T sz n).nilRow T sz

section
variable {P : Program} {x : Cx P} {ops : Array Oper} {Q : Post} {rest : List Oper} {H : Hp} {M : List Res} {L : Env} {d : Nat} {ty : TypeId} {pos : String} {aft : Array Edge} {g : Option (Nat × Bool)}
theorem W_makeNst {n : Int} {t bytes : Nat} {z : Value} {y y2 : Operand}
    (hg : gd ops L ⟨some d, .makeSlice t y y2, ty, pos, aft, g⟩ = some true) (hN : Nat.blt d x.N = true)
    (hT : P.underlying t = some (.slice 27)) (hi : TyI P 27 1 bytes z) (hz : z.cells = #[.slice none 0 0]) (hb0 : Nat.blt 0 bytes = true)
    (hy : ev L y = some (.int .i64 n)) (hy2 : ev L y2 = some (.int .i64 n)) (h0 : 0 ≤ n) (hb : n * bytes ≤ 140737488355328)
    (k : ∀ v, W x ops Q rest H (packOf (Pr_nst v (nst0 n.toNat) (List.replicate n.toNat ([] : List S_api_TelemetryMsg))) :: M) ((d, v) :: L)) :
    W x ops Q (⟨some d, .makeSlice t y y2, ty, pos, aft, g⟩ :: rest) H M L := by
  obtain ⟨m, rfl⟩ : ∃ m : Nat, n = m := ⟨n.toNat, by omega⟩
  simp only [Int.toNat_natCast] at k
  have hcast : ((m * bytes : Nat) : Int) = (m : Int) * (bytes : Int) := Int.natCast_mul m bytes
  have hb0' : 0 < bytes := by simpa [Nat.blt_eq] using hb0
  have hm : m ≤ m * bytes := Nat.le_mul_of_pos_right _ hb0'
  refine W_makeObj2 hg hN hT hi hz hb0 hy hy2 (by omega) fun b => ?_
  intro a w hs ht
  refine k (.slice (some ⟨b, 0, none⟩) m m) a w hs ?_
  have hob : w.heap[b]? = some (.cells (List.replicate m (.slice none 0 0)).toArray 27 (0, 0)) := ht.ok _ (List.mem_cons_self ..)
  have h1 : St x.B x.w0 H (.row (.slice (some ⟨b, 0, none⟩) m m) 27 1 m (List.replicate m (.slice none 0 0)) :: M) w := by
    refine ⟨ht.below, ht.le, ht.hin, fun r hr => ?_, fun r hr => ?_, ht.nd, ht.kin, fun r hr => ?_, ht.rlow⟩
    · rcases List.mem_cons.1 hr with rfl | hr
      · exact ⟨by simp, .inr ⟨b, 0, m, _, rfl, hob, Nat.le_refl _, by unfold maxLen; omega, by simp, by simp⟩⟩
      · exact ht.tail.ok r hr
    · rcases List.mem_cons.1 hr with rfl | hr
      · exact fun y hy => ht.lo (.obj b _) (List.mem_cons_self ..) y hy
      · exact ht.tail.lo r hr
    · rcases List.mem_cons.1 hr with rfl | hr
      · exact ht.kown (.obj b _) (List.mem_cons_self ..)
      · exact ht.tail.kown r hr
  have h2 := (st_nils h1 29 4 m).perm List.perm_middle
  have e : Pr_nst (.slice (some ⟨b, 0, none⟩) m m) (nst0 m) (List.replicate m ([] : List S_api_TelemetryMsg)) ++ M = .row (.slice (some ⟨b, 0, none⟩) m m) 27 1 m (List.replicate m (.slice none 0 0)) :: (List.replicate m (.row (.slice none 0 0) 29 4 0 []) ++ M) := by
    simp [Pr_nst, nst0, List.map_replicate]
  rw [← e] at h2
  exact h2.pack

/-- What is owned together becomes memory that only is read. -/
theorem C_nstFrz {c : Code} {v : Value} {pg : Pg_nst} {e : List (List S_api_TelemetryMsg)} (hf : Pf_nst H pg e) (k : ∀ H', H.le H' → RdS H' v e → Sim.C x c Q H' M L) : Sim.C x c Q H (packOf (Pr_nst v pg e) :: M) L := by
  intro a w hs ht
  have ht' := ht.unpack
  have hrow : OwnsR w 27 1 v pg.length (pg.map Prod.fst) := ht'.ok (.row v 27 1 pg.length (pg.map Prod.fst)) (by simp [Pr_nst])
  have hel : ∀ p ∈ pg, OwnsR w 29 4 p.1 p.2.1 p.2.2 := fun p hp => ht'.ok (.row p.1 29 4 p.2.1 p.2.2) (by simp only [Pr_nst, List.cons_append, List.mem_cons, List.mem_append, List.mem_map]; exact .inr (.inl ⟨p, hp, rfl⟩))
  obtain ⟨fs, hfs⟩ : ∃ fs, fs = (Pr_nst v pg e).flatMap Res.feet := ⟨_, rfl⟩
  have hmem : ∀ b, b ∈ fs ↔ ∃ r ∈ Pr_nst v pg e, b ∈ r.feet := fun b => by rw [hfs]; exact List.mem_flatMap
  have hnd := ht'.nd
  rw [List.flatMap_append, ← hfs] at hnd
  have hd := (List.nodup_append.1 hnd).2.2
  obtain ⟨H', hH'⟩ : ∃ H' : Hp, H' = fun b => if b ∈ fs then w.heap[b]? else H b := ⟨_, rfl⟩
  have hin' : ∀ b, b ∈ fs → H' b = w.heap[b]? := fun b hb => by rw [hH']; exact if_pos hb
  have hout' : ∀ b, b ∉ fs → H' b = H b := fun b hb => by rw [hH']; exact if_neg hb
  have hfree : ∀ b, b ∈ fs → H b = none := fun b hb => by
    obtain ⟨r, hr, hrb⟩ := (hmem b).1 hb
    exact (ht'.lo r (List.mem_append_left _ hr) b hrb).2
  have hle : H.le H' := fun b o hb => by
    have : b ∉ fs := fun hm => by rw [hfree b hm] at hb; cases hb
    rw [hout' b this]; exact hb
  have hst : St x.B x.w0 H' M w := by
    refine ⟨ht'.below, ht'.le, fun b o hb => ?_, fun r hr => ht'.ok r (List.mem_append_right _ hr), fun r hr b hb => ⟨(ht'.lo r (List.mem_append_right _ hr) b hb).1, ?_⟩, (List.nodup_append.1 hnd).2.1, fun b o hb => ?_, fun r hr => ht'.kown r (List.mem_append_right _ hr), ht'.rlow⟩
    · by_cases hm : b ∈ fs
      · rw [hin' b hm] at hb; exact hb
      · rw [hout' b hm] at hb; exact ht'.hin b o hb
    · have : b ∉ fs := fun hm => hd b hm b (List.mem_flatMap.2 ⟨r, hr, hb⟩) rfl
      rw [hout' b this]; exact (ht'.lo r (List.mem_append_right _ hr) b hb).2
    · by_cases hm : b ∈ fs
      · obtain ⟨r, hr, hrb⟩ := (hmem b).1 hm
        exact .inl (ht'.kown r (List.mem_append_left _ hr) b hrb)
      · rw [hout' b hm] at hb; exact ht'.kin b o hb
  refine k H' hle ?_ a w hs hst
  obtain ⟨hlen, hel2⟩ := hf
  rcases hrow.2 with ⟨rfl, h0⟩ | ⟨gb, off, cap, cur, rfl, hg, hnc, hcm, hcs, htk⟩
  · exact .inl ⟨⟨_, rfl⟩, List.eq_nil_of_length_eq_zero (by omega)⟩
  · have hgm : gb ∈ fs := (hmem gb).2 ⟨.row _ 27 1 _ _, List.mem_cons_self .., by simp [Res.feet, Value.ownBlock]⟩
    refine .inr ⟨gb, off, cap, cur, 27, (0, 0), by rw [hlen], by omega, hcm, by rw [hin' gb hgm]; exact hg, hcs, fun i l hl => ?_⟩
    have hil : i < pg.length := by rw [hlen]; exact (List.getElem?_eq_some_iff.1 hl).1
    obtain ⟨p, hp⟩ : ∃ p, pg[i]? = some p := ⟨_, List.getElem?_eq_getElem hil⟩
    obtain ⟨h1, h2⟩ := hel2 i p l hp hl
    have hpm := List.mem_of_getElem? hp
    refine ⟨[p.1], ⟨p.1, rfl, rdS_own (α := S_api_TelemetryMsg) (hel p hpm) (h2 _) (by decide) fun b o hb ho => ?_⟩, fun j u hu => ?_⟩
    · have : b ∈ fs := (hmem b).2 ⟨.row p.1 29 4 p.2.1 p.2.2, by simp only [Pr_nst, List.mem_cons, List.mem_map]; exact .inr ⟨p, hpm, rfl⟩, by simp [Res.feet, hb]⟩
      rw [hin' b this]; exact ho
    · cases j with
      | zero =>
        simp only [List.getElem?_cons_zero, Option.some.injEq] at hu
        subst hu
        have h3 : (pg.map Prod.fst)[i]? = some p.1 := by rw [List.getElem?_map, hp]; rfl
        rw [← htk, List.getElem?_take] at h3
        split at h3
        · rw [List.getElem?_drop] at h3
          show cur[off + i * 1 + 0]? = some p.1
          rw [Nat.mul_one, Nat.add_zero]; simpa using h3
        · cases h3
      | succ j => simp at hu
end

def o3_13 : List Oper := [
  ⟨some 67, .move (.tmp 5), 22, "whole.go:302", #[], none⟩,
  ⟨some 68, .move (.tmp 8), 3, "whole.go:302", #[], none⟩,
  ⟨some 69, .move (.tmp 5), 22, "whole.go:302", #[], none⟩,
  ⟨some 70, .move (.tmp 8), 3, "whole.go:302", #[], none⟩,
  ⟨some 71, .indexAddr 22 (.tmp 69) (.tmp 70), 0, "whole.go:302", #[{ on := 2, ground := .data }, { on := 3, ground := .data }], none⟩,
  ⟨some 72, .load 27 (.tmp 71), 27, "whole.go:302", #[{ on := 4, ground := .data }], none⟩,
  ⟨some 73, .load 29 (.tmp 11), 29, "whole.go:302", #[], none⟩,
  ⟨some 74, .buildSlice 27 1 #[(0, (.tmp 73))], 27, "whole.go:302", #[{ on := 6, ground := .data }], none⟩,
  ⟨some 75, .call { callee := .builtin .append, args := #[(.tmp 72), (.tmp 74)], argTypes := #[27, 27] }, 27, "whole.go:302", #[{ on := 5, ground := .data }, { on := 7, ground := .data }], none⟩,
  ⟨some 76, .indexAddr 22 (.tmp 67) (.tmp 68), 0, "whole.go:302", #[{ on := 0, ground := .data }, { on := 1, ground := .data }, { on := 0, ground := .phase }, { on := 1, ground := .phase }, { on := 2, ground := .phase }, { on := 3, ground := .phase }, { on := 4, ground := .phase }, { on := 5, ground := .phase }, { on := 6, ground := .phase }, { on := 7, ground := .phase }, { on := 8, ground := .phase }], none⟩,
  ⟨none, .store 27 (.tmp 76) (.tmp 75), 0, "whole.go:302", #[{ on := 9, ground := .data }, { on := 8, ground := .data }, { on := 8, ground := .chain }, { on := 0, ground := .phase }, { on := 1, ground := .phase }, { on := 2, ground := .phase }, { on := 3, ground := .phase }, { on := 4, ground := .phase }, { on := 5, ground := .phase }, { on := 6, ground := .phase }, { on := 7, ground := .phase }, { on := 8, ground := .phase }], none⟩]
end Go.Sim
end

section
set_option linter.unusedVariables false
set_option linter.unusedSimpArgs false
set_option maxRecDepth 100000
set_option maxHeartbeats 4000000
namespace Go.Sim
open Go Go.Conc Go.Proofs.Try

theorem blt_lt {a b n : Nat} (h : Nat.blt b n = true) (hab : a ≤ b) : Nat.blt a n = true := by
  simp only [Nat.blt_eq] at h ⊢
  omega

section
variable {x : Cx CPR} {Q : Post} {H : Hp} {M : List Res} {L : Env}
theorem nst_perm {v : Value} {pg : Pg_nst} {e : List (List S_api_TelemetryMsg)} {i : Nat} {p : Value × Nat × List Value} {o : Res} (hp : pg[i]? = some p) :
    (Pr_nst v pg e ++ (o :: M)).Perm (.row v 27 1 pg.length (pg.map Prod.fst) :: .row p.1 29 4 p.2.1 p.2.2 :: o :: (((pg.take i).map fun p => Res.row p.1 29 4 p.2.1 p.2.2) ++ ((pg.drop (i + 1)).map fun p => Res.row p.1 29 4 p.2.1 p.2.2) ++ M)) := by
  have hlt := (List.getElem?_eq_some_iff.1 hp).1
  have hpi : pg[i] = p := (List.getElem?_eq_some_iff.1 hp).2
  have hsp : pg = pg.take i ++ p :: pg.drop (i + 1) := by
    rw [← hpi, List.getElem_cons_drop, List.take_append_drop]
  unfold Pr_nst
  rw [List.cons_append]
  refine List.Perm.cons _ ?_
  have e1 : (pg.map fun p => Res.row p.1 29 4 p.2.1 p.2.2) = ((pg.take i).map fun p => Res.row p.1 29 4 p.2.1 p.2.2) ++ Res.row p.1 29 4 p.2.1 p.2.2 :: ((pg.drop (i + 1)).map fun p => Res.row p.1 29 4 p.2.1 p.2.2) := by
    conv => lhs; rw [hsp]
    rw [List.map_append, List.map_cons]
  rw [e1]
  generalize ((pg.take i).map fun p => Res.row p.1 29 4 p.2.1 p.2.2) = A
  generalize ((pg.drop (i + 1)).map fun p => Res.row p.1 29 4 p.2.1 p.2.2) = D
  generalize Res.row p.1 29 4 p.2.1 p.2.2 = r
  have h1 : (A ++ r :: D ++ (o :: M)).Perm (r :: (A ++ D ++ (o :: M))) := by
    rw [List.append_assoc, List.cons_append, List.append_assoc]
    exact List.perm_middle
  refine h1.trans (List.Perm.cons _ ?_)
  exact List.perm_middle

theorem lk_app {L X : Env} {t : Nat} {v : Value} (h : lk L t = some v) : lk (L ++ X) t = some v := by
  induction L with
  | nil => cases h
  | cons p L ih =>
    obtain ⟨u, z⟩ := p
    rw [lk_cons] at h
    rw [List.cons_append, lk_cons]
    split
    · rename_i e; rw [if_pos e] at h; exact h
    · rename_i e; rw [if_neg e] at h; exact ih h
theorem Sl.unpush {N : Nat} {t : Nat} {v : Value} {a : Act} (h : Sl N ((t, v) :: L) a) (hn : (lk L t).isNone = true) : Sl N L a := by
  refine ⟨h.size, h.dfr, fun u z hz => h.get u z ?_⟩
  rw [lk_cons]
  split
  · rename_i e; subst e; rw [hz] at hn; cases hn
  · exact hz

theorem C_nstApp {v : Value} {pg : Pg_nst} {e : List (List S_api_TelemetryMsg)} {b : Nat} {y : List S_api_TelemetryMsg} {m : S_api_TelemetryMsg} {i : Int}
    (h5 : lk L 5 = some v) (h8 : lk L 8 = some (.int .i64 i)) (h11 : lk L 11 = some (.pointer (some ⟨b, 0, none⟩)))
    (hf : Pf_nst H pg e) (h0 : 0 ≤ i) (he : e[i.toNat]? = some y) (hz : (y.length + 1) * 40 ≤ 140737488355328)
    (k : ∀ g', Pf_nst H g' (e.set i.toNat (y ++ [m])) → E x .normal Q H (packOf (Pr_nst v g' (e.set i.toNat (y ++ [m]))) :: .obj b (.cells [.string m.Point, .int .i64 m.Number, .int .i64 m.Time, .int .i64 m.Value].toArray 29 (0, 0)) :: M) L)
    (hN : Nat.blt 76 x.N = true := by rfl) (hD : dstsB2 o3_13 9 L = true := by rfl) (h76 : (lk L 76).isNone = true := by rfl) :
    Sim.C x (.region 13 o3_13.toArray true) Q H (packOf (Pr_nst v pg e) :: .obj b (.cells [.string m.Point, .int .i64 m.Number, .int .i64 m.Time, .int .i64 m.Value].toArray 29 (0, 0)) :: M) L := by
  obtain ⟨hlen, hel⟩ := hf
  have hlt : i.toNat < pg.length := by rw [hlen]; exact (List.getElem?_eq_some_iff.1 he).1
  obtain ⟨p, hp⟩ : ∃ p, pg[i.toNat]? = some p := ⟨_, List.getElem?_eq_getElem hlt⟩
  obtain ⟨hp1, hp2⟩ := hel _ p y hp he
  have hN' : ∀ t, t ≤ 76 → Nat.blt t x.N = true := fun t ht => blt_lt hN ht
  have hD' := hD
  simp only [dstsB2, o3_13, List.take_succ_cons, List.take_zero, List.all_cons, List.all_nil, Bool.and_true, Bool.and_eq_true] at hD'
  obtain ⟨n67, n68, n69, n70, n71, n72, n73, n74, n75⟩ := hD'
  have hcell : ∀ (j : Nat) (u : Value), [p.1][j]? = some u → (pg.map Prod.fst)[i.toNat * 1 + j]? = some u := by
    intro j u hu
    cases j with
    | zero =>
      simp only [List.getElem?_cons_zero, Option.some.injEq] at hu
      subst hu
      rw [Nat.mul_one, Nat.add_zero, List.getElem?_map, hp]; rfl
    | succ j => simp at hu
  suffices hC : Sim.C x (.region 13 o3_13.toArray true) Q H (.row v 27 1 pg.length (pg.map Prod.fst) :: .row p.1 29 4 p.2.1 p.2.2 :: .obj b (.cells [.string m.Point, .int .i64 m.Number, .int .i64 m.Time, .int .i64 m.Value].toArray 29 (0, 0)) ::
      (((pg.take i.toNat).map fun p => Res.row p.1 29 4 p.2.1 p.2.2) ++ ((pg.drop (i.toNat + 1)).map fun p => Res.row p.1 29 4 p.2.1 p.2.2) ++ M)) L from
    fun a w hs ht => hC a w hs (ht.unpack.perm (nst_perm hp))
  refine rgx fm 9 [ph v, ph (.int .i64 i), ph v, ph (.int .i64 i), ph (.pointer (some ((Value.base v).add (i.toNat * 1)))), ph p.1, ph (.agg [.string m.Point, .int .i64 m.Number, .int .i64 m.Time, .int .i64 m.Value].toArray),
    (fun H rs u => [] = rs ∧ RdS H u [m]), (fun H rs u => ∃ xs2 : List Value, [.row u 29 (Rep.sz S_api_TelemetryMsg) (y ++ [m]).length xs2] = rs ∧ Rw H u xs2 (y ++ [m]))] (sp 9 [(8, [9])]) (nn 9) [1] [0, 1, 2, 3, 4, 5, 6, 7, 8] rfl ⟨?_, ?_, ?_, ?_, ?_, ?_, ?_, ?_, ?_, trivial⟩ ?_ (hD := hD)
  · intro HX hX X Rest hR hU hUp
    refine W_move rfl (hN' 67 (by decide)) (show ev (L ++ X) (.tmp 5) = some v from lk_app (L := L) h5) ?_
    exact o0 ⟨rfl, rfl⟩
  · intro HX hX X Rest hR hU hUp
    refine W_move rfl (hN' 68 (by decide)) (show ev (L ++ X) (.tmp 8) = some (.int .i64 i) from lk_app (L := L) h8) ?_
    exact o0 ⟨rfl, rfl⟩
  · intro HX hX X Rest hR hU hUp
    refine W_move rfl (hN' 69 (by decide)) (show ev (L ++ X) (.tmp 5) = some v from lk_app (L := L) h5) ?_
    exact o0 ⟨rfl, rfl⟩
  · intro HX hX X Rest hR hU hUp
    refine W_move rfl (hN' 70 (by decide)) (show ev (L ++ X) (.tmp 8) = some (.int .i64 i) from lk_app (L := L) h8) ?_
    exact o0 ⟨rfl, rfl⟩
  · intro HX hX X Rest hR
    rintro _ _ ⟨rfl, rfl⟩
    rintro _ _ ⟨rfl, rfl⟩
    intro hU hUp
    refine W_indexO (hR _ (List.mem_cons_self ..)) rfl (hN' 71 (by decide)) runUnderlying22 sizeOf27 rfl rfl h0 hlt ?_
    exact o0 ⟨rfl, rfl⟩
  · intro HX hX X Rest hR
    rintro _ _ ⟨rfl, rfl⟩
    intro hU hUp
    refine W_load rfl (hN' 72 (by decide)) isAgg27 rfl (row_one0 (hR _ (List.mem_cons_self ..)) hcell rfl) ?_
    exact o0 ⟨rfl, rfl⟩
  · intro HX hX X Rest hR hU hUp
    refine W_loadAgg (cs := [.string m.Point, .int .i64 m.Number, .int .i64 m.Time, .int .i64 m.Value]) rfl (hN' 73 (by decide)) isAgg29 sizeOf29 (show ev (L ++ X) (.tmp 11) = some (.pointer (some ⟨b, 0, none⟩)) from lk_app (L := L) h11) (own_all (hR _ (List.mem_cons_of_mem _ (List.mem_cons_self ..)))) rfl ?_
    exact o0 ⟨rfl, rfl⟩
  · intro HX hX X Rest hR
    rintro _ _ ⟨rfl, rfl⟩
    intro hU hUp
    refine W_buildSlice (α := S_api_TelemetryMsg) (css := [[.string m.Point, .int .i64 m.Number, .int .i64 m.Time, .int .i64 m.Value]]) (zs := [.string (⟨#[]⟩), .int .i64 (0), .int .i64 (0), .int .i64 (0)]) (out := [.string m.Point, .int .i64 m.Number, .int .i64 m.Time, .int .i64 m.Value]) (ys := [m]) rfl (hN' 74 (by decide)) rfl ⟨rfl, trivial⟩ runUnderlying27 sizeOf29 rfl zeroValue29 (by kernel_rfl) rfl rfl rfl rfl ⟨[.string m.Point, .int .i64 m.Number, .int .i64 m.Time, .int .i64 m.Value], [], rfl, rfl, rfl⟩ rfl ?_
    intro b2 v2 H2 hv2 hle2 hr2
    exact oe [] hle2 ⟨rfl, hr2⟩
  · intro HX hX X Rest hR
    rintro _ _ ⟨rfl, rfl⟩
    rintro u2 _ ⟨rfl, hr2⟩
    intro hU hUp
    refine Wp [0] ?_
    refine W_appendO (α := S_api_TelemetryMsg) (l := y) (ys := [m]) rfl (hN' 75 (by decide)) underlying27 ⟨_, rfl, rfl, rfl, rfl⟩ rfl rfl rfl rfl rfl (hp2 _) hr2 hz ?_
    intro v3 xs3 hr3
    exact oe [.row v3 29 (Rep.sz S_api_TelemetryMsg) (y ++ [m]).length xs3] (Hp.le_refl _) ⟨xs3, rfl, hr3⟩
  intro H' hle
  rintro _ _ ⟨rfl, rfl⟩
  rintro _ _ ⟨rfl, rfl⟩
  rintro _ _ ⟨rfl, rfl⟩
  rintro _ _ ⟨rfl, rfl⟩
  rintro _ _ ⟨rfl, rfl⟩
  rintro _ _ ⟨rfl, rfl⟩
  rintro _ _ ⟨rfl, rfl⟩
  rintro u7 _ ⟨rfl, hr7⟩
  rintro v3 _ ⟨xs3, rfl, hr3⟩
  refine isW ?_
  refine Wp [1, 0] ?_
  refine W_indexO (List.mem_cons_self ..) rfl (hN' 76 (by decide)) runUnderlying22 sizeOf27 rfl rfl h0 hlt ?_
  refine W_storeO2 (cs := [v3]) (i := i.toNat * 1) rfl sizeOf27 rfl rfl rfl (Rw.cells hr3) rfl (by simp; omega) rfl (all_cons (Rw.one hr3) all_nil) rfl ?_
  refine W_end ?_
  intro a w hs ht
  have hs' : Sl x.N L a := (((((((((hs.unpush h76).unpush n75).unpush n74).unpush n73).unpush n72).unpush n71).unpush n70).unpush n69).unpush n68).unpush n67
  refine k (pg.set i.toNat (v3, (y ++ [m]).length, xs3)) ⟨by simp [hlen], fun j q l hq hl => ?_⟩ a w hs' ?_
  · by_cases e1 : i.toNat = j
    · subst e1
      rw [List.getElem?_set_self hlt] at hq
      rw [List.getElem?_set_self (by rw [← hlen]; exact hlt)] at hl
      simp only [Option.some.injEq] at hq hl
      subst hq hl
      exact ⟨rfl, hr3.toF⟩
    · rw [List.getElem?_set_ne e1] at hq hl
      exact hel j q l hq hl
  · have hp' : (pg.set i.toNat (v3, (y ++ [m]).length, xs3))[i.toNat]? = some (v3, (y ++ [m]).length, xs3) := by
      rw [List.getElem?_set_self hlt]
    have hperm := nst_perm (v := v) (e := e.set i.toNat (y ++ [m])) (M := M) (o := .obj b (.cells [.string m.Point, .int .i64 m.Number, .int .i64 m.Time, .int .i64 m.Value].toArray 29 (0, 0))) hp'
    refine St.pack ((ht.weak hle).perm ?_)
    refine List.Perm.trans ?_ hperm.symm
    rw [List.length_set, List.map_set, List.take_set_of_le (Nat.le_refl _), List.drop_set_of_lt (Nat.lt_succ_self _)]
    have e2 : over (pg.map Prod.fst) (i.toNat * 1) [v3] = (pg.map Prod.fst).set i.toNat v3 := by rw [Nat.mul_one]; rfl
    rw [← e2]
    exact List.Perm.refl _
end
end Go.Sim
end
