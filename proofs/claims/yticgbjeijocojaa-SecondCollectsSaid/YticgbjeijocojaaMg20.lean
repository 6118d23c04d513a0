/-
  A worker of Collect's: the laws of its stops, on.
  A worker of Collect's: the store of its result, and its way out.
  The starter of Collect's pool: where it stands, and its ways between.
  The starter of Collect's pool: the laws of its stops; the pool.
  Collect's pool: its laws, all.
-/
import Derived.Test.YticgbjeijocojaaMg19
import Derived.Conc.TokenWalk
set_option linter.unusedVariables false
set_option linter.unusedSimpArgs false
section
set_option linter.unusedVariables false
set_option linter.unusedSimpArgs false
set_option maxRecDepth 100000
set_option maxHeartbeats 4000000
namespace Go.Sim
open Go Go.Conc Go.Proofs.Try
open Go.ConcN (WgLive)
open Go.ConcR (KK WgAt stA smA rd wr DC0)

section
variable {d : CD}
theorem recv_comm {k : Nat} {g : Goroutine} {w : World} (h : d.S0 k .recv g w) : stepG CPR false g w = .comm (core g) #[rcase d.Ch (.int .i64 0)] true (.recv true) w #[] := by
  obtain ⟨_, T, hT, rfl⟩ := h
  rw [core_G]
  have he : (⟨T, d.D14⟩ : Act).eval (.tmp 5) = .chan (some d.Ch) := by simp [Act.eval, Array.getD_eq_getD_getElem?, hT.t5]
  have hu : CPR.underlying 47 = some (.chan .both 3) := underlying47
  have hu' : ∀ w, (underlying 47).run CPR w = .ok (.chan .both 3) w := runUnderlying47
  have hz : ∀ w, (zeroValue 3).run CPR w = .ok (.int .i64 0) w := fun w => zeroValue3 w
  have hr : (execOp (⟨T, d.D14⟩ : Act).eval ⟨some 6, .recv 47 (.tmp 5) true, 0, "second.go:169", #[], none⟩).run CPR w = .ok (.comm #[rcase d.Ch (.int .i64 0)] true (.recv true)) w := by
    simp [go_sem, execOp, he, hT.t5, hu, hu', hz, rcase]
  rw [stepG_comm (i := 0) (rest := [1]) (o := ⟨some 6, .recv 47 (.tmp 5) true, 0, "second.go:169", #[], none⟩) rfl rfl (by decide) hr, listed_none (by simp [go_sem, execOp, he, hT.t5, hu, hu', hz, rcase])]

theorem othN {k B : Nat} {w w1 : World} (o : Oth (d.cW k B) w w1) : Oth d.cN w w1 := ⟨o.tape, o.os, o.output, o.size, fun b hb => hb.elim False.elim False.elim, o.inv⟩
theorem TK_set {T : Array Value} (h : d.TK T) {i : Nat} (v : Value) (h0 : i ≠ 0) (h1 : i ≠ 1) (h2 : i ≠ 2) (h3 : i ≠ 3) (h5 : i ≠ 5) : d.TK (T.setIfInBounds i v) :=
  ⟨by simp [h.size], by rw [Array.getElem?_setIfInBounds_ne h0]; exact h.t0, by rw [Array.getElem?_setIfInBounds_ne h1]; exact h.t1, by rw [Array.getElem?_setIfInBounds_ne h2]; exact h.t2, by rw [Array.getElem?_setIfInBounds_ne h3]; exact h.t3, by rw [Array.getElem?_setIfInBounds_ne h5]; exact h.t5⟩
def L6 (d : CD) (v : Value) : Env := [(0, .pointer (some ⟨d.Wg, 0, none⟩)), (1, .pointer (some ⟨d.bN, 0, none⟩)), (2, .pointer (some ⟨d.bS, 0, none⟩)), (3, .pointer (some ⟨d.bL, 0, none⟩)), (5, .chan (some d.Ch)), (6, v)]
theorem TK_L6 {T : Array Value} (h : d.TK T) {v : Value} (h6 : T[6]? = some v) : Sl 17 (L6 d v) ⟨T, []⟩ := by
  refine ⟨h.size, rfl, fun t u hl => ?_⟩
  simp only [L6, lk_cons] at hl
  split at hl
  · rename_i e; subst e; rw [← hl]; exact h.t0
  split at hl
  · rename_i e; subst e; rw [← hl]; exact h.t1
  split at hl
  · rename_i e; subst e; rw [← hl]; exact h.t2
  split at hl
  · rename_i e; subst e; rw [← hl]; exact h.t3
  split at hl
  · rename_i e; subst e; rw [← hl]; exact h.t5
  split at hl
  · rename_i e; subst e; rw [← hl]; exact h6
  · cases hl
theorem Sl_TK {N : Nat} {L : Env} {a : Act} (hs : Sl N L a) (hN : N = 17) (h0 : lk L 0 = some (.pointer (some ⟨d.Wg, 0, none⟩))) (h1 : lk L 1 = some (.pointer (some ⟨d.bN, 0, none⟩))) (h2 : lk L 2 = some (.pointer (some ⟨d.bS, 0, none⟩))) (h3 : lk L 3 = some (.pointer (some ⟨d.bL, 0, none⟩))) (h5 : lk L 5 = some (.chan (some d.Ch))) : d.TK a.tmps :=
  ⟨hs.size.trans hN, hs.get 0 _ h0, hs.get 1 _ h1, hs.get 2 _ h2, hs.get 3 _ h3, hs.get 5 _ h5⟩

/-- From what was received to the branch on whether it was a number. -/
theorem recv_on (O : d.Ok) {k B : Nat} {T : Array Value} (hT : d.TK T) {u : Value} {b : Bool} {w : World} (hR : d.RK w) {Stop : Goroutine → World → Prop}
    (hc : ∀ T' w', d.TK T' → T'[6]? = some (.tuple #[u, .bool b]) → T'[7]? = some (.bool b) → Walks (d.cW k B) Stop (G (b14.at ⟨T', d.D14⟩ (.code (if b then Code.skip else .exit 0) :: [.code (.block 1 (.seq (.region 3 o14_3.toArray false) (.region 4 o14_4.toArray true))), .inLoop loop14, .inBlock 0])) [bot]) w') :
    Walks (d.cW k B) Stop (G (b14.at ((⟨T, d.D14⟩ : Act).put (some 6) (.tuple #[u, .bool b])) (.inRegion o14_2.toArray [1] :: [.code rest2, .inLoop loop14, .inBlock 0])) [bot]) w := by
  have h6 : (T.setIfInBounds 6 (.tuple #[u, .bool b]))[6]? = some (.tuple #[u, .bool b]) := Array.getElem?_setIfInBounds_self_of_lt (by rw [hT.size]; decide)
  have hT1 : d.TK (T.setIfInBounds 6 (.tuple #[u, .bool b])) := TK_set hT _ (by decide) (by decide) (by decide) (by decide) (by decide)
  show Walks (d.cW k B) Stop (G (b14.at ⟨T.setIfInBounds 6 (.tuple #[u, .bool b]), d.D14⟩ (.inRegion o14_2.toArray [1] :: [.code rest2, .inLoop loop14, .inBlock 0])) [bot]) w
  refine reg_from (x := ⟨17, d.Low, d.cW k B⟩) (H := d.H0) (M := []) (l := o14_2) (L := L6 d (.tuple #[u, .bool b])) (Q := fun e a w => d.TK a.tmps ∧ a.tmps[6]? = some (.tuple #[u, .bool b]) ∧ a.tmps[7]? = some (.bool b)) 1 ?_ (TK_L6 hT1 h6) (hR.st O) (by decide) ?_
  · refine W_extract rfl rfl rfl rfl ?_
    refine W_end ?_
    intro a w hs ht
    exact ⟨Sl_TK hs rfl rfl rfl rfl rfl rfl, hs.get 6 _ rfl, hs.get 7 _ rfl⟩
  · rintro T' w' ⟨h1, h2, h3⟩
    refine mv rfl (fun _ => stepG_seq) ?_
    refine mv rfl (fun _ => stepG_cond (t := b) ?_) (hc T' w' h1 h2 h3)
    simp only at h3
    simp [Act.eval, Array.getD_eq_getD_getElem?, h3]

/-- A number: on to the store of its result. -/
theorem recv_work (O : d.Ok) {k m B : Nat} {g : Goroutine} {w w' : World} (h : d.S k .recv g w) (hm : m < d.n) (hB : d.Low ≤ B) (o : Oth (d.cW k B) w w') :
    Walks (d.cW k B) (d.S k (.work m)) (Conc.served (core g) (recvd true (.int .i64 m) true)) w' := by
  obtain ⟨⟨hk, T, hT, rfl⟩, hR⟩ := h
  have hR' : d.RK w' := CD.RK.oth (c := d.cW k B) rfl rfl hR o
  rw [core_G, served_G]
  obtain ⟨l, hl⟩ : ∃ l, d.st[m]? = some l := ⟨_, List.getElem?_eq_getElem hm⟩
  obtain ⟨r, hr⟩ := O.tk l (List.mem_of_getElem? hl)
  refine Walks.trans (d.keepW O hB (Stop := fun g w => ∃ T, d.TK T ∧ T[4]? = some (.int .i64 m) ∧ g = G (b14.at ⟨T, d.D14⟩ (.code (.region 4 o14_4.toArray true) :: [.inBlock 1, .inLoop loop14, .inBlock 0])) [bot]) ?_ hR') ?_
  · refine Walks.trans (d.keepW O hB (Stop := fun g w => ∃ T, d.TK T ∧ T[6]? = some (.tuple #[.int .i64 m, .bool true]) ∧ g = G (b14.at ⟨T, d.D14⟩ (.code (.region 3 o14_3.toArray false) :: [.code (.region 4 o14_4.toArray true), .inBlock 1, .inLoop loop14, .inBlock 0])) [bot]) ?_ hR') ?_
    · refine recv_on O hT (u := .int .i64 m) (b := true) hR' fun T' w1 h1 h6 h7 => ?_
      refine mv rfl (fun _ => stepG_skip) ?_
      refine mv rfl (fun _ => stepG_block) ?_
      refine mv rfl (fun _ => stepG_seq) ?_
      exact .stop fun w1 _ => ⟨T', h1, h6, rfl⟩
    · rintro _ w1 ⟨⟨T1, h1, h6, rfl⟩, hR1⟩
      refine reg_on (x := ⟨17, d.Low, d.cW k B⟩) (H := d.H0) (M := []) (l := o14_3) (L := L6 d (.tuple #[.int .i64 m, .bool true])) (Q := fun e a w => d.TK a.tmps ∧ a.tmps[4]? = some (.int .i64 m)) ?_ (TK_L6 h1 h6) (hR1.st O) (by decide) ?_
      · refine W_extract rfl rfl rfl rfl ?_
        refine W_assign rfl rfl rfl ?_
        refine W_end ?_
        intro a w hs ht
        exact ⟨Sl_TK hs rfl rfl rfl rfl rfl rfl, hs.get 4 _ rfl⟩
      · rintro T' w2 ⟨h1, h2⟩
        exact .stop fun w1 _ => ⟨T', h1, h2, rfl⟩
  · rintro _ w1 ⟨⟨T1, h1, h4, rfl⟩, hR1⟩
    refine Walks.mono (d.keepW O hB (Stop := d.S0 k (.work m)) ?_ hR1) (fun _ _ h => h)
    refine draw_on (x := ⟨17, d.Low, d.cW k B⟩) (l := l4) (o := o8) (Q := d.Q4 k B m r) ops4_eq fm (fun i p hp => l4_ok i p (by simpa using hp)) o8_all o8_low (draw4 O hl hr h1 h4 hR1) (by decide) fun T' w2 hq => ?_
    obtain ⟨_, M', qv, qxs, hs, ht, hmem, hw⟩ := hq
    refine .stop fun w3 h3 => ⟨hk, T', qv, ?_, ?_, ?_, ⟨l, r, qxs, hl, hr, ?_, hw, fun b hb => ?_⟩, rfl⟩
    · exact Sl_TK hs rfl rfl rfl rfl rfl rfl
    · exact hs.get 16 _ rfl
    · exact hs.get 15 _ rfl
    · exact (ht.oth h3).ok _ hmem
    · have hK : Mk CPR d.m0 k b ∧ B ≤ b := (ht.oth h3).kown _ hmem b (by simp [Res.feet, hb])
      refine ⟨by rw [show d.b0 + (k - d.b0) = k by omega]; exact hK.1, Nat.le_trans hB hK.2, Res.feet_lt ((ht.oth h3).ok _ hmem) (by simp [Res.feet, hb])⟩

/-- The channel's end: on to the group's. -/
theorem recv_r0 (O : d.Ok) {k B : Nat} {g : Goroutine} {w w' : World} (h : d.S k .recv g w) (hB : d.Low ≤ B) (o : Oth (d.cW k B) w w') :
    Walks (d.cW k B) (d.S k .r0) (Conc.served (core g) (recvd true (.int .i64 0) false)) w' := by
  obtain ⟨⟨hk, T, hT, rfl⟩, hR⟩ := h
  have hR' : d.RK w' := CD.RK.oth (c := d.cW k B) rfl rfl hR o
  rw [core_G, served_G]
  refine Walks.trans (d.keepW O hB (Stop := fun g w => ∃ T : Array Value, g = G { b14.at ⟨T, d.D14⟩ [] with mode := .returning } [bot]) ?_ hR') ?_
  · refine recv_on O hT (u := .int .i64 0) (b := false) hR' fun T' w1 h1 h6 h7 => ?_
    refine mv rfl (fun _ => stepG_exit (k' := []) rfl) ?_
    refine mv rfl (fun _ => stepG_end) ?_
    exact .stop fun w1 _ => ⟨T', rfl⟩
  · rintro _ w1 ⟨⟨T1, rfl⟩, hR1⟩
    refine mv rfl (fun _ => stepG_unwind_enter (a := ⟨T1, d.D14⟩) (ds := []) rfl wgLib.f_done (Go.ConcR.Gen.nm_done _) rfl) ?_
    refine walks_of_goes (fun _ _ o => othN o) (Go.Wgw.doneS (c := d.cN) (L := link) (Wg := d.Wg) (qt := 2) wgLib rfl (cf := { b14.at ⟨T1, []⟩ [] with mode := .returning }) (cs := [bot]) rfl (quitsTail14 T1) w1 hR1.live)
end
end Go.Sim
end

section
set_option linter.unusedVariables false
set_option linter.unusedSimpArgs false
set_option maxRecDepth 100000
set_option maxHeartbeats 4000000
namespace Go.Sim
open Go Go.Conc Go.Proofs.Try
open Go.ConcN (WgLive)
open Go.ConcR (KK WgAt stA smA rd wr DC0)

theorem loud14 : (CPR.funcs[14]?).any (·.norace) = false := by kernel_rfl
theorem loud7 : (CPR.funcs[7]?).any (·.norace) = false := by kernel_rfl
theorem store_step {T : Array Value} {D : List Deferred} {C m : Nat} {s : Option Addr} {n c : Nat} {w : World} {k : List Item} {cs : List Frame} {u : Value} (h16 : T[16]? = some (.pointer (some ⟨C, m, none⟩))) (h15 : T[15]? = some (.slice s n c))
    (hc : w.cell? ⟨C, m, none⟩ = some u) (hz : w.frozen? ⟨C, m, none⟩ = false) :
    stepG CPR false (G (b14.at ⟨T, D⟩ (.inRegion o14_4.toArray [8] :: k)) cs) w = .go (G (b14.at ⟨T, D⟩ (.inRegion o14_4.toArray [] :: k)) cs) (w.setCell ⟨C, m, none⟩ (.slice s n c)) #[⟨.cell ⟨C, m, none⟩, true, false⟩] := by
  have hx : (⟨T, D⟩ : Act).eval (.tmp 16) = .pointer (some ⟨C, m, none⟩) := by simp [Act.eval, Array.getD_eq_getD_getElem?, h16]
  have hy : (⟨T, D⟩ : Act).eval (.tmp 15) = .slice s n c := by simp [Act.eval, Array.getD_eq_getD_getElem?, h15]
  have hs : ∀ w, (sizeOf 27).run CPR w = .ok 1 w := sizeOf27
  have hr : (execOp (⟨T, D⟩ : Act).eval o8).run CPR w = .ok .skip (w.setCell ⟨C, m, none⟩ (.slice s n c)) := by
    unfold execOp o8
    simp only [hx, hy]
    simp [go_sem, stored, hc, hz, hs]
  have he : (execOp (⟨T, D⟩ : Act).eval o8).events CPR w #[] = #[⟨.cell ⟨C, m, none⟩, true, false⟩] := by
    unfold execOp o8
    simp only [hx, hy]
    simp [go_sem, storedEv, hc, hz, hs]
    rw [events_store (hv := rfl), hc, hz]
    rfl
  rw [stepG_none (i := 8) (rest := []) (o := o8) rfl rfl (by decide) hr]
  unfold listed
  rw [he, show b14.fn = 14 from rfl, seen_eq loud14 (by simp)]
  rfl

section
variable {d : CD}
theorem cellC_of {w : World} {C : Nat} {cs : Array Value} {T : TypeId} (h : w.heap[C]? = some (.cells cs T)) {m : Nat} (hm : m < cs.size) : w.cell? ⟨C, m, none⟩ = some cs[m] ∧ w.frozen? ⟨C, m, none⟩ = false := by
  constructor
  · simp [World.cell?, h, hm]
  · simp [World.frozen?, h]
theorem heap_setCell_ne {w : World} {C b m : Nat} {v : Value} (h : b ≠ C) : (w.setCell ⟨C, m, none⟩ v).heap[b]? = w.heap[b]? := (aside_setCell w ⟨C, m, none⟩ v).block b h
theorem size_setCell (w : World) (a : Addr) (v : Value) : (w.setCell a v).heap.size = w.heap.size := (aside_setCell w a v).size
theorem RK_setCell (O : d.Ok) {w : World} {m : Nat} {v : Value} (h : d.RK w) : d.RK (w.setCell ⟨d.C, m, none⟩ v) := by
  have A := aside_setCell w ⟨d.C, m, none⟩ v
  exact ⟨⟨A.tape.trans h.same.tape, A.os.trans h.same.os, A.output.trans h.same.output⟩, by rw [size_setCell]; exact h.size, fun b hb => (heap_setCell_ne hb.2.2.2.1).trans (h.heap b hb), live_of_block (heap_setCell_ne (Ne.symm O.hCW)) h.live⟩

/-- THE STORE. -/
theorem work_law (O : d.Ok) {k m : Nat} {g : Goroutine} {w : World} (h : d.S (d.b0 + k) (.work m) g w) (hm : m < d.n) {cs : Array Value} (hp : w.heap[d.C]? = some (.cells cs 27)) (hn : cs.size = d.n) :
    ∃ v g', stepG CPR false g w = .go g' (w.setCell ⟨d.C, m, none⟩ v) #[⟨.cell ⟨d.C, m, none⟩, true, false⟩] ∧ d.Base k m v (w.setCell ⟨d.C, m, none⟩ v) ∧
      ∀ B, d.Low ≤ B → Walks (d.cW (d.b0 + k) B) (d.S (d.b0 + k) .recv) g' (w.setCell ⟨d.C, m, none⟩ v) := by
  obtain ⟨⟨hk, T, v, hT, h16, h15, hB, rfl⟩, hR⟩ := h
  rw [Nat.add_sub_cancel_left] at hB
  obtain ⟨l, r, qxs, hl, hr, ho, hw, hb⟩ := hB
  obtain ⟨s, n, c, rfl⟩ : ∃ s n c, v = .slice s n c := by
    rcases ho.2 with ⟨rfl, _⟩ | ⟨g, off, cap, cur, rfl, _⟩
    · exact ⟨_, _, _, rfl⟩
    · exact ⟨_, _, _, rfl⟩
  obtain ⟨hc, hz⟩ := cellC_of hp (m := m) (by omega)
  have hR1 := RK_setCell O (m := m) (v := .slice s n c) hR
  refine ⟨_, _, store_step h16 h15 hc hz, ⟨l, r, qxs, hl, hr, OwnsR.same ho fun b e => heap_setCell_ne ?_, hw, fun b e => ?_⟩, fun B hB => ?_⟩
  · obtain ⟨_, h2, _⟩ := hb b e
    have := O.hC
    omega
  · rw [size_setCell]; exact hb b e
  · refine Walks.mono (d.keepW O hB (Stop := d.S0 (d.b0 + k) .recv) ?_ hR1) (fun _ _ h => h)
    refine mv rfl (fun _ => stepG_region_end) ?_
    refine mv rfl (fun _ => stepG_inBlock) ?_
    refine mv rfl (fun _ => stepG_inLoop) ?_
    refine mv rfl (fun _ => stepG_seq) ?_
    refine mv rfl (fun _ => stepG_region) ?_
    exact .stop fun w1 h1 => ⟨hk, T, hT, rfl⟩
end
end Go.Sim
end

section
set_option linter.unusedVariables false
set_option linter.unusedSimpArgs false
set_option maxRecDepth 100000
set_option maxHeartbeats 4000000
namespace Go.Sim
open Go Go.Conc Go.Proofs.Try Go.Wgw
open Go.ConcN (WgLive)
open Go.ConcR (KK WgAt stA smA rd wr DC0)

section
variable {P : Program} {x : Cx P} {Q : Post} {H : Hp} {M : List Res} {L : Env} {l l' : List Oper} {T : Array Value} {D : List Deferred} {w : World} {b : Frame} {k : List Item} {cs : List Frame} {Stop : Goroutine → World → Prop} {id : Nat}
/-- A region's first operations; the rest is still to come. -/
theorem reg_to (tail : List Nat) (h : W x l.toArray Q l H M L) (hs : Sl x.N L ⟨T, []⟩) (ht : St x.B x.w0 H M w) (hk : b.kind ≠ .early)
    (hsame : ∀ (i : Nat) (o : Oper), l.toArray[i]? = some o → l'.toArray[i]? = some o ∧ o.guard = none) (htail : List.range l'.toArray.size = List.range l.toArray.size ++ tail)
    (hc : ∀ T' w', Q .normal ⟨T', []⟩ w' → Walks x.w0 Stop (G (b.at ⟨T', D⟩ (.inRegion l'.toArray tail :: k)) cs) w') : Walks x.w0 Stop (G (b.at ⟨T, D⟩ (.code (.region id l'.toArray false) :: k)) cs) w := by
  refine mv rfl (fun w1 => stepG_region) ?_
  rw [htail]
  have h0 := opsK_of_list (c := x.w0) (Q := Q) (l := l) 0 ⟨T, []⟩ w (by simpa using h _ _ hs ht)
  have h1 := opsK_defers (D := D) (Q' := fun e a w => ∃ T', a = ⟨T', D⟩ ∧ Q e ⟨T', []⟩ w) (fun T w h => ⟨T, rfl, h⟩) _ T w h0
  have e : List.range' 0 (l.length - 0) = List.range l.toArray.size := by simp [List.range_eq_range']
  rw [e] at h1
  refine walks_ops_tail hsame _ _ _ h1 b k cs Stop hk fun a' w' hq => ?_
  obtain ⟨T', rfl, hq⟩ := hq
  exact hc T' w' hq
end

def b7 : Frame := base 7
def r11 : Code := .region 11 o7_11.toArray false
def r12 : Code := .region 12 o7_12.toArray false
def loop1 : Code := .seq (.region 9 o7_9.toArray false) (.seq (.cond (.tmp 27) .skip (.exit 1)) (.seq (.block 2 (.seq (.region 10 o7_10.toArray false) r11)) r12))
def r17 : Code := .region 17 o7_17.toArray false
def loop3 : Code := .seq (.region 14 o7_14.toArray false) (.seq (.cond (.tmp 34) .skip (.exit 3)) (.seq (.block 4 (.seq (.region 15 o7_15.toArray false) (.region 16 o7_16.toArray false))) r17))
def tail20 : Code := .seq (.region 20 o7_20.toArray false) .ret
def tail19 : Code := .seq (.region 19 o7_19.toArray false) tail20
def tail18 : Code := .seq (.region 18 o7_18.toArray false) tail19
def tailA : Code := .seq (.seq (.region 13 o7_13.toArray false) (.block 3 (.loop loop3))) tail18
def tail8 : Code := .seq (.seq (.region 8 o7_8.toArray false) (.block 1 (.loop loop1))) tailA
def block7 : Code := .block 0 (.seq (.region 1 o7_1.toArray false) (.cond (.tmp 10) (.seq (.region 2 o7_2.toArray false) .ret) (.seq (.region 3 o7_3.toArray false) (.cond (.tmp 17) (.seq (.region 4 o7_4.toArray false) .ret) .skip))))
theorem c7_eq : c7 = .seq (.region 0 o7_0.toArray false) (.seq block7 (.seq (.region 5 o7_5.toArray false) (.seq (.region 6 o7_6.toArray false) (.seq (.region 7 o7_7.toArray false) tail8)))) := rfl
def K1 : List Item := [.inLoop loop1, .inBlock 1, .code tailA]
def K3 : List Item := [.inLoop loop3, .inBlock 3, .code tail18]

namespace CD
variable (d : CD)
def cM : Bs CPR := ⟨true, fun b => Mk CPR d.m0 0 b ∧ d.Low ≤ b ∧ ¬ Gp CPR d.m0 b, d.R, d.w0, fun _ _ _ => False, WgLive 57 d.Wg, fun b => b = d.Wg⟩
/-- What the starter's frame holds. -/
structure TC (T : Array Value) : Prop where
  size : T.size = 44
  t1 : T[1]? = some (.int .i64 d.W)
  t2 : T[2]? = some (.pointer (some ⟨d.bS, 0, none⟩))
  t6 : T[6]? = some (.pointer (some ⟨d.bL, 0, none⟩))
  t7 : T[7]? = some (.pointer (some ⟨d.bN, 0, none⟩))
  t8 : T[8]? = some (.pointer (some ⟨d.Wg, 0, none⟩))
def Sgo (j : Nat) (g : Goroutine) (w : World) : Prop :=
  j < d.W ∧ ∃ T, d.TC T ∧ T[25]? = some (.int .i64 d.W) ∧ T[26]? = some (.int .i64 j) ∧ T[29]? = some (.func (.func 14) #[] #[.pointer (some ⟨d.Wg, 0, none⟩), .pointer (some ⟨d.bN, 0, none⟩), .pointer (some ⟨d.bS, 0, none⟩), .pointer (some ⟨d.bL, 0, none⟩)]) ∧
    g = G (b7.at ⟨T, []⟩ (.inRegion o7_11.toArray [1] :: .inBlock 2 :: .code r12 :: K1)) (d.cf :: d.cs)
def Snd (i : Nat) (g : Goroutine) (w : World) : Prop :=
  i < d.n ∧ ∃ T, d.TC T ∧ T[32]? = some (.int .i64 d.n) ∧ T[33]? = some (.int .i64 i) ∧ T[36]? = some (.chan (some d.Ch)) ∧ T[37]? = some (.int .i64 i) ∧
    g = G (b7.at ⟨T, []⟩ (.inRegion o7_16.toArray [2] :: .inBlock 4 :: .code r17 :: K3)) (d.cf :: d.cs)
def Cls (g : Goroutine) (w : World) : Prop :=
  ∃ T, d.TC T ∧ T[39]? = some (.chan (some d.Ch)) ∧ g = G (b7.at ⟨T, []⟩ (.inRegion o7_18.toArray [1] :: [.code tail19])) (d.cf :: d.cs)
def Fin (g : Goroutine) (w : World) : Prop :=
  ∃ T, d.TC T ∧ g = G (b7.at ⟨T, []⟩ (.inRegion o7_19.toArray [] :: [.code tail20])) (d.cf :: d.cs)
def Anch (T : Array Value) : Goroutine → World → Prop := AnchS Proofs.Try.link d.Wg (b7.at ⟨T, []⟩ (.inRegion o7_19.toArray [0] :: [.code tail20])) (d.cf :: d.cs)
/-- The starter's stops (without what stands all along). -/
def M0 : MTag → Goroutine → World → Prop
  | .skd j => Kds Proofs.Try.link d.Wg d.cM (d.Sgo j)
  | .a1 j => A1s Proofs.Try.link d.Wg d.cM (d.Sgo j)
  | .ske j => Kes d.cM (d.Sgo j)
  | .sgo j => d.Sgo j
  | .snd i => d.Snd i
  | .cls => d.Cls
  | .kd => fun g w => ∃ T, d.TC T ∧ Kdw d.cM (d.Anch T) g w
  | .w1 => fun g w => ∃ T, d.TC T ∧ W1s Proofs.Try.link d.Wg d.cM d.Fin (d.Anch T) g w
  | .w2 vs => fun g w => ∃ T, d.TC T ∧ W2s Proofs.Try.link d.Wg d.cM d.Fin (d.Anch T) vs g w
  | .w3 => W3s Proofs.Try.link d.Wg d.cM d.Fin
  | .w4 => W4s Proofs.Try.link d.Wg d.cM d.Fin
  | .ke => Kes d.cM (Acs d.Wg d.cM d.Fin)
  | .acq => Acs d.Wg d.cM d.Fin
  | .fin => d.Fin
  | _ => fun _ _ => False
def M (t : MTag) (g : Goroutine) (w : World) : Prop := d.M0 t g w ∧ d.RK w
/-- The stop behind a loop's head. -/
def hd3 (i : Nat) : MTag := if i < d.n then .snd i else .cls
def hd1 (j : Nat) : MTag := if j < d.W then .skd j else d.hd3 0
end CD

section
variable {d : CD}
theorem CD.RK.stM (O : d.Ok) {w : World} (h : d.RK w) : St d.Low d.cM d.H0 [] w :=
  ⟨h.same, h.size, fun b o hb => (h.heap b (O.hH b o hb).1).trans (O.hH b o hb).2, by simp, by simp, by simp, fun b o hb => .inr (O.hH b o hb).1, by simp, fun b hb => hb.1⟩
theorem CD.keepM (O : d.Ok) {Stop : Goroutine → World → Prop} {g : Goroutine} {w : World} (h : Walks d.cM Stop g w) (hR : d.RK w) : Walks d.cM (fun g w => Stop g w ∧ d.RK w) g w :=
  Walks.keep (V := d.RK) (fun _ _ o r => CD.RK.oth (c := d.cM) rfl rfl r o) (fun _ _ _ D r => CD.RK.did O (c := d.cM) (fun b hb => (show Mk CPR d.m0 0 b ∧ d.Low ≤ b ∧ ¬ Gp CPR d.m0 b from hb).2.1) r D) (fun _ _ _ x => x) h hR
def LC (d : CD) (R : Env) : Env := (1, .int .i64 d.W) :: (2, .pointer (some ⟨d.bS, 0, none⟩)) :: (6, .pointer (some ⟨d.bL, 0, none⟩)) :: (7, .pointer (some ⟨d.bN, 0, none⟩)) :: (8, .pointer (some ⟨d.Wg, 0, none⟩)) :: R
theorem TC_LC {T : Array Value} (h : d.TC T) {R : Env} (hR : ∀ t u, lk R t = some u → T[t]? = some u) : Sl 44 (LC d R) ⟨T, []⟩ := by
  refine ⟨h.size, rfl, fun t u hl => ?_⟩
  simp only [LC, lk_cons] at hl
  split at hl
  · rename_i e; subst e; rw [← hl]; exact h.t1
  split at hl
  · rename_i e; subst e; rw [← hl]; exact h.t2
  split at hl
  · rename_i e; subst e; rw [← hl]; exact h.t6
  split at hl
  · rename_i e; subst e; rw [← hl]; exact h.t7
  split at hl
  · rename_i e; subst e; rw [← hl]; exact h.t8
  · exact hR t u hl
theorem Sl_TC {N : Nat} {L : Env} {a : Act} (hs : Sl N L a) (hN : N = 44) (h1 : lk L 1 = some (.int .i64 d.W)) (h2 : lk L 2 = some (.pointer (some ⟨d.bS, 0, none⟩))) (h6 : lk L 6 = some (.pointer (some ⟨d.bL, 0, none⟩))) (h7 : lk L 7 = some (.pointer (some ⟨d.bN, 0, none⟩))) (h8 : lk L 8 = some (.pointer (some ⟨d.Wg, 0, none⟩))) : d.TC a.tmps :=
  ⟨hs.size.trans hN, hs.get 1 _ h1, hs.get 2 _ h2, hs.get 6 _ h6, hs.get 7 _ h7, hs.get 8 _ h8⟩
theorem lk_nil' {T : Array Value} : ∀ t u, lk [] t = some u → T[t]? = some u := fun t u h => by cases h
theorem lk_two {T : Array Value} {a b : Nat} {u v : Value} (h1 : T[a]? = some u) (h2 : T[b]? = some v) : ∀ t x, lk [(a, u), (b, v)] t = some x → T[t]? = some x := by
  intro t x h
  simp only [lk_cons] at h
  split at h
  · rename_i e; subst e; rw [← h]; exact h1
  split at h
  · rename_i e; subst e; rw [← h]; exact h2
  · cases h

/-- The head of the loop that sends. -/
theorem head3 (O : d.Ok) {i : Nat} (hi : i ≤ d.n) {T : Array Value} (hT : d.TC T) (h32 : T[32]? = some (.int .i64 d.n)) (h33 : T[33]? = some (.int .i64 i)) {w : World} (hR : d.RK w) :
    Walks d.cM (d.M (d.hd3 i)) (G (b7.at ⟨T, []⟩ (.code loop3 :: K3)) (d.cf :: d.cs)) w := by
  refine Walks.mono (d.keepM O (Stop := d.M0 (d.hd3 i)) ?_ hR) (fun _ _ h => h)
  refine Walks.trans (d.keepM O (Stop := fun g w => ∃ T', d.TC T' ∧ T'[32]? = some (.int .i64 d.n) ∧ T'[33]? = some (.int .i64 i) ∧ T'[34]? = some (.bool (decide ((i : Int) < (d.n : Int)))) ∧
    g = G (b7.at ⟨T', []⟩ (.code (.seq (.cond (.tmp 34) .skip (.exit 3)) (.seq (.block 4 (.seq (.region 15 o7_15.toArray false) (.region 16 o7_16.toArray false))) r17)) :: K3)) (d.cf :: d.cs)) ?_ hR) ?_
  · refine mv rfl (fun _ => stepG_seq) ?_
    refine reg_on (x := ⟨44, d.Low, d.cM⟩) (H := d.H0) (M := []) (l := o7_14) (L := LC d [(32, .int .i64 d.n), (33, .int .i64 i)]) (Q := fun e a w => d.TC a.tmps ∧ a.tmps[32]? = some (.int .i64 d.n) ∧ a.tmps[33]? = some (.int .i64 i) ∧ a.tmps[34]? = some (.bool (decide ((i : Int) < (d.n : Int))))) ?_ (TC_LC hT (lk_two h32 h33)) (hR.stM O) (by decide) ?_
    · refine W_bin rfl rfl rfl rfl rfl ?_
      refine W_end ?_
      intro a w hs ht
      exact ⟨Sl_TC hs rfl rfl rfl rfl rfl rfl, hs.get 32 _ rfl, hs.get 33 _ rfl, hs.get 34 _ rfl⟩
    · rintro T' w' ⟨h1, h2, h3, h4⟩
      exact .stop fun w1 _ => ⟨T', h1, h2, h3, h4, rfl⟩
  · rintro _ w1 ⟨⟨T1, h1, h2, h3, h4, rfl⟩, hR1⟩
    refine mv rfl (fun _ => stepG_seq) ?_
    refine mv rfl (fun _ => stepG_cond (t := decide ((i : Int) < (d.n : Int))) (by simp [Act.eval, Array.getD_eq_getD_getElem?, h4])) ?_
    by_cases hlt : i < d.n
    · have e : decide ((i : Int) < (d.n : Int)) = true := decide_eq_true (by omega)
      rw [e]
      simp only [CD.hd3, if_pos hlt, if_true]
      refine mv rfl (fun _ => stepG_skip) ?_
      refine mv rfl (fun _ => stepG_seq) ?_
      refine mv rfl (fun _ => stepG_block) ?_
      refine mv rfl (fun _ => stepG_seq) ?_
      refine Walks.trans (d.keepM O (Stop := fun g w => ∃ T', d.TC T' ∧ T'[32]? = some (.int .i64 d.n) ∧ T'[33]? = some (.int .i64 i) ∧ T'[9]? = some (.int .i64 i) ∧ g = G (b7.at ⟨T', []⟩ (.code (.region 16 o7_16.toArray false) :: .inBlock 4 :: .code r17 :: K3)) (d.cf :: d.cs)) ?_ hR1) ?_
      · refine reg_on (x := ⟨44, d.Low, d.cM⟩) (H := d.H0) (M := []) (l := o7_15) (L := LC d [(32, .int .i64 d.n), (33, .int .i64 i)]) (Q := fun e a w => d.TC a.tmps ∧ a.tmps[32]? = some (.int .i64 d.n) ∧ a.tmps[33]? = some (.int .i64 i) ∧ a.tmps[9]? = some (.int .i64 i)) ?_ (TC_LC h1 (lk_two h2 h3)) (hR1.stM O) (by decide) ?_
        · refine W_move rfl rfl rfl ?_
          refine W_assign rfl rfl rfl ?_
          refine W_end ?_
          intro a w hs ht
          exact ⟨Sl_TC hs rfl rfl rfl rfl rfl rfl, hs.get 32 _ rfl, hs.get 33 _ rfl, hs.get 9 _ rfl⟩
        · rintro T' w' ⟨h1, h2, h3, h4⟩
          exact .stop fun w1 _ => ⟨T', h1, h2, h3, h4, rfl⟩
      · rintro _ w2 ⟨⟨T2, h1, h2, h3, h9, rfl⟩, hR2⟩
        have hlk : ∀ t u, lk [(32, .int .i64 d.n), (33, .int .i64 i), (9, .int .i64 i)] t = some u → T2[t]? = some u := by
          intro t x h
          simp only [lk_cons] at h
          split at h
          · rename_i e; subst e; rw [← h]; exact h2
          split at h
          · rename_i e; subst e; rw [← h]; exact h3
          split at h
          · rename_i e; subst e; rw [← h]; exact h9
          · cases h
        refine reg_to (x := ⟨44, d.Low, d.cM⟩) (H := d.H0) (M := []) (l := o7_16.take 2) (l' := o7_16) (L := LC d [(32, .int .i64 d.n), (33, .int .i64 i), (9, .int .i64 i)]) (Q := fun e a w => d.TC a.tmps ∧ a.tmps[32]? = some (.int .i64 d.n) ∧ a.tmps[33]? = some (.int .i64 i) ∧ a.tmps[36]? = some (.chan (some d.Ch)) ∧ a.tmps[37]? = some (.int .i64 i)) [2] ?_ (TC_LC h1 hlk) (hR2.stM O) (by decide) ?_ rfl ?_
        · refine W_load rfl rfl isAgg47 rfl (box_cell O.box3).at ?_
          refine W_move rfl rfl rfl ?_
          refine W_end ?_
          intro a w hs ht
          exact ⟨Sl_TC hs rfl rfl rfl rfl rfl rfl, hs.get 32 _ rfl, hs.get 33 _ rfl, hs.get 36 _ rfl, hs.get 37 _ rfl⟩
        · intro q o ho
          have hq : q < 2 := by have := (Array.getElem?_eq_some_iff.1 ho).1; simpa [o7_16] using this
          match q, hq, ho with
          | 0, _, ho | 1, _, ho => simp [o7_16] at ho ⊢; subst ho; exact ⟨rfl, rfl⟩
        · rintro T' w' ⟨h1, h2, h3, h4, h5⟩
          exact .stop fun w1 _ => ⟨hlt, T', h1, h2, h3, h4, h5, rfl⟩
    · have e : decide ((i : Int) < (d.n : Int)) = false := decide_eq_false (by omega)
      rw [e]
      simp only [CD.hd3, if_neg hlt, Bool.false_eq_true, if_false]
      refine mv rfl (fun _ => stepG_exit (k' := [.code tail18]) rfl) ?_
      refine mv rfl (fun _ => stepG_seq) ?_
      refine reg_to (x := ⟨44, d.Low, d.cM⟩) (H := d.H0) (M := []) (l := o7_18.take 1) (l' := o7_18) (L := LC d []) (Q := fun e a w => d.TC a.tmps ∧ a.tmps[39]? = some (.chan (some d.Ch))) [1] ?_ (TC_LC h1 lk_nil') (hR1.stM O) (by decide) ?_ rfl ?_
      · refine W_load rfl rfl isAgg47 rfl (box_cell O.box3).at ?_
        refine W_end ?_
        intro a w hs ht
        exact ⟨Sl_TC hs rfl rfl rfl rfl rfl rfl, hs.get 39 _ rfl⟩
      · intro q o ho
        have hq : q < 1 := by have := (Array.getElem?_eq_some_iff.1 ho).1; simpa [o7_18] using this
        match q, hq, ho with
        | 0, _, ho => simp [o7_18] at ho ⊢; subst ho; exact ⟨rfl, rfl⟩
      · rintro T' w' ⟨h1, h2⟩
        exact .stop fun w1 _ => ⟨T', h1, h2, rfl⟩
end
end Go.Sim
end

section
set_option linter.unusedVariables false
set_option linter.unusedSimpArgs false
set_option maxRecDepth 100000
set_option maxHeartbeats 4000000
namespace Go.Sim
open Go Go.Conc Go.Proofs.Try Go.Wgw
open Go.ConcN (WgLive)
open Go.ConcR (KK WgAt stA smA rd wr DC0)

section
variable {d : CD}
theorem TC_set {T : Array Value} (h : d.TC T) {i : Nat} (v : Value) (h1 : i ≠ 1) (h2 : i ≠ 2) (h6 : i ≠ 6) (h7 : i ≠ 7) (h8 : i ≠ 8) : d.TC (T.setIfInBounds i v) :=
  ⟨by simp [h.size], by rw [Array.getElem?_setIfInBounds_ne h1]; exact h.t1, by rw [Array.getElem?_setIfInBounds_ne h2]; exact h.t2, by rw [Array.getElem?_setIfInBounds_ne h6]; exact h.t6, by rw [Array.getElem?_setIfInBounds_ne h7]; exact h.t7, by rw [Array.getElem?_setIfInBounds_ne h8]; exact h.t8⟩

/-- The worker's code, with what it captures. -/
def clo14 (d : CD) : Value := .func (.func 14) #[] #[.pointer (some ⟨d.Wg, 0, none⟩), .pointer (some ⟨d.bN, 0, none⟩), .pointer (some ⟨d.bS, 0, none⟩), .pointer (some ⟨d.bL, 0, none⟩)]
theorem make14 {T : Array Value} (hT : d.TC T) {k : List Item} {cs : List Frame} (w : World) :
    stepG CPR true (G (b7.at ⟨T, []⟩ (.inRegion o7_11.toArray [0, 1] :: k)) cs) w = .go (G (b7.at ⟨T.setIfInBounds 29 (clo14 d), []⟩ (.inRegion o7_11.toArray [1] :: k)) cs) w #[] := by
  have e2 := hT.t2; have e6 := hT.t6; have e7 := hT.t7; have e8 := hT.t8
  have hr : (execOp (⟨T, []⟩ : Act).eval ⟨some 29, .makeFunc (.func 14) #[] #[(.tmp 8), (.tmp 7), (.tmp 2), (.tmp 6)], 1, "second.go:167", #[], none⟩).run CPR w = .ok (.value (clo14 d)) w := by
    simp [execOp, Instr.makeFunc, Act.eval, Array.getD_eq_getD_getElem?, e2, e6, e7, e8, clo14]
  rw [stepG_value (i := 0) (rest := [1]) (o := ⟨some 29, .makeFunc (.func 14) #[] #[(.tmp 8), (.tmp 7), (.tmp 2), (.tmp 6)], 1, "second.go:167", #[], none⟩) rfl rfl (by decide) hr, listed_none (by simp [execOp, Instr.makeFunc])]
  rfl

/-- The head of the loop that starts the workers. -/
theorem head1 (O : d.Ok) {j : Nat} (hj : j ≤ d.W) {T : Array Value} (hT : d.TC T) (h25 : T[25]? = some (.int .i64 d.W)) (h26 : T[26]? = some (.int .i64 j)) {w : World} (hR : d.RK w) :
    Walks d.cM (d.M (d.hd1 j)) (G (b7.at ⟨T, []⟩ (.code loop1 :: K1)) (d.cf :: d.cs)) w := by
  refine Walks.trans (d.keepM O (Stop := fun g w => ∃ T', d.TC T' ∧ T'[25]? = some (.int .i64 d.W) ∧ T'[26]? = some (.int .i64 j) ∧ T'[27]? = some (.bool (decide ((j : Int) < (d.W : Int)))) ∧
    g = G (b7.at ⟨T', []⟩ (.code (.seq (.cond (.tmp 27) .skip (.exit 1)) (.seq (.block 2 (.seq (.region 10 o7_10.toArray false) r11)) r12)) :: K1)) (d.cf :: d.cs)) ?_ hR) ?_
  · refine mv rfl (fun _ => stepG_seq) ?_
    refine reg_on (x := ⟨44, d.Low, d.cM⟩) (H := d.H0) (M := []) (l := o7_9) (L := LC d [(25, .int .i64 d.W), (26, .int .i64 j)]) (Q := fun e a w => d.TC a.tmps ∧ a.tmps[25]? = some (.int .i64 d.W) ∧ a.tmps[26]? = some (.int .i64 j) ∧ a.tmps[27]? = some (.bool (decide ((j : Int) < (d.W : Int))))) ?_ (TC_LC hT (lk_two h25 h26)) (hR.stM O) (by decide) ?_
    · refine W_bin rfl rfl rfl rfl rfl ?_
      refine W_end ?_
      intro a w hs ht
      exact ⟨Sl_TC hs rfl rfl rfl rfl rfl rfl, hs.get 25 _ rfl, hs.get 26 _ rfl, hs.get 27 _ rfl⟩
    · rintro T' w' ⟨h1, h2, h3, h4⟩
      exact .stop fun w1 _ => ⟨T', h1, h2, h3, h4, rfl⟩
  · rintro _ w1 ⟨⟨T1, h1, h2, h3, h4, rfl⟩, hR1⟩
    refine mv rfl (fun _ => stepG_seq) ?_
    refine mv rfl (fun _ => stepG_cond (t := decide ((j : Int) < (d.W : Int))) (by simp [Act.eval, Array.getD_eq_getD_getElem?, h4])) ?_
    by_cases hlt : j < d.W
    · have e : decide ((j : Int) < (d.W : Int)) = true := decide_eq_true (by omega)
      rw [e]
      simp only [CD.hd1, if_pos hlt, if_true]
      refine Walks.mono (d.keepM O (Stop := d.M0 (.skd j)) ?_ hR1) (fun _ _ h => h)
      refine mv rfl (fun _ => stepG_skip) ?_
      refine mv rfl (fun _ => stepG_seq) ?_
      refine mv rfl (fun _ => stepG_block) ?_
      refine mv rfl (fun _ => stepG_seq) ?_
      refine mv rfl (fun _ => stepG_region) ?_
      have e8 := h1.t8
      refine addPosS (c := d.cM) (ops₀ := o7_10.toArray) (i₀ := 0) (rest₀ := []) (a₀ := ⟨T1, []⟩) (b₀ := b7) wgLib rfl rfl rfl rfl (by decide) rfl (by simp [Act.eval, Array.getD_eq_getD_getElem?, e8]) (fun w2 hL => ?_) w1 hR1.live
      have hT2 : d.TC (T1.setIfInBounds 28 (.tuple #[])) := TC_set h1 _ (by decide) (by decide) (by decide) (by decide) (by decide)
      show Walks d.cM (d.Sgo j) (G (b7.at ⟨T1.setIfInBounds 28 (.tuple #[]), []⟩ (.inRegion o7_10.toArray [] :: .code r11 :: .inBlock 2 :: .code r12 :: K1)) (d.cf :: d.cs)) w2
      refine mv rfl (fun _ => stepG_region_end) ?_
      refine mv rfl (fun _ => stepG_region) ?_
      refine mv rfl (fun w => make14 hT2 w) ?_
      refine .stop fun w3 _ => ⟨hlt, _, TC_set hT2 _ (by decide) (by decide) (by decide) (by decide) (by decide), ?_, ?_, ?_, rfl⟩
      · rw [Array.getElem?_setIfInBounds_ne (by decide), Array.getElem?_setIfInBounds_ne (by decide)]; exact h2
      · rw [Array.getElem?_setIfInBounds_ne (by decide), Array.getElem?_setIfInBounds_ne (by decide)]; exact h3
      · exact Array.getElem?_setIfInBounds_self_of_lt (by rw [hT2.size]; decide)
    · have e : decide ((j : Int) < (d.W : Int)) = false := decide_eq_false (by omega)
      rw [e]
      simp only [CD.hd1, if_neg hlt, Bool.false_eq_true, if_false]
      refine mv rfl (fun _ => stepG_exit (k' := [.code tailA]) rfl) ?_
      refine mv rfl (fun _ => stepG_seq) ?_
      refine mv rfl (fun _ => stepG_seq) ?_
      refine Walks.trans (d.keepM O (Stop := fun g w => ∃ T', d.TC T' ∧ T'[32]? = some (.int .i64 d.n) ∧ T'[33]? = some (.int .i64 (0 : Nat)) ∧ g = G (b7.at ⟨T', []⟩ (.code loop3 :: K3)) (d.cf :: d.cs)) ?_ hR1) ?_
      · refine reg_on (x := ⟨44, d.Low, d.cM⟩) (H := d.H0) (M := []) (l := o7_13) (L := LC d []) (Q := fun e a w => d.TC a.tmps ∧ a.tmps[32]? = some (.int .i64 d.n) ∧ a.tmps[33]? = some (.int .i64 (0 : Nat))) ?_ (TC_LC h1 lk_nil') (hR1.stM O) (by decide) ?_
        · refine W_load rfl rfl isAgg22 rfl (box_cell O.box1).at ?_
          refine W_lenR rfl rfl runUnderlying22 rfl O.rS ?_
          refine W_move rfl rfl rfl ?_
          refine W_end ?_
          intro a w hs ht
          exact ⟨Sl_TC hs rfl rfl rfl rfl rfl rfl, hs.get 32 _ rfl, hs.get 33 _ rfl⟩
        · rintro T' w' ⟨h1, h2, h3⟩
          refine mv rfl (fun _ => stepG_block) ?_
          refine mv rfl (fun _ => stepG_loop) ?_
          exact .stop fun w1 _ => ⟨T', h1, h2, h3, rfl⟩
      · rintro _ w2 ⟨⟨T2, h1, h2, h3, rfl⟩, hR2⟩
        exact head3 O (Nat.zero_le _) h1 h2 h3 hR2

theorem RK_aside (O : d.Ok) {b : Nat} {w w' : World} (h : d.RK w) (A : Aside b w w') (hb : b = d.Wg ∨ b = d.Ch) (hl : WgLive 57 d.Wg w') : d.RK w' :=
  ⟨⟨A.tape.trans h.same.tape, A.os.trans h.same.os, A.output.trans h.same.output⟩, by rw [A.size]; exact h.size, fun x hx => (A.block x (by rcases hb with rfl | rfl; exact hx.2.1; exact hx.2.2.1)).trans (h.heap x hx), hl⟩
theorem RK_st (O : d.Ok) {w : World} (h : d.RK w) {st sm : Int} (hw : WgAt 57 d.Wg w st sm) (st' : Int) : d.RK (w.setCell (stA d.Wg) (.int .u64 st')) :=
  RK_aside O h (aside_setCell w (stA d.Wg) _) (.inl rfl) ⟨_, _, hw.setSt st'⟩
theorem RK_sm (O : d.Ok) {w : World} (h : d.RK w) {st sm : Int} (hw : WgAt 57 d.Wg w st sm) (sm' : Int) : d.RK (w.setCell (smA d.Wg) (.int .u32 sm')) :=
  RK_aside O h (aside_setCell w (smA d.Wg) _) (.inl rfl) ⟨_, _, hw.setSm sm'⟩

/-- From the head of Wait's loop. -/
theorem anch_w1 (O : d.Ok) {T : Array Value} (hT : d.TC T) {g : Goroutine} {w : World} (h : d.Anch T g w) : Walks d.cM (d.M0 .w1) g w := by
  refine Walks.mono (waitRoundS (c := d.cM) (Next := d.Fin) (ops₀ := o7_19.toArray) (i₀ := 0) (rest₀ := []) (a₀ := ⟨T, []⟩) (b₀ := b7) wgLib rfl rfl (fun w1 _ => ?_) g w h) (fun g w h => ⟨T, hT, h⟩)
  exact .stop fun w2 _ => ⟨_, TC_set hT (i := 40) (.tuple #[]) (by decide) (by decide) (by decide) (by decide) (by decide), rfl⟩

/-- The pool that Collect starts. -/
noncomputable def CD.pd (d : CD) : PD CPR := { m0 := d.m0, b0 := d.b0, n := d.n, W := d.W, Low := d.Low, C := d.C, Ch := d.Ch, Wg := d.Wg, ty := 57, ety := 27, z := .int .i64 0, zs := .tuple #[], num := fun i => .int .i64 i, w0 := d.w0, M := d.M, S := d.S, Base := d.Base }
theorem CD.geo (O : d.Ok) : d.pd.Geo := ⟨O.b1, O.W1, by have := O.W2; show d.W < _; omega, O.hW, O.hC, O.hCh, O.hCW, O.hChW, O.hCCh, O.gC, O.gW⟩
end
end Go.Sim
end

section
set_option linter.unusedVariables false
set_option linter.unusedSimpArgs false
set_option maxRecDepth 100000
set_option maxHeartbeats 4000000
namespace Go.Sim
open Go Go.Conc Go.Proofs.Try Go.Wgw
open Go.ConcN (WgLive)
open Go.ConcR (KK WgAt stA smA rd wr DC0)

section
variable {d : CD}
theorem law_mrun (t : MTag) (g : Goroutine) (w : World) (h : d.M t g w) : g.status = .running := by
  obtain ⟨h, _⟩ := h
  cases t with
  | skd j => exact h.1
  | a1 j => exact h.1
  | ske j => exact h.1
  | sgo j => obtain ⟨_, T, _, _, _, _, rfl⟩ := h; rfl
  | snd i => obtain ⟨_, T, _, _, _, _, _, rfl⟩ := h; rfl
  | spk i => exact h.elim
  | cls => obtain ⟨T, _, _, rfl⟩ := h; rfl
  | kd => obtain ⟨T, _, h⟩ := h; exact h.1
  | w1 => obtain ⟨T, _, h⟩ := h; exact h.1
  | w2 vs => obtain ⟨T, _, h⟩ := h; exact h.1
  | w3 => exact h.1
  | blk => exact h.elim
  | w4 => exact h.1
  | ke => exact h.1
  | acq => exact h.1
  | fin => obtain ⟨T, _, rfl⟩ := h; rfl
theorem law_srun (k : Nat) (t : WTag) (g : Goroutine) (w : World) (h : d.S k t g w) : g.status = .running := by
  cases t with
  | recv => obtain ⟨⟨_, T, _, rfl⟩, _⟩ := h; rfl
  | work m => obtain ⟨⟨_, T, v, _, _, _, _, rfl⟩, _⟩ := h; rfl
  | r0 => exact h.1
  | k1 m => exact h.1
  | d1 m => exact h.1
  | d2 m => exact h.1
  | d3 m => exact h.1
  | d4 m => exact h.1
  | park => exact h.elim
  | wok => exact h.elim
  | quit q d => exact h.elim

theorem law_sgo (O : d.Ok) (j : Nat) (g : Goroutine) (w : World) (h : d.M (.sgo j) g w) :
    ∃ g' child, stepG CPR true g w = .spawn g' child w #[] ∧ (∀ k, d.b0 ≤ k → Walks (d.cW k d.Low) (d.S k .recv) child w) ∧ Walks d.cM (d.M (d.hd1 (j + 1))) g' w := by
  obtain ⟨⟨hj, T, hT, h25, h26, h29, rfl⟩, hR⟩ := h
  have hr : (execOp (⟨T, []⟩ : Act).eval ⟨none, .go { callee := .value (.tmp 29), args := #[], argTypes := #[] }, 0, "second.go:167", #[{ on := 0, ground := .data }], none⟩).run CPR w = .ok (.spawn (call14 d)) w := by
    simp [execOp, resolve, Act.eval, Array.getD_eq_getD_getElem?, h29, Deferred.ofValue, call14]
  refine ⟨G (b7.at ⟨T, []⟩ (.inRegion o7_11.toArray [] :: .inBlock 2 :: .code r12 :: K1)) (d.cf :: d.cs), born CPR (call14 d), ?_, fun k hk => child_walk O hk hR, ?_⟩
  · rw [stepG_spawn (i := 1) (rest := []) (o := ⟨none, .go { callee := .value (.tmp 29), args := #[], argTypes := #[] }, 0, "second.go:167", #[{ on := 0, ground := .data }], none⟩) rfl rfl (by decide) hr rfl, listed_none (by simp [execOp, resolve, Act.eval, Array.getD_eq_getD_getElem?, h29, Deferred.ofValue])]
    rfl
  · refine mv rfl (fun _ => stepG_region_end) ?_
    refine mv rfl (fun _ => stepG_inBlock) ?_
    have hw : IntKind.i64.wrap ((j : Int) + 1) = ((j + 1 : Nat) : Int) := by have := O.W2; rw [IntKind.wrap_i64]; omega
    refine Walks.trans (d.keepM O (Stop := fun g w => ∃ T', d.TC T' ∧ T'[25]? = some (.int .i64 d.W) ∧ T'[26]? = some (.int .i64 (j + 1 : Nat)) ∧ g = G (b7.at ⟨T', []⟩ (.code loop1 :: K1)) (d.cf :: d.cs)) ?_ hR) ?_
    · refine reg_on (x := ⟨44, d.Low, d.cM⟩) (H := d.H0) (M := []) (l := o7_12) (L := LC d [(25, .int .i64 d.W), (26, .int .i64 j)]) (Q := fun e a w => d.TC a.tmps ∧ a.tmps[25]? = some (.int .i64 d.W) ∧ a.tmps[26]? = some (.int .i64 (j + 1 : Nat))) ?_ (TC_LC hT (lk_two h25 h26)) (hR.stM O) (by decide) ?_
      · refine W_bin rfl rfl rfl rfl rfl ?_
        rw [hw]
        refine W_move rfl rfl rfl ?_
        refine W_end ?_
        intro a w hs ht
        exact ⟨Sl_TC hs rfl rfl rfl rfl rfl rfl, hs.get 25 _ rfl, hs.get 26 _ rfl⟩
      · rintro T' w' ⟨h1, h2, h3⟩
        refine mv rfl (fun _ => stepG_inLoop) ?_
        exact .stop fun w1 _ => ⟨T', h1, h2, h3, rfl⟩
    · rintro _ w2 ⟨⟨T2, h1, h2, h3, rfl⟩, hR2⟩
      exact head1 O hj h1 h2 h3 hR2

theorem law_snd (O : d.Ok) (i : Nat) (g : Goroutine) (w : World) (h : d.M (.snd i) g w) :
    stepG CPR true g w = .comm (core g) #[scase d.Ch (.int .i64 i) (.tuple #[])] true .send w #[] ∧ ∀ w', Oth d.cM w w' → Walks d.cM (d.M (d.hd3 (i + 1))) (Conc.served (core g) undef) w' := by
  obtain ⟨⟨hi, T, hT, h32, h33, h36, h37, rfl⟩, hR⟩ := h
  constructor
  · have hr : (execOp (⟨T, []⟩ : Act).eval ⟨none, .send (.tmp 36) (.tmp 37), 0, "second.go:175", #[{ on := 0, ground := .data }, { on := 1, ground := .data }], none⟩).run CPR w = .ok (.comm #[scase d.Ch (.int .i64 i) (.tuple #[])] true .send) w := by
      simp [execOp, scase, Act.eval, Array.getD_eq_getD_getElem?, h36, h37]
    rw [core_G, stepG_comm (i := 2) (rest := []) (o := ⟨none, .send (.tmp 36) (.tmp 37), 0, "second.go:175", #[{ on := 0, ground := .data }, { on := 1, ground := .data }], none⟩) rfl rfl (by decide) hr, listed_none (by simp [execOp, Act.eval])]
  · intro w' o
    have hR' : d.RK w' := CD.RK.oth (c := d.cM) rfl rfl hR o
    rw [core_G, served_G]
    show Walks d.cM (d.M (d.hd3 (i + 1))) (G (b7.at ⟨T, []⟩ (.inRegion o7_16.toArray [] :: .inBlock 4 :: .code r17 :: K3)) (d.cf :: d.cs)) w'
    refine mv rfl (fun _ => stepG_region_end) ?_
    refine mv rfl (fun _ => stepG_inBlock) ?_
    have hw : IntKind.i64.wrap ((i : Int) + 1) = ((i + 1 : Nat) : Int) := by have := O.nb; rw [IntKind.wrap_i64]; omega
    refine Walks.trans (d.keepM O (Stop := fun g w => ∃ T', d.TC T' ∧ T'[32]? = some (.int .i64 d.n) ∧ T'[33]? = some (.int .i64 (i + 1 : Nat)) ∧ g = G (b7.at ⟨T', []⟩ (.code loop3 :: K3)) (d.cf :: d.cs)) ?_ hR') ?_
    · refine reg_on (x := ⟨44, d.Low, d.cM⟩) (H := d.H0) (M := []) (l := o7_17) (L := LC d [(32, .int .i64 d.n), (33, .int .i64 i)]) (Q := fun e a w => d.TC a.tmps ∧ a.tmps[32]? = some (.int .i64 d.n) ∧ a.tmps[33]? = some (.int .i64 (i + 1 : Nat))) ?_ (TC_LC hT (lk_two h32 h33)) (hR'.stM O) (by decide) ?_
      · refine W_bin rfl rfl rfl rfl rfl ?_
        rw [hw]
        refine W_move rfl rfl rfl ?_
        refine W_end ?_
        intro a w hs ht
        exact ⟨Sl_TC hs rfl rfl rfl rfl rfl rfl, hs.get 32 _ rfl, hs.get 33 _ rfl⟩
      · rintro T' w' ⟨h1, h2, h3⟩
        refine mv rfl (fun _ => stepG_inLoop) ?_
        exact .stop fun w1 _ => ⟨T', h1, h2, h3, rfl⟩
    · rintro _ w2 ⟨⟨T2, h1, h2, h3, rfl⟩, hR2⟩
      exact head3 O hi h1 h2 h3 hR2

theorem law_cls (O : d.Ok) (g : Goroutine) (w : World) (h : d.M .cls g w) : mayWake CPR g = true ∧ ∀ s, w.heap[d.Ch]? = some (.chan 0 #[] false s s false) →
    ∃ g', stepG CPR true g w = .go g' (w.setChan d.Ch 0 #[] true s s false) #[⟨.obj d.Ch, false, true⟩, ⟨.obj d.Ch, true, true⟩] ∧ g'.status = .running ∧ Walks d.cM (d.M .kd) g' (w.setChan d.Ch 0 #[] true s s false) := by
  obtain ⟨⟨T, hT, h39, rfl⟩, hR⟩ := h
  refine ⟨rfl, fun s hs => ?_⟩
  have hx : (⟨T, []⟩ : Act).eval (.tmp 39) = .chan (some d.Ch) := by simp [Act.eval, Array.getD_eq_getD_getElem?, h39]
  have hA : Aside d.Ch w (w.setChan d.Ch 0 #[] true s s false) := Aside.put _ _ _
  have hR1 : d.RK (w.setChan d.Ch 0 #[] true s s false) := RK_aside O hR hA (.inr rfl) (live_of_block (hA.block d.Wg (Ne.symm O.hChW)) hR.live)
  refine ⟨_, stepG_close (i := 1) (rest := []) (o := ⟨none, .call { callee := .builtin .close, args := #[(.tmp 39)], argTypes := #[47] }, 0, "second.go:177", #[{ on := 0, ground := .data }], none⟩) rfl rfl (by decide) rfl hx hs loud7, rfl, ?_⟩
  refine Walks.mono (d.keepM O (Stop := d.M0 .kd) ?_ hR1) (fun _ _ h => h)
  show Walks d.cM (d.M0 .kd) (G (b7.at ⟨T, []⟩ (.inRegion o7_18.toArray [] :: [.code tail19])) (d.cf :: d.cs)) _
  refine mv rfl (fun _ => stepG_region_end) ?_
  refine mv rfl (fun _ => stepG_seq) ?_
  refine mv rfl (fun _ => stepG_region) ?_
  have e8 := hT.t8
  exact Walks.mono (waitStartS (c := d.cM) (ops₀ := o7_19.toArray) (i₀ := 0) (rest₀ := []) (a₀ := ⟨T, []⟩) (b₀ := b7) wgLib rfl rfl rfl (by decide) rfl (by simp [Act.eval, Array.getD_eq_getD_getElem?, e8]) _ hR1.live) (fun g w h => ⟨T, hT, h⟩)

theorem pd_laws (O : d.Ok) : d.pd.Laws where
  mrun := law_mrun
  srun := law_srun
  skd := by
    rintro j g w ⟨⟨_, g', h1, h2⟩, hR⟩
    exact ⟨g', h1, d.keepM O h2 hR⟩
  a1 := by
    rintro j g w ⟨⟨_, h⟩, hR⟩ v hv hw
    obtain ⟨g', h1, h2⟩ := h v hv hw
    exact ⟨g', h1, d.keepM O h2 (RK_st O hR hw _)⟩
  ske := by
    rintro j g w ⟨⟨_, g', h1, h2⟩, hR⟩
    exact ⟨g', h1, d.keepM O h2 hR⟩
  sgo := law_sgo O
  snd := law_snd O
  cls := law_cls O
  kd := by
    rintro g w ⟨⟨T, hT, _, g', h1, h2⟩, hR⟩
    exact ⟨g', h1, d.keepM O (h2.trans fun g w h => anch_w1 O hT h) hR⟩
  w1 := by
    rintro g w ⟨⟨T, hT, _, h⟩, hR⟩ v hv hw
    obtain ⟨g', h1, h2, h3⟩ := h v hv hw
    exact ⟨g', h1, fun e => d.keepM O (h2 e) hR, fun e => d.keepM O ((h3 e).mono fun g w h => ⟨T, hT, h⟩) hR⟩
  w2 := by
    rintro vs g w ⟨⟨T, hT, _, h⟩, hR⟩ v hv hw
    obtain ⟨h1, h2⟩ := h v hv hw
    refine ⟨fun e => ?_, fun e => ?_⟩
    · obtain ⟨g', h3, h4⟩ := h1 e
      exact ⟨g', h3, d.keepM O h4 (RK_st O hR hw _)⟩
    · obtain ⟨g', h3, h4⟩ := h2 e
      exact ⟨g', h3, d.keepM O (h4.trans fun g w h => anch_w1 O hT h) hR⟩
  w3 := by
    rintro g w ⟨⟨_, h1, h2, h3⟩, hR⟩
    refine ⟨h1, h2, fun hw => ?_⟩
    obtain ⟨g', h4, h5⟩ := h3 hw
    exact ⟨g', h4, d.keepM O h5 (RK_sm O hR hw _)⟩
  w4 := by
    rintro g w ⟨⟨_, h⟩, hR⟩ hw
    obtain ⟨g', h1, h2⟩ := h hw
    exact ⟨g', h1, d.keepM O h2 hR⟩
  ke := by
    rintro g w ⟨⟨_, g', h1, h2⟩, hR⟩
    exact ⟨g', h1, d.keepM O h2 hR⟩
  acq := by
    rintro g w ⟨⟨_, g', h1, h2⟩, hR⟩
    exact ⟨g', h1, d.keepM O h2 hR⟩
  recv := fun k g w h => ⟨recv_comm h.1, fun m B w' hm hB o => recv_work O h hm hB o, fun B w' hB o => recv_r0 O h hB o⟩
  work := by
    rintro k m g w h hm ⟨cs, h1, h2⟩
    exact work_law O h hm h1 h2
  r0 := by
    rintro k g w ⟨_, g', h1, m, h2⟩
    exact ⟨g', h1, m, goes_rel (fun _ _ o => othN (B := d.Low) o) h2⟩
  k1 := by
    rintro k g w ⟨_, g', h1, m, h2⟩
    exact ⟨g', h1, m, goes_rel (fun _ _ o => othN (B := d.Low) o) h2⟩
  d1 := by
    rintro k g w ⟨_, h⟩ v wt hwt hv hw
    obtain ⟨g', h1, h2, h3⟩ := h v wt hwt hv hw
    refine ⟨g', h1, fun e => ?_, h3⟩
    obtain ⟨m, h4⟩ := h2 e
    exact ⟨m, goes_rel (fun _ _ o => othN (B := d.Low) o) h4⟩
  d2 := by
    rintro k g w ⟨_, h⟩ hw
    obtain ⟨g', h1, m, h2⟩ := h hw
    exact ⟨g', h1, m, goes_rel (fun _ _ o => othN (B := d.Low) o) h2⟩
  d3 := by
    rintro k g w ⟨_, h⟩ hw
    obtain ⟨g', h1, m, h2⟩ := h hw
    exact ⟨g', h1, m, goes_rel (fun _ _ o => othN (B := d.Low) o) h2⟩
  d4 := by
    rintro k g w ⟨_, h1, h2⟩
    exact ⟨h1, h2⟩
end
end Go.Sim
end
