/-
  The outermost call: from its entry to the return that ends the run.
  Printed by a program: the models of the Go functions.
  Printed by a program: each Go function computes its model, in company.
-/
import Derived.Test.YticgbjeijocojaaMg22
import Derived.Conc.LeavingOf
set_option linter.unusedVariables false
set_option linter.unusedSimpArgs false
section
set_option linter.unusedVariables false
set_option linter.unusedSimpArgs false
namespace Go.Sim
open Go Go.Conc Go.Proofs.Try Go.RowKit

/-- The contract of a call that nobody waits for. -/
def Roots (P : Program) (f : FuncId) (args : Array Value) (w : World) (R : Rt P) : Prop :=
  ∀ (Stop : Goroutine → World → Prop), (∀ fn a w' todo v, P.funcs[f]? = some fn → a.defers = [] → ResultsC P fn a.tmps v → R.post v w' → Walks R.c Stop (G { (base f).at a todo with mode := .returning } []) w') →
    Walks R.c Stop (G (Frame.enter P f args .normal) []) w
theorem enterR {P : Program} {f : FuncId} {fn : Func} {c : Code} {vs : List Value} {N B : Nat} {w0 : Bs P} {w : World} {H : Hp} {M : List Res} {Φ : Hp → List Res → Value → Prop}
    (hf : P.funcs[f]? = some fn) (hb : fn.body = some c) (hN : fn.ntmps = N) (hle : Nat.ble vs.length N = true) (ht : St B w0 H M w)
    (k : C ⟨N, B, w0⟩ c (bodyPostK P fn (Ret B w0 Φ)) H M (envOf 0 vs)) : Roots P f vs.toArray w (Ret B w0 Φ) := by
  intro Stop hc
  rw [enter_at vs.toArray hf hb]
  have hsl : Sl N (envOf 0 vs) ⟨vs.toArray ++ Array.replicate (fn.ntmps - vs.toArray.size) undef, []⟩ := by
    refine ⟨?_, rfl, ?_⟩
    · have : vs.length ≤ N := by simpa [Nat.ble_eq] using hle
      simp [hN]; omega
    · intro t v h
      have := envOf_get N vs 0 t v [] rfl h
      simpa [hN] using this
  refine k _ w hsl ht (base f) [] _ Stop (by simp [base]) fun e a' w' q => ?_
  cases e with
  | normal => obtain ⟨hd, v, hr, hp⟩ := q; exact Walks.move rfl (fun w1 => stepG_end) fun w1 h1 => (hc fn a' w' [] v hf hd hr hp).rely h1
  | ret => obtain ⟨hd, v, hr, hp⟩ := q; exact fun todo => hc fn a' w' todo v hf hd hr hp
  | exit id => exact q.elim
  | goto l => exact q.elim
  | panic ch => exact q.elim
  | outgrown => exact q.elim
theorem stepG_root {P : Program} {b : Frame} {a : Act} {w : World} {fn : Func} {todo : List Item} {v : Value} (hn : b.kind = .normal) (hi : P.inits.idxOf? b.fn = none) (hd : a.defers = []) (hf : P.funcs[b.fn]? = some fn)
    (hr : (results fn a.tmps).run P w = .ok v w) (he : (results fn a.tmps).events P w #[] = #[]) : stepG P true (G { b.at a todo with mode := .returning } []) w = .ended (.done v) w #[] := by
  simp [G, stepG, unwind, doReturn, Frame.at, hn, hi, hd, hf, hr, he, seen, GStep.after]

section
variable {m0 : Machine}
/-- Goroutine 0's company, where calls of Collect's are paid. -/
def paid (m0 : Machine) (w0 : World) : Bs CPR := { bare m0 w0 with J := CollectJ m0 }
instance (w0 : World) : JCol (paid m0 w0) := ⟨m0, rfl, rfl, rfl⟩
theorem walk_paid {w0 : World} {Stop : Goroutine → World → Prop} {a : Goroutine} {w : World} (h : Walks (paid m0 w0) Stop a w) {n : Nat} {gs : Array Goroutine} {sl : Option (Nat × Nat)} {t : Trace} {q : Nat → Nat}
    (f : Fr CPR m0 (fun _ => True) n gs w sl t q a) : Comes0 CPR m0 (fun _ => True) n Stop := by
  refine walk_main (c := paid m0 w0) rfl (fun _ _ _ => trivial) (fun _ h => h) (fun b hb => hb.elim id False.elim) ?_ (fun n gs w sl t q a S f h => collect_pays f h) h n gs sl t q f
  rintro n m t a b hat hwho h0 hr hb ⟨n', m', t', a', hb', hat', hwho', h0', hr'⟩
  obtain rfl := hb.uniq hb'
  obtain ⟨rfl, _⟩ := hat.fun hat'
  rw [h0] at h0'
  cases h0'
  rw [hr] at hr'
  cases hr'
end

/-- THE RUN, from the entry of a function whose contract is paid. -/
theorem run_ends {f : FuncId} {fn : Func} {args : Array Value} {W : World} {v : Value} (hf : CPR.funcs[f]? = some fn) (hi : CPR.inits.idxOf? f = none)
    (hroot : ∀ m0, (∀ b, b < W.heap.size → ¬ Gp CPR m0 b) → Roots CPR f args W (Ret W.heap.size (paid m0 W) fun H' M' u => snapG m0 W = H' ∧ [] = M' ∧ v = u)) :
    ∃ N last o w' t', runNT CPR (N + 1) (solo (G (Frame.enter CPR f args .normal) []) W) #[] = (.ended o w', t') ∧ runN CPR N (solo (G (Frame.enter CPR f args .normal) []) W) = .next last ∧
      step CPR last = .ended o w' ∧ Go.Conc.Good CPR (fun u W' => u = v ∧ Below W.heap.size W W') last o w' t' := by
  obtain ⟨a, ha⟩ : ∃ a, a = G (Frame.enter CPR f args .normal) [] := ⟨_, rfl⟩
  rw [← ha]
  obtain ⟨m0, hm0⟩ : ∃ m0, m0 = crowd #[a] W none := ⟨_, rfl⟩
  have hsolo : solo a W = m0 := hm0.symm
  rw [hsolo]
  have hg0 : ∀ b, b < W.heap.size → ¬ Gp CPR m0 b := by
    rintro b hb ⟨n, m, t, a', ⟨_, _, _, _, _, _, _, hm⟩, _⟩
    have := hm 0 m0 #[] (Nat.zero_le _) At.zero
    rw [hm0] at this
    exact absurd hb (Nat.not_lt.2 this)
  have hstop : Walks (paid m0 W) (fun g w1 => ∃ a' todo, g = G { (base f).at a' todo with mode := .returning } [] ∧ a'.defers = [] ∧ ResultsC CPR fn a'.tmps v ∧ Below W.heap.size W w1) a W := by
    rw [ha]
    refine hroot m0 hg0 _ fun fn' a' w' todo u hf' hd hr hp => .stop fun w1 h1 => ?_
    rw [hf] at hf'
    cases hf'
    obtain ⟨H', M', hst, rfl, rfl, rfl⟩ := hp
    have hst1 := hst.oth h1
    exact ⟨a', todo, rfl, hd, hr, ⟨hst1.below.os, hst1.below.tape, hst1.below.output, hst1.le, fun b hb => by
      rw [Array.getElem?_eq_getElem hb]
      exact hst1.hin b _ (snapG_of (hg0 b hb) (Array.getElem?_eq_getElem hb))⟩⟩
  have fb := fr_begin (P := CPR) (Z := fun _ => True) a W
  rw [← hm0] at fb
  obtain ⟨n', gs', w', sl', t', q', a1, hn, f1, a2, todo, rfl, hd, hr, hB⟩ := walk_paid hstop fb
  refine fr_ends f1 fun w1 ⟨dd, h1⟩ => ⟨rfl, v, #[], stepG_root (b := base f) rfl hi hd hf (hr w1).1 (hr w1).2, by simp, rfl, ?_⟩
  subst h1
  exact ⟨hB.os, hB.tape, hB.output, hB.size, hB.block⟩
end Go.Sim
end

section
namespace Go.Sim
open Go
set_option linter.unusedVariables false

def m_gridhallkeep4_collectFact : Option (Bool) := (m_second_Collect ([[(S_api_TelemetryMsg.mk (⟨#[65]⟩) 1 5 7), (S_api_TelemetryMsg.mk (⟨#[65]⟩) 2 6 8)]]) 2).bind fun r110 => if decide (r110.2 = 0) then (if decide ((r110.1.length : Int) = 1) then (idx r110.1 0 fun y117 => some (decide (y117.Point = (⟨#[65]⟩)) && (decide (y117.Number = 2) && (decide (y117.Time = 6) && (decide (y117.Value = 8) && true))))) else (some false)) else (some false)

def m_gridhallkeep4_SecondCollects_b4 (k125 : Nat) (k521 : Nat) (y638 : S_api_TelemetryMsg) (n624 : Int) (l627 : List S_telemetry_point) (l630 : (List (List S_api_TelemetryMsg))) (nx635 : (Int × List S_telemetry_point × (List (List S_api_TelemetryMsg))) → Option (Bool)) : Option (Bool) := idx ([(⟨#[65]⟩), (⟨#[66]⟩), (⟨#[67]⟩), (⟨#[68]⟩)]) (k125 : Int) fun y649 => (m_gridhallref4_Cut y638.Number 0 2).bind fun r656 => idx ([(⟨#[]⟩), (⟨#[49]⟩), (⟨#[50]⟩)]) r656 fun y658 => need (y649.size + y658.size ≤ maxLen) (idx l630 (k125 : Int) fun y673 => need ((y673.length + 1) * 40 ≤ 140737488355328) ((m_telemetry_Points_Take (S_telemetry_Points.mk n624 l627) (S_api_TelemetryMsg.mk (y649 ++ y658) y638.Number y638.Time y638.Value)).bind fun r679 => nx635 (r679.2.2.age, r679.2.2.all_, (l630.set ((k125 : Int)).toNat (y673 ++ [(S_api_TelemetryMsg.mk (y649 ++ y658) y638.Number y638.Time y638.Value)])))))
def m_gridhallkeep4_SecondCollects_b3 (k125 : Nat) (y508 : (List S_api_TelemetryMsg)) (n494 : Int) (l497 : List S_telemetry_point) (l500 : (List (List S_api_TelemetryMsg))) (nx505 : (Int × List S_telemetry_point × (List (List S_api_TelemetryMsg))) → Option (Bool)) : Option (Bool) := need (0 ≤ (min (y508.length : Int) 6) ∧ (min (y508.length : Int) 6) ≤ (y508.length : Int)) (forI (fun k y s634 n => m_gridhallkeep4_SecondCollects_b4 k125 k y s634.1 s634.2.1 s634.2.2 n) (fun s634 => nx505 (s634.1, s634.2.1, s634.2.2)) 0 (slc y508 0 ((min (y508.length : Int) 6 : Int).toNat)) (n494, l497, l500))
def m_gridhallkeep4_SecondCollects (p0_l : (List (List S_api_TelemetryMsg))) (workers : Int) : Option (Bool) := need (0 ≤ (min (p0_l.length : Int) 4) ∧ (min (p0_l.length : Int) 4) ≤ (p0_l.length : Int)) (need (0 ≤ ((slc p0_l 0 ((min (p0_l.length : Int) 4 : Int).toNat)).length : Int) ∧ ((slc p0_l 0 ((min (p0_l.length : Int) 4 : Int).toNat)).length : Int) * 24 ≤ 140737488355328) (optC (((m_telemetry_New 0)).1) (some false) (fun sp107 => if !decide ((((m_telemetry_New 0)).2) = 0) then (some false) else (forI (fun k y s504 n => m_gridhallkeep4_SecondCollects_b3 k y s504.1 s504.2.1 s504.2.2 n) (fun s504 => (m_gridhallref4_Cut workers 1 8).bind fun r691 => (m_second_Collect s504.2.2 r691).bind fun r693 => (m_second_Collect s504.2.2 1).bind fun r698 => (m_gridhallref4_Cut workers 1 8).bind fun r703 => (m_second_Collect (slc p0_l 0 ((min (p0_l.length : Int) 4 : Int).toNat)) r703).bind fun r705 => (m_second_Collect (slc p0_l 0 ((min (p0_l.length : Int) 4 : Int).toNat)) 1).bind fun r710 => (m_gridhallkeep4_collectFact).bind fun r715 => if r715 then (if decide (r693.2 = 0) then (if decide (r698.2 = 0) then (if decide (r705.2 = 0) then (if decide (r710.2 = 0) then ((m_slices_Equal_api_TelemetryMsg_api_TelemetryMsg r693.1 r698.1).bind fun r722 => if r722 then ((m_telemetry_Points_List (S_telemetry_Points.mk s504.1 s504.2.1)).bind fun r725 => (m_slices_Equal_api_TelemetryMsg_api_TelemetryMsg r693.1 r725).bind fun r730 => if r730 then ((m_slices_Equal_api_TelemetryMsg_api_TelemetryMsg r705.1 r710.1).bind fun r733 => some r733) else (some false)) else (some false)) else (some false)) else (some false)) else (some false)) else (some false)) else (some false)) 0 (slc p0_l 0 ((min (p0_l.length : Int) 4 : Int).toNat)) (sp107.age, sp107.all_, (List.replicate ((((slc p0_l 0 ((min (p0_l.length : Int) 4 : Int).toNat)).length : Int) : Int).toNat) ([] : (List S_api_TelemetryMsg))))))))
end Go.Sim
end

section
namespace Go.Sim
open Go Go.Proofs.Try
set_option linter.unusedVariables false
set_option linter.unusedSimpArgs false
set_option maxRecDepth 100000
set_option maxHeartbeats 4000000
theorem m_gridhallkeep4_collectFact_c {B : Nat} {w0 : Bs Proofs.Try.prog} [JCol w0] {w : World} {H : Hp} {M : List Res} {r : Bool} (hm : m_gridhallkeep4_collectFact = some r) (ht : St B w0 H (M) w) :
    Calls Proofs.Try.prog 8 [].toArray w (Ret B w0 fun H' M' v => H = H' ∧ M = M' ∧ .bool (r) = v) := by
  unfold m_gridhallkeep4_collectFact at hm
  refine enter Proofs.Try.func8 rfl rfl rfl ht ?_
  refine C_seq ?_
  refine C_region ?_
  refine W_assign rfl rfl rfl ?_
  refine W_end ?_
  refine E_then ?_
  refine C_seq ?_
  refine C_region ?_
  refine W_build (css := [[.string (⟨#[65]⟩)], [.int .i64 (1)], [.int .i64 (5)], [.int .i64 (7)]]) (zs := [.string (⟨#[]⟩), .int .i64 (0), .int .i64 (0), .int .i64 (0)]) (out := [.string (⟨#[65]⟩), .int .i64 (1), .int .i64 (5), .int .i64 (7)]) (places := [(0, 1), (1, 1), (2, 1), (3, 1)]) rfl rfl rfl ⟨rfl, rfl, rfl, rfl, trivial⟩ Proofs.Try.zeroValue29 rfl Proofs.Try.runUnderlying29 (fun w => by kernel_rfl) rfl ?_
  refine W_build (css := [[.string (⟨#[65]⟩)], [.int .i64 (2)], [.int .i64 (6)], [.int .i64 (8)]]) (zs := [.string (⟨#[]⟩), .int .i64 (0), .int .i64 (0), .int .i64 (0)]) (out := [.string (⟨#[65]⟩), .int .i64 (2), .int .i64 (6), .int .i64 (8)]) (places := [(0, 1), (1, 1), (2, 1), (3, 1)]) rfl rfl rfl ⟨rfl, rfl, rfl, rfl, trivial⟩ Proofs.Try.zeroValue29 rfl Proofs.Try.runUnderlying29 (fun w => by kernel_rfl) rfl ?_
  refine W_buildSliceO (α := S_api_TelemetryMsg) (css := [[.string (⟨#[65]⟩), .int .i64 (1), .int .i64 (5), .int .i64 (7)], [.string (⟨#[65]⟩), .int .i64 (2), .int .i64 (6), .int .i64 (8)]]) (zs := [.string (⟨#[]⟩), .int .i64 (0), .int .i64 (0), .int .i64 (0), .string (⟨#[]⟩), .int .i64 (0), .int .i64 (0), .int .i64 (0)]) (out := [.string (⟨#[65]⟩), .int .i64 (1), .int .i64 (5), .int .i64 (7), .string (⟨#[65]⟩), .int .i64 (2), .int .i64 (6), .int .i64 (8)]) (ys := [(S_api_TelemetryMsg.mk (⟨#[65]⟩) 1 5 7), (S_api_TelemetryMsg.mk (⟨#[65]⟩) 2 6 8)]) rfl rfl rfl ⟨rfl, rfl, trivial⟩ Proofs.Try.runUnderlying27 Proofs.Try.sizeOf29 rfl Proofs.Try.zeroValue29 (by kernel_rfl) rfl rfl rfl rfl ⟨[.string (⟨#[65]⟩), .int .i64 (1), .int .i64 (5), .int .i64 (7)], [.string (⟨#[65]⟩), .int .i64 (2), .int .i64 (6), .int .i64 (8)], rfl, rfl, ⟨[.string (⟨#[65]⟩), .int .i64 (2), .int .i64 (6), .int .i64 (8)], [], rfl, rfl, rfl⟩⟩ rfl ?_
  intro v101 xs102 hr103
  refine W_freeze (hr103).rd rfl (fun H104 hle105 h106 => ?_)
  refine W_buildSliceO (α := (List S_api_TelemetryMsg)) (css := [[v101]]) (zs := [.slice none 0 0]) (out := [v101]) (ys := [[(S_api_TelemetryMsg.mk (⟨#[65]⟩) 1 5 7), (S_api_TelemetryMsg.mk (⟨#[65]⟩) 2 6 8)]]) rfl rfl rfl ⟨(RdS.cells h106), trivial⟩ Proofs.Try.runUnderlying22 Proofs.Try.sizeOf27 rfl Proofs.Try.zeroValue27 (by kernel_rfl) rfl rfl rfl rfl ⟨[v101], [], rfl, ⟨v101, rfl, h106⟩, rfl⟩ rfl ?_
  intro v107 xs108 hr109
  obtain ⟨r110, hc111, hm⟩ := bind_some hm
  refine W_call Proofs.Try.call7 rfl rfl rfl (fun w ht => by obtain ⟨H0_, hl0_, ht0_, hr0_, bk0_⟩ := ht.lendRow hr109 rfl; have h := m_second_Collect_c (hm := hc111) hr0_ ht0_; exact lend_back bk0_ (h)) ?_
  rintro _ _ _ ⟨rfl, ⟨_, rfl, v112, xs113, rfl, rfl, h114⟩⟩
  have h114 := h114 H104
  refine W_move rfl rfl rfl ?_
  refine W_extract rfl rfl rfl rfl ?_
  refine W_extract rfl rfl rfl rfl ?_
  refine W_assign rfl rfl rfl ?_
  refine W_assign rfl rfl rfl ?_
  refine W_end ?_
  refine E_then ?_
  refine C_seq ?_
  refine C_region ?_
  refine W_move rfl rfl rfl ?_
  refine W_bin rfl rfl rfl rfl rfl ?_
  refine W_move rfl rfl rfl ?_
  cases hb115 : (decide (r110.2 = 0))
  · have hm := ite_f' hb115 hm
    refine W_no rfl rfl rfl ?_
    refine W_no rfl rfl rfl ?_
    refine W_no rfl rfl rfl ?_
    refine W_pick rfl rfl rfl rfl ?_
    refine W_move rfl rfl rfl ?_
    refine W_no rfl rfl rfl ?_
    refine W_no rfl rfl rfl ?_
    refine W_no rfl rfl rfl ?_
    refine W_no rfl rfl rfl ?_
    refine W_no rfl rfl rfl ?_
    refine W_pick rfl rfl rfl rfl ?_
    refine W_assign rfl rfl rfl ?_
    refine W_end ?_
    refine E_then ?_
    refine C_ret ?_
    obtain rfl := Option.some.inj hm
    refine Ek [] 2 ?_
    refine E_weak hle105 ?_
    exact end1 rfl rfl ⟨rfl, rfl, rfl⟩
  · have hm := ite_t' hb115 hm
    refine W_move rfl rfl rfl ?_
    refine W_lenO (List.mem_cons_of_mem _ (List.mem_cons_self ..)) rfl rfl Proofs.Try.runUnderlying27 rfl ?_
    refine W_bin rfl rfl rfl rfl rfl ?_
    refine W_pick rfl rfl rfl rfl ?_
    refine W_move rfl rfl rfl ?_
    cases hb116 : (decide ((r110.1.length : Int) = 1))
    · have hm := ite_f' hb116 hm
      refine W_no rfl rfl rfl ?_
      refine W_no rfl rfl rfl ?_
      refine W_no rfl rfl rfl ?_
      refine W_no rfl rfl rfl ?_
      refine W_no rfl rfl rfl ?_
      refine W_pick rfl rfl rfl rfl ?_
      refine W_assign rfl rfl rfl ?_
      refine W_end ?_
      refine E_then ?_
      refine C_ret ?_
      obtain rfl := Option.some.inj hm
      refine Ek [] 2 ?_
      refine E_weak hle105 ?_
      exact end1 rfl rfl ⟨rfl, rfl, rfl⟩
    · have hm := ite_t' hb116 hm
      refine W_move rfl rfl rfl ?_
      obtain ⟨y117, h118, he119, hm⟩ := idx_some hm
      refine W_indexO (List.mem_cons_of_mem _ (List.mem_cons_self ..)) rfl rfl Proofs.Try.runUnderlying27 Proofs.Try.sizeOf29 rfl rfl h118 (List.getElem?_eq_some_iff.1 he119).1 ?_
      obtain ⟨_, rfl, hg120⟩ := (h114).elem he119
      refine W_loadAgg (cs := [.string (y117.Point), .int .i64 (y117.Number), .int .i64 (y117.Time), .int .i64 (y117.Value)]) rfl rfl Proofs.Try.isAgg29 Proofs.Try.sizeOf29 rfl (row_cells (List.mem_cons_of_mem _ (List.mem_cons_self ..)) hg120) rfl ?_
      refine W_build (css := [[.string (⟨#[65]⟩)], [.int .i64 (2)], [.int .i64 (6)], [.int .i64 (8)]]) (zs := [.string (⟨#[]⟩), .int .i64 (0), .int .i64 (0), .int .i64 (0)]) (out := [.string (⟨#[65]⟩), .int .i64 (2), .int .i64 (6), .int .i64 (8)]) (places := [(0, 1), (1, 1), (2, 1), (3, 1)]) rfl rfl rfl ⟨rfl, rfl, rfl, rfl, trivial⟩ Proofs.Try.zeroValue29 rfl Proofs.Try.runUnderlying29 (fun w => by kernel_rfl) rfl ?_
      refine W_eqAgg (b := decide (y117.Point = (⟨#[65]⟩)) && (decide (y117.Number = 2) && (decide (y117.Time = 6) && (decide (y117.Value = 8) && true)))) rfl rfl (by kernel_rfl) rfl rfl (fun w => run_equal_struct (bs := [decide (y117.Point = (⟨#[65]⟩)), decide (y117.Number = 2), decide (y117.Time = 6), decide (y117.Value = 8)]) Proofs.Try.runUnderlying29 (by kernel_rfl) ⟨(by decide), (fldEq_str Proofs.Try.isAgg9 Proofs.Try.runUnderlying9 rfl rfl), (by decide), (fldEq_int Proofs.Try.isAgg3 Proofs.Try.runUnderlying3 rfl rfl), (by decide), (fldEq_int Proofs.Try.isAgg3 Proofs.Try.runUnderlying3 rfl rfl), (by decide), (fldEq_int Proofs.Try.isAgg3 Proofs.Try.runUnderlying3 rfl rfl), trivial⟩) ?_
      refine W_pick rfl rfl rfl rfl ?_
      refine W_assign rfl rfl rfl ?_
      refine W_end ?_
      refine E_then ?_
      refine C_ret ?_
      obtain rfl := Option.some.inj hm
      refine Ek [] 2 ?_
      refine E_weak hle105 ?_
      exact end1 rfl rfl ⟨rfl, rfl, rfl⟩

theorem m_gridhallkeep4_SecondCollects_c {B : Nat} {w0 : Bs Proofs.Try.prog} [JCol w0] {w : World} {H : Hp} {M : List Res} {p0_l : (List (List S_api_TelemetryMsg))} {workers : Int} {v0 : Value} {r : Bool} (hm : m_gridhallkeep4_SecondCollects p0_l workers = some r) (h0 : RdS H v0 p0_l) (ht : St B w0 H (M) w) :
    Roots Proofs.Try.prog 3 [v0, .int .i64 (workers)].toArray w (Ret B w0 fun H' M' v => H = H' ∧ M = M' ∧ .bool (r) = v) := by
  unfold m_gridhallkeep4_SecondCollects at hm
  refine enterR Proofs.Try.func3 rfl rfl rfl ht ?_
  refine C_seq ?_
  refine C_region ?_
  refine W_assign rfl rfl rfl ?_
  refine W_end ?_
  refine E_then ?_
  refine C_seq ?_
  refine C_region ?_
  refine W_move rfl rfl rfl ?_
  refine W_move rfl rfl rfl ?_
  refine W_lenR rfl rfl Proofs.Try.runUnderlying22 rfl h0 ?_
  refine W_min rfl rfl rfl rfl ?_
  obtain ⟨hz101, hm⟩ := need_some hm
  refine W_sliceR (α := (List S_api_TelemetryMsg)) (l := 0) (h := (min (p0_l.length : Int) 4 : Int).toNat) (xs := p0_l) rfl rfl Proofs.Try.runUnderlying22 Proofs.Try.sizeOf27 rfl h0 (by omega) (by omega) (.inl rfl) (fun cap hcap => by rw [if_pos rfl]; exact (.inl ⟨rfl, rfl⟩)) (fun m hmm => (.inr ⟨_, _, _, rfl, rfl, by omega, by omega, rfl⟩)) (.inl ⟨rfl, rfl⟩) ?_
  intro v102 h103 hc104
  refine W_assign rfl rfl rfl ?_
  refine W_end ?_
  refine E_then ?_
  refine C_seq ?_
  refine C_region ?_
  refine W_move rfl rfl rfl ?_
  refine W_lenR rfl rfl Proofs.Try.runUnderlying22 rfl h103 ?_
  obtain ⟨hz105, hm⟩ := need_some hm
  refine W_makeNst (n := ((slc p0_l 0 ((min (p0_l.length : Int) 4 : Int).toNat)).length : Int)) rfl rfl Proofs.Try.underlying22 ⟨_, rfl, rfl, rfl, rfl⟩ rfl rfl rfl rfl hz105.1 hz105.2 (fun v106 => ?_)
  refine W_assign rfl rfl rfl ?_
  refine W_end ?_
  refine E_then ?_
  refine C_seq ?_
  refine C_region ?_
  refine W_call Proofs.Try.call4 rfl rfl rfl (fun w ht => by have h := m_telemetry_New_c (hm := (rfl : m_telemetry_New 0 = _))  ht; exact h) ?_
  rintro _ H118 _ (⟨hn112, hle114, rfl, rfl⟩ | ⟨sp107, hn115, hle117, b108, v109, xs110, rfl, rfl, h111⟩)
  · have hm := optC_n hn112 hm
    refine W_move rfl rfl rfl ?_
    refine W_extract rfl rfl rfl rfl ?_
    refine W_extract rfl rfl rfl rfl ?_
    refine W_assign rfl rfl rfl ?_
    refine W_assign rfl rfl rfl ?_
    refine W_end ?_
    refine E_then ?_
    refine C_seq ?_
    refine cj [(0, _), (1, _), (5, _), (6, _)] [] 0 (fun u m H' M' L' => H118 = H' ∧ m = M' ∧ (37, .bool (true)) :: u = L') ?_ (fun J120 => ?_)
    · rintro _ _ _ ⟨rfl, rfl, rfl⟩
      refine cT rfl ?_
      refine C_seq ?_
      refine C_region ?_
      refine W_assign rfl rfl rfl ?_
      refine W_end ?_
      refine E_then ?_
      refine C_ret ?_
      refine E_ret_then ?_
      obtain rfl := Option.some.inj hm
      refine Ek [] 1 ?_
      refine E_weak hle114 ?_
      exact end1 rfl rfl ⟨rfl, rfl, rfl⟩
    · refine C_region ?_
      refine W_move rfl rfl rfl ?_
      refine W_bin rfl rfl rfl rfl rfl ?_
      refine W_move rfl rfl rfl ?_
      cases hb121 : (decide ((((m_telemetry_New 0)).2) = 0))
      · refine W_no rfl rfl rfl ?_
        refine W_no rfl rfl rfl ?_
        refine W_pick rfl rfl rfl rfl ?_
        refine W_end ?_
        exact kj (J120 _ _ _ ⟨rfl, rfl, rfl⟩)
      · refine W_move rfl rfl rfl ?_
        refine W_ptrNil rfl rfl Proofs.Try.runUnderlying23 rfl rfl ?_
        refine W_pick rfl rfl rfl rfl ?_
        refine W_end ?_
        exact kj (J120 _ _ _ ⟨rfl, rfl, rfl⟩)
  · have hm := optC_s hn115 hm
    refine W_move rfl rfl rfl ?_
    refine W_extract rfl rfl rfl rfl ?_
    refine W_extract rfl rfl rfl rfl ?_
    refine W_assign rfl rfl rfl ?_
    refine W_assign rfl rfl rfl ?_
    refine W_end ?_
    refine E_then ?_
    refine C_seq ?_
    refine cj [(0, _), (1, _), (5, _), (6, _)] [] 0 (fun u m H' M' L' => H118 = H' ∧ m = M' ∧ (37, .bool (!decide ((((m_telemetry_New 0)).2) = 0))) :: u = L') ?_ (fun J123 => ?_)
    · rintro _ _ _ ⟨rfl, rfl, rfl⟩
      refine cd hm rfl (fun hb124 hm => ?_) (fun hb124 hm => ?_)
      · refine C_seq ?_
        refine C_region ?_
        refine W_assign rfl rfl rfl ?_
        refine W_end ?_
        refine E_then ?_
        refine C_ret ?_
        refine E_ret_then ?_
        obtain rfl := Option.some.inj hm
        refine Ek [] 3 ?_
        refine E_weak hle117 ?_
        exact end1 rfl rfl ⟨rfl, rfl, rfl⟩
      · refine C_skip ?_
        refine E_then ?_
        refine C_seq ?_
        refine C_seq ?_
        refine C_region ?_
        refine W_move rfl rfl rfl ?_
        refine W_lenR rfl rfl Proofs.Try.runUnderlying22 rfl (h103.mono hle117) ?_
        refine W_move rfl rfl rfl ?_
        refine W_end ?_
        refine E_then ?_
        refine C_block ?_
        obtain ⟨J735, hm736, hm737, hm⟩ := forI_nm hm
        refine cl [(0, _), (1, _), (5, _), (6, _), (38, _), (39, _)] [] 3 [1] 0 (fun u m n H' M' L' => ∃ (k125 : Nat) (zs509' : List (List S_api_TelemetryMsg)), ∃ n494 : Int, ∃ l497 : List S_telemetry_point, ∃ l500 : (List (List S_api_TelemetryMsg)), ∃ v495 : Value, ∃ xs496 : List Value, ∃ pg499 : Pg_nst, (slc p0_l 0 ((min (p0_l.length : Int) 4 : Int).toNat)).drop k125 = zs509' ∧ zs509'.length = n ∧ J735 k125 zs509' (n494, l497, l500) = some r ∧ Rw H' v495 xs496 l497 ∧ Pf_nst H' pg499 l500 ∧ H118.le H' ∧ .row v495 46 (Rep.sz S_telemetry_point) l497.length xs496 :: .obj b108 (.cells [.int .i64 (n494), v495].toArray 42 (0, 0)) :: packOf (Pr_nst v106 pg499 l500) :: m = M' ∧ (40, .int .i64 ((k125 : Int))) :: u = L') _ rfl ⟨0, _, _, _, _, _, _, _, rfl, rfl, hm, h111, (nst0_ok), (Hp.le_refl _), rfl, rfl⟩ ?_
        rintro _ H502 _ _ ⟨k125, zs509', n494, l497, l500, v495, xs496, pg499, hd511, rfl, hm, hr498, h501, hle503, rfl, rfl⟩
        refine C_seq ?_
        refine C_region ?_
        refine W_bin rfl rfl rfl rfl rfl ?_
        refine W_end (E_then ?_)
        refine C_seq ?_
        refine C_cond rfl (fun hb513 => ?_) (fun hb513 => ?_)
        · obtain ⟨y508, zs509, rfl, hy510, hd512⟩ := rng_t hd511 hb513
          have hm := (hm736 _ _ _ _).symm.trans hm
          generalize hn506 : J735 (k125 + 1) zs509 = nx505 at hm
          try dsimp only at hm
          unfold m_gridhallkeep4_SecondCollects_b3 at hm
          refine C_skip (E_then ?_)
          refine C_seq ?_
          refine C_block ?_
          refine C_seq ?_
          refine C_region ?_
          refine W_move rfl rfl rfl ?_
          obtain ⟨_, ⟨v515, rfl, h516⟩, hc514⟩ := (h103).elem hy510
          refine W_indexS rfl rfl Proofs.Try.runUnderlying22 Proofs.Try.sizeOf27 rfl ((h103.mono hle117).mono hle503) rfl (Int.natCast_nonneg _) hy510 ?_
          refine W_load rfl rfl Proofs.Try.isAgg27 rfl (HCells.one ((hc514.mono hle117).mono hle503) 0 rfl).at ?_
          refine W_assign rfl rfl rfl ?_
          refine W_assign rfl rfl rfl ?_
          refine W_end ?_
          refine E_then ?_
          refine C_seq ?_
          refine C_region ?_
          refine W_move rfl rfl rfl ?_
          refine W_move rfl rfl rfl ?_
          refine W_lenR rfl rfl Proofs.Try.runUnderlying27 rfl ((h516.mono hle117).mono hle503) ?_
          refine W_min rfl rfl rfl rfl ?_
          obtain ⟨hz517, hm⟩ := need_some hm
          refine W_sliceR (α := S_api_TelemetryMsg) (l := 0) (h := (min (y508.length : Int) 6 : Int).toNat) (xs := y508) rfl rfl Proofs.Try.runUnderlying27 Proofs.Try.sizeOf29 rfl ((h516.mono hle117).mono hle503) (by omega) (by omega) (.inl rfl) (fun cap hcap => by rw [if_pos rfl]; exact (.inl ⟨rfl, rfl⟩)) (fun m hmm => (.inr ⟨_, _, _, rfl, rfl, by omega, by omega, rfl⟩)) (.inl ⟨rfl, rfl⟩) ?_
          intro v518 h519 hc520
          refine W_lenR rfl rfl Proofs.Try.runUnderlying27 rfl h519 ?_
          refine W_move rfl rfl rfl ?_
          refine W_end ?_
          refine E_then ?_
          refine C_block ?_
          obtain ⟨J685, hm686, hm687, hm⟩ := forI_nm hm
          refine cl [(0, _), (1, _), (5, _), (6, _), (8, _), (38, _), (39, _), (40, _), (49, _), (50, _)] [] 3 [] 0 (fun u m n H' M' L' => ∃ (k521 : Nat) (zs639' : List S_api_TelemetryMsg), ∃ n624 : Int, ∃ l627 : List S_telemetry_point, ∃ l630 : (List (List S_api_TelemetryMsg)), ∃ v625 : Value, ∃ xs626 : List Value, ∃ pg629 : Pg_nst, (slc y508 0 ((min (y508.length : Int) 6 : Int).toNat)).drop k521 = zs639' ∧ zs639'.length = n ∧ J685 k521 zs639' (n624, l627, l630) = some r ∧ Rw H' v625 xs626 l627 ∧ Pf_nst H' pg629 l630 ∧ H502.le H' ∧ .row v625 46 (Rep.sz S_telemetry_point) l627.length xs626 :: .obj b108 (.cells [.int .i64 (n624), v625].toArray 42 (0, 0)) :: packOf (Pr_nst v106 pg629 l630) :: m = M' ∧ (51, .int .i64 ((k521 : Int))) :: u = L') _ rfl ⟨0, _, _, _, _, _, _, _, rfl, rfl, hm, hr498, h501, (Hp.le_refl _), rfl, rfl⟩ ?_
          rintro _ H632 _ _ ⟨k521, zs639', n624, l627, l630, v625, xs626, pg629, hd641, rfl, hm, hr628, h631, hle633, rfl, rfl⟩
          refine C_seq ?_
          refine C_region ?_
          refine W_bin rfl rfl rfl rfl rfl ?_
          refine W_end (E_then ?_)
          refine C_seq ?_
          refine C_cond rfl (fun hb643 => ?_) (fun hb643 => ?_)
          · obtain ⟨y638, zs639, rfl, hy640, hd642⟩ := rng_t hd641 hb643
            have hm := (hm686 _ _ _ _).symm.trans hm
            generalize hn636 : J685 (k521 + 1) zs639 = nx635 at hm
            try dsimp only at hm
            unfold m_gridhallkeep4_SecondCollects_b4 at hm
            refine C_skip (E_then ?_)
            refine C_seq ?_
            refine C_block ?_
            refine C_seq ?_
            refine C_region ?_
            obtain ⟨_, ⟨rfl⟩, hc644⟩ := (h519).elem hy640
            refine W_indexS rfl rfl Proofs.Try.runUnderlying27 Proofs.Try.sizeOf29 rfl (h519.mono hle633) rfl (Int.natCast_nonneg _) hy640 ?_
            refine W_loadAgg rfl rfl Proofs.Try.isAgg29 Proofs.Try.sizeOf29 rfl (hc644.mono hle633).at rfl ?_
            refine W_alloc (cs := [.string (⟨#[]⟩), .int .i64 (0), .int .i64 (0), .int .i64 (0)]) rfl rfl Proofs.Try.zeroValue29 rfl (fun b645 => ?_)
            refine W_store (cs := [.string (y638.Point), .int .i64 (y638.Number), .int .i64 (y638.Time), .int .i64 (y638.Value)]) (out := [.string (y638.Point), .int .i64 (y638.Number), .int .i64 (y638.Time), .int .i64 (y638.Value)]) rfl Proofs.Try.sizeOf29 rfl rfl rfl rfl rfl (all_cons rfl (all_cons rfl (all_cons rfl (all_cons rfl all_nil)))) (over_all rfl) ?_
            refine W_end ?_
            refine E_then ?_
            refine C_seq ?_
            obtain ⟨y649, h650, he651, hm⟩ := idx_some hm
            obtain ⟨r656, hc657, hm⟩ := bind_some hm
            obtain ⟨y658, h659, he660, hm⟩ := idx_some hm
            refine rgx fm 10 [(fun H rs v => ∃ v662 : Value, ∃ xs663 : List Value, [.row v662 9 (Rep.sz ByteArray) ([(⟨#[65]⟩), (⟨#[66]⟩), (⟨#[67]⟩), (⟨#[68]⟩)] : List ByteArray).length xs663] = rs ∧ v662 = v ∧ Rw H v662 xs663 ([(⟨#[65]⟩), (⟨#[66]⟩), (⟨#[67]⟩), (⟨#[68]⟩)] : List ByteArray)), ph _, (fun H rs v => ∃ v662 : Value, ∃ xs663 : List Value, [.row v662 9 (Rep.sz ByteArray) ([(⟨#[65]⟩), (⟨#[66]⟩), (⟨#[67]⟩), (⟨#[68]⟩)] : List ByteArray).length xs663] = rs ∧ .pointer (some ((Value.base (v662)).add (((k125 : Int) : Int).toNat * Rep.sz ByteArray))) = v ∧ Rw H v662 xs663 ([(⟨#[65]⟩), (⟨#[66]⟩), (⟨#[67]⟩), (⟨#[68]⟩)] : List ByteArray) ∧ ∀ j u, [.string (y649)][j]? = some u → xs663[((k125 : Int) : Int).toNat * Rep.sz ByteArray + j]? = some u), ph (.string (y649)), (fun H rs v => ∃ v666 : Value, ∃ xs667 : List Value, [.row v666 9 (Rep.sz ByteArray) ([(⟨#[]⟩), (⟨#[49]⟩), (⟨#[50]⟩)] : List ByteArray).length xs667] = rs ∧ v666 = v ∧ Rw H v666 xs667 ([(⟨#[]⟩), (⟨#[49]⟩), (⟨#[50]⟩)] : List ByteArray)), ph _, ph _, ph (.int .i64 (r656)), (fun H rs v => ∃ v666 : Value, ∃ xs667 : List Value, [.row v666 9 (Rep.sz ByteArray) ([(⟨#[]⟩), (⟨#[49]⟩), (⟨#[50]⟩)] : List ByteArray).length xs667] = rs ∧ .pointer (some ((Value.base (v666)).add ((r656 : Int).toNat * Rep.sz ByteArray))) = v ∧ Rw H v666 xs667 ([(⟨#[]⟩), (⟨#[49]⟩), (⟨#[50]⟩)] : List ByteArray) ∧ ∀ j u, [.string (y658)][j]? = some u → xs667[(r656 : Int).toNat * Rep.sz ByteArray + j]? = some u), ph (.string (y658))] (sp 10 [(2, [0]), (8, [4])]) (sp 10 [(3, [2]), (9, [8])]) [] [1, 2, 3, 5, 6, 7, 8, 9] rfl ⟨?_, om, ?_, ?_, ?_, om, om, ?_, ?_, ?_, trivial⟩ ?_
            · intro HX hX X Rest hR
              intro hU hUp
              refine W_buildSliceO (α := ByteArray) (css := [[.string (⟨#[65]⟩)], [.string (⟨#[66]⟩)], [.string (⟨#[67]⟩)], [.string (⟨#[68]⟩)]]) (zs := [.string (⟨#[]⟩), .string (⟨#[]⟩), .string (⟨#[]⟩), .string (⟨#[]⟩)]) (out := [.string (⟨#[65]⟩), .string (⟨#[66]⟩), .string (⟨#[67]⟩), .string (⟨#[68]⟩)]) (ys := [(⟨#[65]⟩), (⟨#[66]⟩), (⟨#[67]⟩), (⟨#[68]⟩)]) rfl rfl rfl ⟨rfl, rfl, rfl, rfl, trivial⟩ Proofs.Try.runUnderlying30 Proofs.Try.sizeOf9 rfl Proofs.Try.zeroValue9 (by kernel_rfl) rfl rfl rfl rfl ⟨[.string (⟨#[65]⟩)], [.string (⟨#[66]⟩), .string (⟨#[67]⟩), .string (⟨#[68]⟩)], rfl, rfl, ⟨[.string (⟨#[66]⟩)], [.string (⟨#[67]⟩), .string (⟨#[68]⟩)], rfl, rfl, ⟨[.string (⟨#[67]⟩)], [.string (⟨#[68]⟩)], rfl, rfl, ⟨[.string (⟨#[68]⟩)], [], rfl, rfl, rfl⟩⟩⟩⟩ rfl ?_
              intro v662 xs663 hr664
              exact oe [.row v662 9 (Rep.sz ByteArray) ([(⟨#[65]⟩), (⟨#[66]⟩), (⟨#[67]⟩), (⟨#[68]⟩)] : List ByteArray).length xs663] (Hp.le_refl _) ⟨v662, xs663, rfl, rfl, (hr664)⟩
            · intro HX hX X Rest hR
              rintro _ _ ⟨v662, xs663, rfl, rfl, hr664⟩
              rintro _ _ ⟨rfl, rfl⟩
              intro hU hUp
              refine Wp [0] ?_
              refine W_indexO (List.mem_cons_self ..) rfl rfl Proofs.Try.runUnderlying30 Proofs.Try.sizeOf9 rfl rfl h650 (List.getElem?_eq_some_iff.1 he651).1 ?_
              obtain ⟨_, rfl, hg665⟩ := (hr664).elem he651
              exact oe [.row v662 9 (Rep.sz ByteArray) ([(⟨#[65]⟩), (⟨#[66]⟩), (⟨#[67]⟩), (⟨#[68]⟩)] : List ByteArray).length xs663] (Hp.le_refl _) ⟨v662, xs663, rfl, rfl, (hr664), (hg665)⟩
            · intro HX hX X Rest hR
              rintro _ _ ⟨v662, xs663, rfl, rfl, hr664, hg665⟩
              intro hU hUp
              have hU2 : ∀ s ∈ [.row v662 9 (Rep.sz ByteArray) ([(⟨#[65]⟩), (⟨#[66]⟩), (⟨#[67]⟩), (⟨#[68]⟩)] : List ByteArray).length xs663], s ∈ Rest := hU
              refine W_load rfl rfl Proofs.Try.isAgg9 rfl (row_one0 (hU2 _ (List.mem_cons_self ..)) hg665 rfl) ?_
              exact o0 ⟨rfl, rfl⟩
            · intro HX hX X Rest hR
              intro hU hUp
              refine W_buildSliceO (α := ByteArray) (css := [[.string (⟨#[]⟩)], [.string (⟨#[49]⟩)], [.string (⟨#[50]⟩)]]) (zs := [.string (⟨#[]⟩), .string (⟨#[]⟩), .string (⟨#[]⟩)]) (out := [.string (⟨#[]⟩), .string (⟨#[49]⟩), .string (⟨#[50]⟩)]) (ys := [(⟨#[]⟩), (⟨#[49]⟩), (⟨#[50]⟩)]) rfl rfl rfl ⟨rfl, rfl, rfl, trivial⟩ Proofs.Try.runUnderlying30 Proofs.Try.sizeOf9 rfl Proofs.Try.zeroValue9 (by kernel_rfl) rfl rfl rfl rfl ⟨[.string (⟨#[]⟩)], [.string (⟨#[49]⟩), .string (⟨#[50]⟩)], rfl, rfl, ⟨[.string (⟨#[49]⟩)], [.string (⟨#[50]⟩)], rfl, rfl, ⟨[.string (⟨#[50]⟩)], [], rfl, rfl, rfl⟩⟩⟩ rfl ?_
              intro v666 xs667 hr668
              exact oe [.row v666 9 (Rep.sz ByteArray) ([(⟨#[]⟩), (⟨#[49]⟩), (⟨#[50]⟩)] : List ByteArray).length xs667] (Hp.le_refl _) ⟨v666, xs667, rfl, rfl, (hr668)⟩
            · intro HX hX X Rest hR
              rintro _ _ ⟨rfl, rfl⟩
              intro hU hUp
              refine W_call Proofs.Try.call5 rfl rfl rfl (fun w ht => by have h := m_gridhallref4_Cut_c (hm := hc657)  ht; exact h) ?_
              rintro _ _ _ ⟨rfl, rfl, rfl⟩
              exact o0 ⟨rfl, rfl⟩
            · intro HX hX X Rest hR
              rintro _ _ ⟨v666, xs667, rfl, rfl, hr668⟩
              rintro _ _ ⟨rfl, rfl⟩
              intro hU hUp
              refine Wp [0] ?_
              refine W_indexO (List.mem_cons_self ..) rfl rfl Proofs.Try.runUnderlying30 Proofs.Try.sizeOf9 rfl rfl h659 (List.getElem?_eq_some_iff.1 he660).1 ?_
              obtain ⟨_, rfl, hg669⟩ := (hr668).elem he660
              exact oe [.row v666 9 (Rep.sz ByteArray) ([(⟨#[]⟩), (⟨#[49]⟩), (⟨#[50]⟩)] : List ByteArray).length xs667] (Hp.le_refl _) ⟨v666, xs667, rfl, rfl, (hr668), (hg669)⟩
            · intro HX hX X Rest hR
              rintro _ _ ⟨v666, xs667, rfl, rfl, hr668, hg669⟩
              intro hU hUp
              have hU2 : ∀ s ∈ [.row v666 9 (Rep.sz ByteArray) ([(⟨#[]⟩), (⟨#[49]⟩), (⟨#[50]⟩)] : List ByteArray).length xs667], s ∈ Rest := hU
              refine W_load rfl rfl Proofs.Try.isAgg9 rfl (row_one0 (hU2 _ (List.mem_cons_self ..)) hg669 rfl) ?_
              exact o0 ⟨rfl, rfl⟩
            intro H670 hle671
            rintro _ _ ⟨v662, xs663, rfl, rfl, hr664⟩
            rintro _ _ ⟨rfl, rfl⟩
            rintro _ _ ⟨v662, xs663, rfl, rfl, hr664, hg665⟩
            rintro _ _ ⟨rfl, rfl⟩
            rintro _ _ ⟨v666, xs667, rfl, rfl, hr668⟩
            rintro _ _ ⟨rfl, rfl⟩
            rintro _ _ ⟨rfl, rfl⟩
            rintro _ _ ⟨rfl, rfl⟩
            rintro _ _ ⟨v666, xs667, rfl, rfl, hr668, hg669⟩
            rintro _ _ ⟨rfl, rfl⟩
            refine isW ?_
            refine Wp [0, 0, 0, 0, 0, 0] ?_
            obtain ⟨hq672, hm⟩ := need_some hm
            refine W_addStr rfl rfl rfl rfl hq672 ?_
            refine W_field (o := 0) rfl rfl Proofs.Try.runUnderlying29 rfl Proofs.Try.sizeOf9 rfl rfl rfl ?_
            refine Wp [2] ?_
            refine W_store (cs := [.string (y649 ++ y658)]) (out := [.string (y649 ++ y658), .int .i64 (y638.Number), .int .i64 (y638.Time), .int .i64 (y638.Value)]) rfl Proofs.Try.sizeOf9 rfl rfl rfl rfl rfl (all_cons rfl all_nil) rfl ?_
            refine W_end ?_
            refine E_then ?_
            refine C_seq ?_
            refine Cp [5] ?_
            obtain ⟨y673, h674, he675, hm⟩ := idx_some hm
            obtain ⟨hz676, hm⟩ := need_some hm
            refine C_nstApp (y := y673) (m := (S_api_TelemetryMsg.mk (y649 ++ y658) y638.Number y638.Time y638.Value)) (i := (k125 : Int)) rfl rfl rfl (h631.mono hle671) h674 he675 hz676 ?_
            intro pg677 h678
            refine E_then ?_
            refine C_region ?_
            refine W_move rfl rfl rfl ?_
            refine W_loadAgg rfl rfl Proofs.Try.isAgg29 Proofs.Try.sizeOf29 rfl (own_all (List.mem_cons_of_mem _ (List.mem_cons_self ..))) rfl ?_
            refine Wp [5, 4] ?_
            obtain ⟨r679, hc680, hm⟩ := bind_some hm
            refine W_call Proofs.Try.call6 rfl rfl rfl (fun w ht => by have h := m_telemetry_Points_Take_c (hm := hc680) (hr628.mono hle671) ht; exact h) ?_
            rintro _ _ _ ⟨rfl, v682, xs683, rfl, rfl, h684⟩
            have h684 := h684 H670
            refine W_end ?_
            refine E_normal_block ?_
            refine E_then ?_
            refine C_region ?_
            refine W_bin rfl rfl rfl rfl rfl ?_
            refine W_move rfl rfl rfl ?_
            refine W_end ?_
            exact kx [1, 0, 0] 3 (E_back (Nat.lt_succ_self _) ⟨k521 + 1, zs639, _, _, _, _, _, _, hd642, rfl, ((congrFun hn636 _).trans hm), h684, h678, (Hp.le_trans hle633 hle671), rfl, rfl⟩) rfl ⟨(congrArg (fun z => some (Value.int .i64 z)) (i64_succ hy640 ((h519.mono hle633)).lenMax)), rfl, rfl, rfl, rfl, rfl, rfl, rfl, rfl, rfl, rfl, trivial⟩
          · obtain rfl := rng_f hd641 hb643
            have hm := (hm687 _ _).symm.trans hm
            try dsimp only at hm
            refine C_exit (E_exit_then ?_)
            refine E_exit_then ?_
            refine E_exit_hit ?_
            refine E_normal_block ?_
            refine E_then ?_
            refine C_region ?_
            refine W_bin rfl rfl rfl rfl rfl ?_
            refine W_move rfl rfl rfl ?_
            refine W_end ?_
            exact kj (E_back (Nat.lt_succ_self _) ⟨k125 + 1, zs509, _, _, _, _, _, _, hd512, rfl, ((congrFun hn506 _).trans hm), hr628, h631, (Hp.le_trans hle503 hle633), rfl, rfl⟩) ⟨(congrArg (fun z => some (Value.int .i64 z)) (i64_succ hy510 (((h103.mono hle117).mono hle503)).lenMax)), rfl, rfl, rfl, rfl, rfl, rfl, trivial⟩
        · obtain rfl := rng_f hd511 hb513
          have hm := (hm737 _ _).symm.trans hm
          try dsimp only at hm
          refine C_exit (E_exit_then ?_)
          refine E_exit_then ?_
          refine E_exit_hit ?_
          refine E_then ?_
          refine C_seq ?_
          refine Cp [2] ?_
          refine C_nstFrz h501 (fun H688 hle689 h690 => ?_)
          refine C_region ?_
          refine W_move rfl rfl rfl ?_
          refine W_move rfl rfl rfl ?_
          obtain ⟨r691, hc692, hm⟩ := bind_some hm
          refine W_call Proofs.Try.call5 rfl rfl rfl (fun w ht => by have h := m_gridhallref4_Cut_c (hm := hc692)  ht; exact h) ?_
          rintro _ _ _ ⟨rfl, rfl, rfl⟩
          obtain ⟨r693, hc694, hm⟩ := bind_some hm
          refine W_call Proofs.Try.call7 rfl rfl rfl (fun w ht => by have h := m_second_Collect_c (hm := hc694) h690 ht; exact h) ?_
          rintro _ _ _ ⟨rfl, v695, xs696, rfl, rfl, h697⟩
          have h697 := h697 H688
          refine W_move rfl rfl rfl ?_
          refine W_extract rfl rfl rfl rfl ?_
          refine W_extract rfl rfl rfl rfl ?_
          refine W_assign rfl rfl rfl ?_
          refine W_assign rfl rfl rfl ?_
          refine W_end ?_
          refine E_then ?_
          refine C_seq ?_
          refine C_region ?_
          refine W_move rfl rfl rfl ?_
          obtain ⟨r698, hc699, hm⟩ := bind_some hm
          refine W_call Proofs.Try.call7 rfl rfl rfl (fun w ht => by have h := m_second_Collect_c (hm := hc699) h690 ht; exact h) ?_
          rintro _ _ _ ⟨rfl, v700, xs701, rfl, rfl, h702⟩
          have h702 := h702 H688
          refine W_move rfl rfl rfl ?_
          refine W_extract rfl rfl rfl rfl ?_
          refine W_extract rfl rfl rfl rfl ?_
          refine W_assign rfl rfl rfl ?_
          refine W_assign rfl rfl rfl ?_
          refine W_end ?_
          refine E_then ?_
          refine C_seq ?_
          refine C_region ?_
          refine W_move rfl rfl rfl ?_
          refine W_move rfl rfl rfl ?_
          obtain ⟨r703, hc704, hm⟩ := bind_some hm
          refine W_call Proofs.Try.call5 rfl rfl rfl (fun w ht => by have h := m_gridhallref4_Cut_c (hm := hc704)  ht; exact h) ?_
          rintro _ _ _ ⟨rfl, rfl, rfl⟩
          obtain ⟨r705, hc706, hm⟩ := bind_some hm
          refine W_call Proofs.Try.call7 rfl rfl rfl (fun w ht => by have h := m_second_Collect_c (hm := hc706) (((h103.mono hle117).mono hle503).mono hle689) ht; exact h) ?_
          rintro _ _ _ ⟨rfl, v707, xs708, rfl, rfl, h709⟩
          have h709 := h709 H688
          refine W_move rfl rfl rfl ?_
          refine W_extract rfl rfl rfl rfl ?_
          refine W_extract rfl rfl rfl rfl ?_
          refine W_assign rfl rfl rfl ?_
          refine W_assign rfl rfl rfl ?_
          refine W_end ?_
          refine E_then ?_
          refine C_seq ?_
          refine C_region ?_
          refine W_move rfl rfl rfl ?_
          obtain ⟨r710, hc711, hm⟩ := bind_some hm
          refine W_call Proofs.Try.call7 rfl rfl rfl (fun w ht => by have h := m_second_Collect_c (hm := hc711) (((h103.mono hle117).mono hle503).mono hle689) ht; exact h) ?_
          rintro _ _ _ ⟨rfl, v712, xs713, rfl, rfl, h714⟩
          have h714 := h714 H688
          refine W_move rfl rfl rfl ?_
          refine W_extract rfl rfl rfl rfl ?_
          refine W_extract rfl rfl rfl rfl ?_
          refine W_assign rfl rfl rfl ?_
          refine W_assign rfl rfl rfl ?_
          refine W_end ?_
          refine E_then ?_
          refine C_seq ?_
          refine C_region ?_
          obtain ⟨r715, hc716, hm⟩ := bind_some hm
          refine W_call Proofs.Try.call8 rfl rfl rfl (fun w ht => by have h := m_gridhallkeep4_collectFact_c (hm := hc716)  ht; exact h) ?_
          rintro _ _ _ ⟨rfl, rfl, rfl⟩
          refine W_move rfl rfl rfl ?_
          cases hb717 : (r715)
          · have hm := ite_f' hb717 hm
            refine W_no rfl rfl rfl ?_
            refine W_no rfl rfl rfl ?_
            refine W_pick rfl rfl rfl rfl ?_
            refine W_move rfl rfl rfl ?_
            refine W_no rfl rfl rfl ?_
            refine W_no rfl rfl rfl ?_
            refine W_pick rfl rfl rfl rfl ?_
            refine W_move rfl rfl rfl ?_
            refine W_no rfl rfl rfl ?_
            refine W_no rfl rfl rfl ?_
            refine W_pick rfl rfl rfl rfl ?_
            refine W_move rfl rfl rfl ?_
            refine W_no rfl rfl rfl ?_
            refine W_no rfl rfl rfl ?_
            refine W_pick rfl rfl rfl rfl ?_
            refine W_move rfl rfl rfl ?_
            refine W_no rfl rfl rfl ?_
            refine W_no rfl rfl rfl ?_
            refine W_no rfl rfl rfl ?_
            refine W_pick rfl rfl rfl rfl ?_
            refine W_move rfl rfl rfl ?_
            refine W_no rfl rfl rfl ?_
            refine W_no rfl rfl rfl ?_
            refine W_no rfl rfl rfl ?_
            refine W_no rfl rfl rfl ?_
            refine W_pick rfl rfl rfl rfl ?_
            refine W_move rfl rfl rfl ?_
            refine W_no rfl rfl rfl ?_
            refine W_no rfl rfl rfl ?_
            refine W_no rfl rfl rfl ?_
            refine W_pick rfl rfl rfl rfl ?_
            refine W_assign rfl rfl rfl ?_
            refine W_end ?_
            refine E_then ?_
            refine C_ret ?_
            obtain rfl := Option.some.inj hm
            refine Ek [] 6 ?_
            refine E_weak (Hp.le_trans (Hp.le_trans hle117 hle503) hle689) ?_
            exact end1 rfl rfl ⟨rfl, rfl, rfl⟩
          · have hm := ite_t' hb717 hm
            refine W_move rfl rfl rfl ?_
            refine W_bin rfl rfl rfl rfl rfl ?_
            refine W_pick rfl rfl rfl rfl ?_
            refine W_move rfl rfl rfl ?_
            cases hb718 : (decide (r693.2 = 0))
            · have hm := ite_f' hb718 hm
              refine W_no rfl rfl rfl ?_
              refine W_no rfl rfl rfl ?_
              refine W_pick rfl rfl rfl rfl ?_
              refine W_move rfl rfl rfl ?_
              refine W_no rfl rfl rfl ?_
              refine W_no rfl rfl rfl ?_
              refine W_pick rfl rfl rfl rfl ?_
              refine W_move rfl rfl rfl ?_
              refine W_no rfl rfl rfl ?_
              refine W_no rfl rfl rfl ?_
              refine W_pick rfl rfl rfl rfl ?_
              refine W_move rfl rfl rfl ?_
              refine W_no rfl rfl rfl ?_
              refine W_no rfl rfl rfl ?_
              refine W_no rfl rfl rfl ?_
              refine W_pick rfl rfl rfl rfl ?_
              refine W_move rfl rfl rfl ?_
              refine W_no rfl rfl rfl ?_
              refine W_no rfl rfl rfl ?_
              refine W_no rfl rfl rfl ?_
              refine W_no rfl rfl rfl ?_
              refine W_pick rfl rfl rfl rfl ?_
              refine W_move rfl rfl rfl ?_
              refine W_no rfl rfl rfl ?_
              refine W_no rfl rfl rfl ?_
              refine W_no rfl rfl rfl ?_
              refine W_pick rfl rfl rfl rfl ?_
              refine W_assign rfl rfl rfl ?_
              refine W_end ?_
              refine E_then ?_
              refine C_ret ?_
              obtain rfl := Option.some.inj hm
              refine Ek [] 6 ?_
              refine E_weak (Hp.le_trans (Hp.le_trans hle117 hle503) hle689) ?_
              exact end1 rfl rfl ⟨rfl, rfl, rfl⟩
            · have hm := ite_t' hb718 hm
              refine W_move rfl rfl rfl ?_
              refine W_bin rfl rfl rfl rfl rfl ?_
              refine W_pick rfl rfl rfl rfl ?_
              refine W_move rfl rfl rfl ?_
              cases hb719 : (decide (r698.2 = 0))
              · have hm := ite_f' hb719 hm
                refine W_no rfl rfl rfl ?_
                refine W_no rfl rfl rfl ?_
                refine W_pick rfl rfl rfl rfl ?_
                refine W_move rfl rfl rfl ?_
                refine W_no rfl rfl rfl ?_
                refine W_no rfl rfl rfl ?_
                refine W_pick rfl rfl rfl rfl ?_
                refine W_move rfl rfl rfl ?_
                refine W_no rfl rfl rfl ?_
                refine W_no rfl rfl rfl ?_
                refine W_no rfl rfl rfl ?_
                refine W_pick rfl rfl rfl rfl ?_
                refine W_move rfl rfl rfl ?_
                refine W_no rfl rfl rfl ?_
                refine W_no rfl rfl rfl ?_
                refine W_no rfl rfl rfl ?_
                refine W_no rfl rfl rfl ?_
                refine W_pick rfl rfl rfl rfl ?_
                refine W_move rfl rfl rfl ?_
                refine W_no rfl rfl rfl ?_
                refine W_no rfl rfl rfl ?_
                refine W_no rfl rfl rfl ?_
                refine W_pick rfl rfl rfl rfl ?_
                refine W_assign rfl rfl rfl ?_
                refine W_end ?_
                refine E_then ?_
                refine C_ret ?_
                obtain rfl := Option.some.inj hm
                refine Ek [] 6 ?_
                refine E_weak (Hp.le_trans (Hp.le_trans hle117 hle503) hle689) ?_
                exact end1 rfl rfl ⟨rfl, rfl, rfl⟩
              · have hm := ite_t' hb719 hm
                refine W_move rfl rfl rfl ?_
                refine W_bin rfl rfl rfl rfl rfl ?_
                refine W_pick rfl rfl rfl rfl ?_
                refine W_move rfl rfl rfl ?_
                cases hb720 : (decide (r705.2 = 0))
                · have hm := ite_f' hb720 hm
                  refine W_no rfl rfl rfl ?_
                  refine W_no rfl rfl rfl ?_
                  refine W_pick rfl rfl rfl rfl ?_
                  refine W_move rfl rfl rfl ?_
                  refine W_no rfl rfl rfl ?_
                  refine W_no rfl rfl rfl ?_
                  refine W_no rfl rfl rfl ?_
                  refine W_pick rfl rfl rfl rfl ?_
                  refine W_move rfl rfl rfl ?_
                  refine W_no rfl rfl rfl ?_
                  refine W_no rfl rfl rfl ?_
                  refine W_no rfl rfl rfl ?_
                  refine W_no rfl rfl rfl ?_
                  refine W_pick rfl rfl rfl rfl ?_
                  refine W_move rfl rfl rfl ?_
                  refine W_no rfl rfl rfl ?_
                  refine W_no rfl rfl rfl ?_
                  refine W_no rfl rfl rfl ?_
                  refine W_pick rfl rfl rfl rfl ?_
                  refine W_assign rfl rfl rfl ?_
                  refine W_end ?_
                  refine E_then ?_
                  refine C_ret ?_
                  obtain rfl := Option.some.inj hm
                  refine Ek [] 6 ?_
                  refine E_weak (Hp.le_trans (Hp.le_trans hle117 hle503) hle689) ?_
                  exact end1 rfl rfl ⟨rfl, rfl, rfl⟩
                · have hm := ite_t' hb720 hm
                  refine W_move rfl rfl rfl ?_
                  refine W_bin rfl rfl rfl rfl rfl ?_
                  refine W_pick rfl rfl rfl rfl ?_
                  refine W_move rfl rfl rfl ?_
                  cases hb721 : (decide (r710.2 = 0))
                  · have hm := ite_f' hb721 hm
                    refine W_no rfl rfl rfl ?_
                    refine W_no rfl rfl rfl ?_
                    refine W_no rfl rfl rfl ?_
                    refine W_pick rfl rfl rfl rfl ?_
                    refine W_move rfl rfl rfl ?_
                    refine W_no rfl rfl rfl ?_
                    refine W_no rfl rfl rfl ?_
                    refine W_no rfl rfl rfl ?_
                    refine W_no rfl rfl rfl ?_
                    refine W_pick rfl rfl rfl rfl ?_
                    refine W_move rfl rfl rfl ?_
                    refine W_no rfl rfl rfl ?_
                    refine W_no rfl rfl rfl ?_
                    refine W_no rfl rfl rfl ?_
                    refine W_pick rfl rfl rfl rfl ?_
                    refine W_assign rfl rfl rfl ?_
                    refine W_end ?_
                    refine E_then ?_
                    refine C_ret ?_
                    obtain rfl := Option.some.inj hm
                    refine Ek [] 6 ?_
                    refine E_weak (Hp.le_trans (Hp.le_trans hle117 hle503) hle689) ?_
                    exact end1 rfl rfl ⟨rfl, rfl, rfl⟩
                  · have hm := ite_t' hb721 hm
                    refine W_move rfl rfl rfl ?_
                    refine W_move rfl rfl rfl ?_
                    refine Wp [3, 2] ?_
                    obtain ⟨r722, hc723, hm⟩ := bind_some hm
                    refine W_call Proofs.Try.call9 rfl rfl rfl (fun w ht => by obtain ⟨H0_, hl0_, ht0_, hr0_, bk0_⟩ := ht.lendRow h697 rfl; obtain ⟨H1_, hl1_, ht1_, hr1_, bk1_⟩ := ht0_.lendRow (h702.mono hl0_) rfl; have h := m_slices_Equal_api_TelemetryMsg_api_TelemetryMsg_c (hm := hc723) (hr0_.mono hl1_) hr1_ ht1_; exact lend_back bk0_ (lend_back bk1_ (h))) ?_
                    rintro _ _ _ ⟨rfl, ⟨_, rfl, ⟨_, rfl, rfl, rfl⟩⟩⟩
                    refine W_pick rfl rfl rfl rfl ?_
                    refine W_move rfl rfl rfl ?_
                    cases hb724 : (r722)
                    · have hm := ite_f' hb724 hm
                      refine W_no rfl rfl rfl ?_
                      refine W_no rfl rfl rfl ?_
                      refine W_no rfl rfl rfl ?_
                      refine W_no rfl rfl rfl ?_
                      refine W_pick rfl rfl rfl rfl ?_
                      refine W_move rfl rfl rfl ?_
                      refine W_no rfl rfl rfl ?_
                      refine W_no rfl rfl rfl ?_
                      refine W_no rfl rfl rfl ?_
                      refine W_pick rfl rfl rfl rfl ?_
                      refine W_assign rfl rfl rfl ?_
                      refine W_end ?_
                      refine E_then ?_
                      refine C_ret ?_
                      obtain rfl := Option.some.inj hm
                      refine Ek [] 6 ?_
                      refine E_weak (Hp.le_trans (Hp.le_trans hle117 hle503) hle689) ?_
                      exact end1 rfl rfl ⟨rfl, rfl, rfl⟩
                    · have hm := ite_t' hb724 hm
                      refine W_move rfl rfl rfl ?_
                      refine W_move rfl rfl rfl ?_
                      refine Wp [5, 4] ?_
                      obtain ⟨r725, hc726, hm⟩ := bind_some hm
                      refine W_call Proofs.Try.call10 rfl rfl rfl (fun w ht => by have h := m_telemetry_Points_List_c (hm := hc726) (hr498.mono hle689) ht; exact h) ?_
                      rintro _ _ _ ⟨rfl, v727, xs728, rfl, rfl, h729⟩
                      have h729 := h729 H688
                      refine Wp [3] ?_
                      obtain ⟨r730, hc731, hm⟩ := bind_some hm
                      refine W_call Proofs.Try.call9 rfl rfl rfl (fun w ht => by obtain ⟨H0_, hl0_, ht0_, hr0_, bk0_⟩ := ht.lendRow h697 rfl; obtain ⟨H1_, hl1_, ht1_, hr1_, bk1_⟩ := ht0_.lendRow (h729.mono hl0_) rfl; have h := m_slices_Equal_api_TelemetryMsg_api_TelemetryMsg_c (hm := hc731) (hr0_.mono hl1_) hr1_ ht1_; exact lend_back bk0_ (lend_back bk1_ (h))) ?_
                      rintro _ _ _ ⟨rfl, ⟨_, rfl, ⟨_, rfl, rfl, rfl⟩⟩⟩
                      refine W_pick rfl rfl rfl rfl ?_
                      refine W_move rfl rfl rfl ?_
                      cases hb732 : (r730)
                      · have hm := ite_f' hb732 hm
                        refine W_no rfl rfl rfl ?_
                        refine W_no rfl rfl rfl ?_
                        refine W_no rfl rfl rfl ?_
                        refine W_pick rfl rfl rfl rfl ?_
                        refine W_assign rfl rfl rfl ?_
                        refine W_end ?_
                        refine E_then ?_
                        refine C_ret ?_
                        obtain rfl := Option.some.inj hm
                        refine Ek [] 7 ?_
                        refine E_weak (Hp.le_trans (Hp.le_trans hle117 hle503) hle689) ?_
                        exact end1 rfl rfl ⟨rfl, rfl, rfl⟩
                      · have hm := ite_t' hb732 hm
                        refine W_move rfl rfl rfl ?_
                        refine W_move rfl rfl rfl ?_
                        refine Wp [6, 5] ?_
                        obtain ⟨r733, hc734, hm⟩ := bind_some hm
                        refine W_call Proofs.Try.call9 rfl rfl rfl (fun w ht => by obtain ⟨H0_, hl0_, ht0_, hr0_, bk0_⟩ := ht.lendRow h709 rfl; obtain ⟨H1_, hl1_, ht1_, hr1_, bk1_⟩ := ht0_.lendRow (h714.mono hl0_) rfl; have h := m_slices_Equal_api_TelemetryMsg_api_TelemetryMsg_c (hm := hc734) (hr0_.mono hl1_) hr1_ ht1_; exact lend_back bk0_ (lend_back bk1_ (h))) ?_
                        rintro _ _ _ ⟨rfl, ⟨_, rfl, ⟨_, rfl, rfl, rfl⟩⟩⟩
                        refine W_pick rfl rfl rfl rfl ?_
                        refine W_assign rfl rfl rfl ?_
                        refine W_end ?_
                        refine E_then ?_
                        refine C_ret ?_
                        obtain rfl := Option.some.inj hm
                        refine Ek [] 7 ?_
                        refine E_weak (Hp.le_trans (Hp.le_trans hle117 hle503) hle689) ?_
                        exact end1 rfl rfl ⟨rfl, rfl, rfl⟩
    · refine C_region ?_
      refine W_move rfl rfl rfl ?_
      refine W_bin rfl rfl rfl rfl rfl ?_
      refine W_move rfl rfl rfl ?_
      cases hb738 : (decide ((((m_telemetry_New 0)).2) = 0))
      · refine W_no rfl rfl rfl ?_
        refine W_no rfl rfl rfl ?_
        refine W_pick rfl rfl rfl rfl ?_
        refine W_end ?_
        exact kj (J123 _ _ _ ⟨rfl, rfl, rfl⟩) ⟨(by exact sb (by first | rfl | simp only [hb738, bl2])), rfl, rfl, rfl, rfl, trivial⟩
      · refine W_move rfl rfl rfl ?_
        refine W_ptrNil rfl rfl Proofs.Try.runUnderlying23 rfl rfl ?_
        refine W_pick rfl rfl rfl rfl ?_
        refine W_end ?_
        exact kj (J123 _ _ _ ⟨rfl, rfl, rfl⟩) ⟨(by exact sb (by first | rfl | simp only [hb738, bl2])), rfl, rfl, rfl, rfl, trivial⟩
end Go.Sim
end
