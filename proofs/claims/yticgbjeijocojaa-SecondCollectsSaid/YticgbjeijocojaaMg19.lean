/-
  Through sync.WaitGroup in company: Done (a deferred call), Add(1), Wait, over the pool's judgements.
  Through sync.WaitGroup in company: Add(1) and Wait, by the starter.
  The group's library in this program.
  Printed by a program: the code of Collect and of its workers.
  Collect's workers: where they stand.
  Regions of a frame that holds a deferred call; the drawn region whose last store is a stop.
  A worker of Collect's: from a number received to the store of its result.
  A worker of Collect's: the laws of its stops.
-/
import Derived.Test.YticgbjeijocojaaMg18
import Derived.Conc.WgGenN3
import Derived.Test.YticgbjeijocojaaRows
import Derived.KernelRfl
import Derived.Test.YticgbjeijocojaaMg14
import Derived.Test.YticgbjeijocojaaMg13
set_option linter.unusedVariables false
set_option linter.unusedSimpArgs false
section
set_option linter.unusedVariables false
set_option linter.unusedSimpArgs false
namespace Go.Wgw
open Go Go.Conc Go.RowKit Go.Conc.Lib Go.ConcR.Gen Go.ConcN.Gen
open Go.ConcN (WgLive)
open Go.ConcR (KK WgAt stA smA rd wr DC0)
open Go.Sim (Bs Oth Walks walks_of_goes Ev1 DidX Did News)

section
variable {P : Program} {c : Bs P} {ty : TypeId} {Wg : Nat}
theorem orl (hI : c.I = WgLive ty Wg) {w w1 : World} (h : WgLive ty Wg w) (o : Oth c w w1) : WgLive ty Wg w1 := by
  have := o.inv
  rw [hI] at this
  exact this h
theorem live_lt {w : World} (h : WgLive ty Wg w) : Wg < w.heap.size := let ⟨_, _, x⟩ := h; (Array.getElem?_eq_some_iff.1 x).1

/-- A step that says a word on a cell. -/
theorem word {S : Goroutine → World → Prop} {g g' : Goroutine} {w : World} {m : Mark} (hs : g.status = .running) (hQ : c.Q Wg) (hI : c.I = WgLive ty Wg) (hF : WgLive ty Wg w) {a : Addr} (ha : a.block = Wg) (hm : m = .read a ∨ m = .write a)
    (h : ∀ w1, stepG P c.main g w1 = .go g' w1 #[⟨.mark m, false, true⟩]) (k : ∀ w1, WgLive ty Wg w1 → Walks c S g' w1) : Walks c S g w :=
  .step (fun _ => g') id (fun _ => #[⟨.mark m, false, true⟩]) hs (fun _ _ => .inr rfl) (fun w1 _ => h w1)
    (fun w1 h1 _ => ⟨⟨rfl, rfl, rfl, Nat.le_refl _, fun _ _ _ => rfl, fun e he => by
      simp only [List.mem_toArray, List.mem_singleton] at he
      subst he
      exact .inr (.inl ⟨m, rfl, .inr ⟨a, ha ▸ hQ, ha ▸ live_lt (orl hI hF h1), hm⟩⟩)⟩, fun e he => by
      simp only [List.mem_toArray, List.mem_singleton] at he
      subst he
      rcases hm with rfl | rfl <;> rfl⟩)
    (fun w1 h1 _ => k w1 (orl hI hF h1))
end

/-! ### a worker's way out -/
section
variable {P : Program} (L : WgLink) (Wg : Nat) (c : Bs P)
def Slow (S : Goroutine → World → Prop) (g : Goroutine) (w : World) : Prop := ∃ m, Goes P false (Oth c) DC0 S m g w
def D4s (g : Goroutine) (w : World) : Prop :=
  g.status = .running ∧ mayWake P g = true ∧ (WgAt L.tWg Wg w 0 0 → ∃ g', stepG P false g w = .go g' (w.setCell (smA Wg) (.int .u32 1)) (semEvents (smA Wg)) ∧ ∃ q, QuitsD P q 1 g')
def D3s (g : Goroutine) (w : World) : Prop :=
  g.status = .running ∧ (WgAt L.tWg Wg w 1 0 → ∃ g', stepG P false g w = .go g' (w.setCell (stA Wg) (.int .u64 0)) #[wr (stA Wg)] ∧ Slow c (D4s (P := P) L Wg) g' (w.setCell (stA Wg) (.int .u64 0)))
def D2s (g : Goroutine) (w : World) : Prop :=
  g.status = .running ∧ (WgAt L.tWg Wg w 1 0 → ∃ g', stepG P false g w = .go g' w #[rd (stA Wg)] ∧ Slow c (D3s L Wg c) g' w)
def D1s (g : Goroutine) (w : World) : Prop :=
  g.status = .running ∧ ∀ v wt : Nat, wt ≤ 1 → v < 2147483647 → WgAt L.tWg Wg w ((v + 1) * KK + wt) 0 →
    ∃ g', stepG P false g w = .go g' (w.setCell (stA Wg) (.int .u64 (v * KK + wt))) #[rd (stA Wg), wr (stA Wg)] ∧
      ((v = 0 ∧ wt = 1) → Slow c (D2s L Wg c) g' (w.setCell (stA Wg) (.int .u64 (v * KK + wt)))) ∧ (¬ (v = 0 ∧ wt = 1) → ∃ q, QuitsD P q 1 g')
def K1s (g : Goroutine) (w : World) : Prop := g.status = .running ∧ ∃ g', stepG P false g w = .go g' w #[ConcR.mk .disable] ∧ Slow c (D1s L Wg c) g' w
def R0s (g : Goroutine) (w : World) : Prop := g.status = .running ∧ ∃ g', stepG P false g w = .go g' w #[ConcR.mk (.releaseMerge (stA Wg))] ∧ Slow c (K1s L Wg c) g' w
end

section
variable {P : Program} {L : WgLink} {Wg : Nat} {c : Bs P}
set_option maxRecDepth 100000 in
set_option maxHeartbeats 16000000 in
/-- ████ THE DEFERRED Done. ████ -/
theorem doneS (H : WgLib P L) (hI : c.I = WgLive L.tWg Wg) {cf : Frame} {cs : List Frame} {qt : Nat} (hcm : cf.mode = .returning) (hT : QuitsD P qt 0 (G cf cs)) (w : World) (hF : WgLive L.tWg Wg w) :
    Goes P false (Oth c) DC0 (R0s L Wg c) 80 (G ((baseD L.done).at ⟨#[.pointer (some ⟨Wg, 0, none⟩), undef, undef, undef], []⟩ [.code (body_done L)]) (cf :: cs)) w := by
  lib_facts
  simp only [body_done, doneFn, Option.getD_some]
  u_reg (orl hI) hF
  u_op (orl hI) hF
  u_in (orl hI) hF
  refine goes_call rfl rfl (by k_ne) rfl H.f_add (nm_add L) rfl ⟨by u_nil, ?_⟩
  walk_nrmf addFn
  repeat first
    | u_c stepG_seq (orl hI) hF
    | u_c stepG_region_end (orl hI) hF
    | u_reg (orl hI) hF
    | u_cond true (orl hI) hF
    | u_op (orl hI) hF
  u_conv H.underlying_tWgP H.room_tWg (Go.ConcN.Gen.WgLive.cell0 hF).choose_spec (orl hI) hF
  refine Goes.stop (fun w₁ h₁ => ?_)
  replace hF := orl hI hF h₁
  clear h₁
  refine ⟨rfl, _, stepG_markAt .releaseMerge (by simp) rfl rfl (by k_ne) rfl H.f_relMerge (x_relMerge_n L) (x_relMerge_b L) (x_relMerge_x L) (x_relMerge_f L) (by simp [Act.eval, stA]), 10, ?_⟩
  walk_nrm
  u_c stepG_region_end (orl hI) hF
  u_c stepG_seq (orl hI) hF
  u_reg (orl hI) hF
  refine Goes.stop (fun w₁ h₁ => ?_)
  replace hF := orl hI hF h₁
  clear h₁
  refine ⟨rfl, _, stepG_mark0 .disable (by simp) rfl rfl (by k_ne) rfl H.f_disable (x_disable_n L) (x_disable_b L) (x_disable_x L) (x_disable_f L), 60, ?_⟩
  walk_nrm
  u_c stepG_region_end (orl hI) hF
  u_reg (orl hI) hF
  u_defer (orl hI) hF
  repeat first
    | u_c stepG_seq (orl hI) hF
    | u_c stepG_region_end (orl hI) hF
    | u_c stepG_skip (orl hI) hF
    | u_reg (orl hI) hF
    | u_cond false (orl hI) hF
    | u_bub (orl hI) hF
    | u_op (orl hI) hF
  u_call H.f_uAdd (nm_uAdd L) uAddFn (orl hI) hF
  repeat first
    | u_c stepG_seq (orl hI) hF
    | u_c stepG_region_end (orl hI) hF
    | u_reg (orl hI) hF
    | u_op (orl hI) hF
  refine Goes.stop (fun w₁ h₁ => ?_)
  clear h₁ hF
  refine ⟨rfl, fun v wt hwt hv hw => ?_⟩
  have e0 : IntKind.u64.wrap (KK + 18446744069414584320) = 0 := by decide
  have e1 : IntKind.u64.wrap (KK + 1 + 18446744069414584320) = 1 := by decide
  rcases Nat.eq_zero_or_pos v with rfl | hvp
  · obtain rfl | rfl : wt = 0 ∨ wt = 1 := by omega
    · -- nobody is counted any more, nobody waits
      replace hw : WgAt L.tWg Wg w₁ KK 0 := by simpa using hw
      have z : ((0 : Nat) : Int) * KK + ((0 : Nat) : Int) = 0 := by simp
      rw [z]
      refine ⟨_, (stepG_add_atomic rfl rfl (by k_ne) rfl H.f_addU64 (x_addU64_n L) (x_addU64_b L) (x_addU64_x L) .u64 (x_addU64_f L) rfl rfl hw.cellSt (hw.thaw 0)).trans (by rw [e0]; rfl), fun hl => absurd hl.2 (by decide), fun _ => ⟨qt + 92, ?_⟩⟩
      clear hw
      walk_nrm
      q_val (.int .u64 0)
      q_c stepG_region_end
      q_c stepG_ret'
      q_leave1 H.f_uAdd
      q_val (.int .u64 0)
      q_c stepG_region_end
      q_c stepG_seq
      q_c stepG_seq
      q_reg
      q_val (.int .u64 0)
      q_val (.int .u64 0)
      q_val (.bool false)
      q_val (.bool false)
      q_skip
      q_skip
      q_val (.bool false)
      q_c stepG_region_end
      q_cond false
      q_c stepG_skip
      q_c stepG_seq
      q_reg
      q_val (.int .u64 0)
      q_val (.int .u64 0)
      q_val (.int .i32 0)
      q_val (.int .i32 0)
      q_c stepG_region_end
      q_c stepG_seq
      q_reg
      q_val (.int .u64 0)
      q_val (.int .u64 0)
      q_val (.int .u32 0)
      q_val (.int .u32 0)
      q_c stepG_region_end
      q_c stepG_seq
      q_c stepG_seq
      q_reg
      q_val (.bool true)
      q_val (.int .i64 (-1))
      q_val (.bool false)
      q_val (.bool false)
      q_val (.bool false)
      q_skip
      q_skip
      q_skip
      q_skip
      q_val (.bool false)
      q_c stepG_region_end
      q_cond false
      q_c stepG_skip
      q_c stepG_seq
      q_c stepG_seq
      q_reg
      q_val (.int .i32 0)
      q_val (.bool false)
      q_c stepG_region_end
      q_cond false
      q_c stepG_skip
      q_c stepG_seq
      q_c stepG_seq
      q_reg
      q_val (.int .u32 0)
      q_val (.bool false)
      q_val (.bool false)
      q_skip
      q_skip
      q_val (.bool false)
      q_val (.bool false)
      q_skip
      q_skip
      q_skip
      q_skip
      q_val (.bool false)
      q_c stepG_region_end
      q_cond false
      q_c stepG_skip
      q_c stepG_seq
      q_c stepG_seq
      q_reg
      q_val (.int .i32 0)
      q_val (.bool false)
      q_val (.bool false)
      q_val (.int .u32 0)
      q_val (.bool true)
      q_val (.bool true)
      q_c stepG_region_end
      q_cond true
      q_c stepG_ret'
      q_enable
      q_leave0 H.f_add
      q_c stepG_region_end
      q_c stepG_end
      exact QuitsD.leaveD rfl rfl H.f_done rfl hcm hT
    · -- the last one: the starter waits
      replace hw : WgAt L.tWg Wg w₁ (KK + 1) 0 := by simpa using hw
      have z : ((0 : Nat) : Int) * KK + ((1 : Nat) : Int) = 1 := by simp
      rw [z]
      refine ⟨_, (stepG_add_atomic rfl rfl (by k_ne) rfl H.f_addU64 (x_addU64_n L) (x_addU64_b L) (x_addU64_x L) .u64 (x_addU64_f L) rfl rfl hw.cellSt (hw.thaw 0)).trans (by rw [e1]; rfl), fun _ => ⟨150, ?_⟩, fun hl => absurd ⟨rfl, rfl⟩ hl⟩
      have hF : WgLive L.tWg Wg (w₁.setCell (stA Wg) (.int .u64 1)) := ⟨_, _, hw.setSt 1⟩
      clear hw
      walk_nrm
      u_op (orl hI) hF
      u_c stepG_region_end (orl hI) hF
      u_c stepG_ret' (orl hI) hF
      u_leave1 H.f_uAdd (orl hI) hF
      u_op (orl hI) hF
      u_c stepG_region_end (orl hI) hF
      u_c stepG_seq (orl hI) hF
      u_c stepG_seq (orl hI) hF
      u_reg (orl hI) hF
      u_op (orl hI) hF
      u_op (orl hI) hF
      u_op (orl hI) hF
      u_op (orl hI) hF
      u_skip (orl hI) hF
      u_skip (orl hI) hF
      u_op (orl hI) hF
      u_c stepG_region_end (orl hI) hF
      u_cond false (orl hI) hF
      u_c stepG_skip (orl hI) hF
      u_c stepG_seq (orl hI) hF
      u_reg (orl hI) hF
      u_op (orl hI) hF
      u_op (orl hI) hF
      u_op (orl hI) hF
      u_op (orl hI) hF
      u_c stepG_region_end (orl hI) hF
      u_c stepG_seq (orl hI) hF
      u_reg (orl hI) hF
      u_op (orl hI) hF
      u_op (orl hI) hF
      u_op (orl hI) hF
      u_op (orl hI) hF
      u_c stepG_region_end (orl hI) hF
      u_c stepG_seq (orl hI) hF
      u_c stepG_seq (orl hI) hF
      u_reg (orl hI) hF
      u_op (orl hI) hF
      u_op (orl hI) hF
      u_op (orl hI) hF
      u_op (orl hI) hF
      u_op (orl hI) hF
      u_skip (orl hI) hF
      u_skip (orl hI) hF
      u_skip (orl hI) hF
      u_skip (orl hI) hF
      u_op (orl hI) hF
      u_c stepG_region_end (orl hI) hF
      u_cond false (orl hI) hF
      u_c stepG_skip (orl hI) hF
      u_c stepG_seq (orl hI) hF
      u_c stepG_seq (orl hI) hF
      u_reg (orl hI) hF
      u_op (orl hI) hF
      u_op (orl hI) hF
      u_c stepG_region_end (orl hI) hF
      u_cond false (orl hI) hF
      u_c stepG_skip (orl hI) hF
      u_c stepG_seq (orl hI) hF
      u_c stepG_seq (orl hI) hF
      u_reg (orl hI) hF
      u_op (orl hI) hF
      u_op (orl hI) hF
      u_op (orl hI) hF
      u_op (orl hI) hF
      u_op (orl hI) hF
      u_op (orl hI) hF
      u_op (orl hI) hF
      u_skip (orl hI) hF
      u_skip (orl hI) hF
      u_skip (orl hI) hF
      u_skip (orl hI) hF
      u_op (orl hI) hF
      u_c stepG_region_end (orl hI) hF
      u_cond false (orl hI) hF
      u_c stepG_skip (orl hI) hF
      u_c stepG_seq (orl hI) hF
      u_c stepG_seq (orl hI) hF
      u_reg (orl hI) hF
      u_op (orl hI) hF
      u_op (orl hI) hF
      u_op (orl hI) hF
      u_op (orl hI) hF
      u_op (orl hI) hF
      u_op (orl hI) hF
      u_c stepG_region_end (orl hI) hF
      u_cond false (orl hI) hF
      u_c stepG_skip (orl hI) hF
      repeat first
        | u_c stepG_seq (orl hI) hF
        | u_c stepG_region_end (orl hI) hF
        | u_c stepG_skip (orl hI) hF
        | u_reg (orl hI) hF
        | u_op (orl hI) hF
      u_call H.f_uLoad (nm_uLoad L) uLoadFn (orl hI) hF
      repeat first
        | u_c stepG_seq (orl hI) hF
        | u_c stepG_region_end (orl hI) hF
        | u_reg (orl hI) hF
        | u_op (orl hI) hF
      refine Goes.stop (fun w₂ h₂ => ?_)
      clear h₂ hF
      refine ⟨rfl, fun hw => ⟨_, stepG_load_atomic rfl rfl (by k_ne) rfl H.f_loadU64 (x_loadU64_n L) (x_loadU64_b L) (x_loadU64_x L) .u64 (x_loadU64_f L) rfl hw.cellSt, 60, ?_⟩⟩
      have hF : WgLive L.tWg Wg w₂ := ⟨_, _, hw⟩
      clear hw
      walk_nrm
      u_op (orl hI) hF
      u_c stepG_region_end (orl hI) hF
      u_c stepG_ret' (orl hI) hF
      u_leave1 H.f_uLoad (orl hI) hF
      repeat first
        | u_c stepG_seq (orl hI) hF
        | u_c stepG_region_end (orl hI) hF
        | u_c stepG_skip (orl hI) hF
        | u_reg (orl hI) hF
        | u_cond false (orl hI) hF
        | u_op (orl hI) hF
      u_call H.f_uStore (nm_uStore L) uStoreFn (orl hI) hF
      repeat first
        | u_c stepG_seq (orl hI) hF
        | u_c stepG_region_end (orl hI) hF
        | u_reg (orl hI) hF
        | u_op (orl hI) hF
      refine Goes.stop (fun w₃ h₃ => ?_)
      clear h₃ hF
      refine ⟨rfl, fun hw => ⟨_, stepG_store_atomic rfl rfl (by k_ne) rfl H.f_storeU64 (x_storeU64_n L) (x_storeU64_b L) (x_storeU64_x L) (x_storeU64_f L) rfl rfl hw.cellSt (hw.thaw 0), 60, ?_⟩⟩
      have hF : WgLive L.tWg Wg (w₃.setCell (stA Wg) (.int .u64 0)) := ⟨_, _, hw.setSt 0⟩
      clear hw
      walk_nrm
      repeat first
        | u_c stepG_region_end (orl hI) hF
        | u_c stepG_end (orl hI) hF
      u_leave0 H.f_uStore (orl hI) hF
      repeat first
        | u_c stepG_seq (orl hI) hF
        | u_c stepG_region_end (orl hI) hF
        | u_c stepG_skip (orl hI) hF
        | u_reg (orl hI) hF
        | u_c stepG_block (orl hI) hF
        | u_c stepG_loop (orl hI) hF
        | u_cond true (orl hI) hF
        | u_cond false (orl hI) hF
        | u_op (orl hI) hF
      refine Goes.stop (fun w₄ h₄ => ?_)
      clear h₄ hF
      refine ⟨rfl, mayWake_entry rfl rfl H.f_semrelease (x_semrelease_b L), fun hw => ⟨_, (stepG_semrelease rfl rfl (by k_ne) rfl H.f_semrelease (x_semrelease_n L) (x_semrelease_b L) (x_semrelease_x L) (x_semrelease_f L) (by simp [Act.eval, smA]) hw.cellSm (hw.thaw 1)).trans (by rfl), qt + 22, ?_⟩⟩
      clear hw
      walk_nrm
      q_c stepG_region_end
      q_c stepG_inBlock
      q_reg
      q_val (.int .u32 1)
      q_val (.int .u32 0)
      q_val (.int .u32 0)
      q_c stepG_region_end
      q_c stepG_inLoop
      q_c stepG_seq
      q_c stepG_seq
      q_reg
      q_val (.int .u32 0)
      q_val (.bool false)
      q_c stepG_region_end
      q_cond false
      q_exit
      q_c stepG_end
      q_enable
      q_leave0 H.f_add
      q_c stepG_region_end
      q_c stepG_end
      exact QuitsD.leaveD rfl rfl H.f_done rfl hcm hT
  · -- others are counted still
    obtain ⟨S, hS⟩ : ∃ S : Int, S = (v : Int) * KK + wt := ⟨_, rfl⟩
    have eS : IntKind.u64.wrap (((v : Nat) + 1) * KK + wt + 18446744069414584320) = S := by rw [hS, IntKind.wrap_u64]; simp only [KK]; omega
    rw [← hS]
    have a1 : S / 4294967296 = (v : Int) := by rw [hS]; simp only [KK]; omega
    have a2 : 0 ≤ S ∧ S < 9223372036854775808 := by rw [hS]; simp only [KK]; omega
    have b1 : bits .and .u64 S 2147483648 = 0 := by rw [hS]; have := ConcN.st_flag v wt (by omega) (by omega); simpa [KK] using this
    have b2 : bits .and .u64 S 2147483647 = wt := by rw [hS]; have := ConcN.st_waiters v wt (by omega) (by omega); simpa [KK] using this
    clear hS
    refine ⟨_, (stepG_add_atomic rfl rfl (by k_ne) rfl H.f_addU64 (x_addU64_n L) (x_addU64_b L) (x_addU64_x L) .u64 (x_addU64_f L) rfl rfl hw.cellSt (hw.thaw 0)).trans (by rw [eS]; rfl), fun hl => absurd hl.1 (by omega), fun _ => ⟨qt + 92, ?_⟩⟩
    clear hw eS
    obtain rfl | rfl : wt = 0 ∨ wt = 1 := by omega
    · walk_nrm
      q_vn (.int .u64 S)
      q_c stepG_region_end
      q_c stepG_ret'
      q_leave1 H.f_uAdd
      q_vn (.int .u64 S)
      q_c stepG_region_end
      q_c stepG_seq
      q_c stepG_seq
      q_reg
      q_vn (.int .u64 S)
      q_vn (.int .u64 0)
      q_vn (.bool false)
      q_vn (.bool false)
      q_skip
      q_skip
      q_vn (.bool false)
      q_c stepG_region_end
      q_cond false
      q_c stepG_skip
      q_c stepG_seq
      q_reg
      q_vn (.int .u64 S)
      q_vn (.int .u64 (v : Int))
      q_vn (.int .i32 (v : Int))
      q_vn (.int .i32 (v : Int))
      q_c stepG_region_end
      q_c stepG_seq
      q_reg
      q_vn (.int .u64 S)
      q_vn (.int .u64 0)
      q_vn (.int .u32 0)
      q_vn (.int .u32 0)
      q_c stepG_region_end
      q_c stepG_seq
      q_c stepG_seq
      q_reg
      q_vn (.bool true)
      q_vn (.int .i64 (-1))
      q_vn (.bool false)
      q_vn (.bool false)
      q_vn (.bool false)
      q_skip
      q_skip
      q_skip
      q_skip
      q_vn (.bool false)
      q_c stepG_region_end
      q_cond false
      q_c stepG_skip
      q_c stepG_seq
      q_c stepG_seq
      q_reg
      q_vn (.int .i32 (v : Int))
      q_vn (.bool false)
      q_c stepG_region_end
      q_cond false
      q_c stepG_skip
      q_c stepG_seq
      q_c stepG_seq
      q_reg
      q_vn (.int .u32 0)
      q_vn (.bool false)
      q_vn (.bool false)
      q_skip
      q_skip
      q_vn (.bool false)
      q_vn (.bool false)
      q_skip
      q_skip
      q_skip
      q_skip
      q_vn (.bool false)
      q_c stepG_region_end
      q_cond false
      q_c stepG_skip
      q_c stepG_seq
      q_c stepG_seq
      q_reg
      q_vn (.int .i32 (v : Int))
      q_vn (.bool true)
      q_vn (.bool true)
      q_skip
      q_skip
      q_vn (.bool true)
      q_c stepG_region_end
      q_cond true
      q_c stepG_ret'
      q_enable
      q_leave0 H.f_add
      q_c stepG_region_end
      q_c stepG_end
      exact QuitsD.leaveD rfl rfl H.f_done rfl hcm hT
    · walk_nrm
      q_vn (.int .u64 S)
      q_c stepG_region_end
      q_c stepG_ret'
      q_leave1 H.f_uAdd
      q_vn (.int .u64 S)
      q_c stepG_region_end
      q_c stepG_seq
      q_c stepG_seq
      q_reg
      q_vn (.int .u64 S)
      q_vn (.int .u64 0)
      q_vn (.bool false)
      q_vn (.bool false)
      q_skip
      q_skip
      q_vn (.bool false)
      q_c stepG_region_end
      q_cond false
      q_c stepG_skip
      q_c stepG_seq
      q_reg
      q_vn (.int .u64 S)
      q_vn (.int .u64 (v : Int))
      q_vn (.int .i32 (v : Int))
      q_vn (.int .i32 (v : Int))
      q_c stepG_region_end
      q_c stepG_seq
      q_reg
      q_vn (.int .u64 S)
      q_vn (.int .u64 1)
      q_vn (.int .u32 1)
      q_vn (.int .u32 1)
      q_c stepG_region_end
      q_c stepG_seq
      q_c stepG_seq
      q_reg
      q_vn (.bool true)
      q_vn (.int .i64 (-1))
      q_vn (.bool false)
      q_vn (.bool false)
      q_vn (.bool false)
      q_skip
      q_skip
      q_skip
      q_skip
      q_vn (.bool false)
      q_c stepG_region_end
      q_cond false
      q_c stepG_skip
      q_c stepG_seq
      q_c stepG_seq
      q_reg
      q_vn (.int .i32 (v : Int))
      q_vn (.bool false)
      q_c stepG_region_end
      q_cond false
      q_c stepG_skip
      q_c stepG_seq
      q_c stepG_seq
      q_reg
      q_vn (.int .u32 1)
      q_vn (.bool true)
      q_vn (.bool true)
      q_vn (.int .i64 (-1))
      q_vn (.bool false)
      q_vn (.bool false)
      q_vn (.bool false)
      q_skip
      q_skip
      q_skip
      q_skip
      q_vn (.bool false)
      q_c stepG_region_end
      q_cond false
      q_c stepG_skip
      q_c stepG_seq
      q_c stepG_seq
      q_reg
      q_vn (.int .i32 (v : Int))
      q_vn (.bool true)
      q_vn (.bool true)
      q_skip
      q_skip
      q_vn (.bool true)
      q_c stepG_region_end
      q_cond true
      q_c stepG_ret'
      q_enable
      q_leave0 H.f_add
      q_c stepG_region_end
      q_c stepG_end
      exact QuitsD.leaveD rfl rfl H.f_done rfl hcm hT
end
end Go.Wgw
end

section
set_option linter.unusedVariables false
set_option linter.unusedSimpArgs false
namespace Go.Wgw
open Go Go.Conc Go.RowKit Go.Conc.Lib Go.ConcR.Gen Go.ConcN.Gen
open Go.ConcN (WgLive)
open Go.ConcR (KK WgAt stA smA rd wr DC0)
open Go.Sim (Bs Oth Walks walks_of_goes Ev1 DidX Did News)

section
variable {P : Program} (L : WgLink) (Wg : Nat) (c : Bs P) (Next : Goroutine → World → Prop)
def Kes (g : Goroutine) (w : World) : Prop := g.status = .running ∧ ∃ g', stepG P c.main g w = .go g' w #[ConcR.mk .enable] ∧ Walks c Next g' w
def A1s (g : Goroutine) (w : World) : Prop :=
  g.status = .running ∧ ∀ v : Nat, v < 2147483647 → WgAt L.tWg Wg w (v * KK) 0 →
    ∃ g', stepG P c.main g w = .go g' (w.setCell (stA Wg) (.int .u64 ((v + 1) * KK))) #[rd (stA Wg), wr (stA Wg)] ∧ Walks c (Kes c Next) g' (w.setCell (stA Wg) (.int .u64 ((v + 1) * KK)))
def Kds (g : Goroutine) (w : World) : Prop := g.status = .running ∧ ∃ g', stepG P c.main g w = .go g' w #[ConcR.mk .disable] ∧ Walks c (A1s L Wg c Next) g' w
def Acs (g : Goroutine) (w : World) : Prop := g.status = .running ∧ ∃ g', stepG P c.main g w = .go g' w #[ConcR.mk (.acquire (stA Wg))] ∧ Walks c Next g' w
def W4s (g : Goroutine) (w : World) : Prop := g.status = .running ∧ (WgAt L.tWg Wg w 0 0 → ∃ g', stepG P c.main g w = .go g' w #[rd (stA Wg)] ∧ Walks c (Kes c (Acs Wg c Next)) g' w)
def W3s (g : Goroutine) (w : World) : Prop :=
  g.status = .running ∧ g.offers = none ∧ ((∃ st, WgAt L.tWg Wg w st 0) → stepG P c.main g w = .go { g with status := .blocked } w #[]) ∧
    (WgAt L.tWg Wg w 0 1 → ∃ g', stepG P c.main g w = .go g' (w.setCell (smA Wg) (.int .u32 0)) (semEvents (smA Wg)) ∧ Walks c (W4s L Wg c Next) g' (w.setCell (smA Wg) (.int .u32 0)))
variable (Anch : Goroutine → World → Prop)
def W2s (vs : Nat) (g : Goroutine) (w : World) : Prop :=
  g.status = .running ∧ ∀ v : Nat, v < 2147483648 → WgAt L.tWg Wg w (v * KK) 0 →
    (v = vs → ∃ g', stepG P c.main g w = .go g' (w.setCell (stA Wg) (.int .u64 (v * KK + 1))) #[rd (stA Wg), wr (stA Wg)] ∧ Walks c (W3s L Wg c Next) g' (w.setCell (stA Wg) (.int .u64 (v * KK + 1)))) ∧
    (v ≠ vs → ∃ g', stepG P c.main g w = .go g' w #[rd (stA Wg)] ∧ Walks c Anch g' w)
def W1s (g : Goroutine) (w : World) : Prop :=
  g.status = .running ∧ ∀ v : Nat, v < 2147483648 → WgAt L.tWg Wg w (v * KK) 0 → ∃ g', stepG P c.main g w = .go g' w #[rd (stA Wg)] ∧
    (v = 0 → Walks c (Kes c (Acs Wg c Next)) g' w) ∧ (v ≠ 0 → Walks c (W2s L Wg c Next Anch v) g' w)
def Kdw (g : Goroutine) (w : World) : Prop := g.status = .running ∧ ∃ g', stepG P c.main g w = .go g' w #[ConcR.mk .disable] ∧ Walks c Anch g' w
end

/-- At the head of Wait's loop. -/
def AnchS (L : WgLink) (Wg : Nat) (cf : Frame) (cs : List Frame) (g : Goroutine) (w : World) : Prop :=
  ∃ T : Array Value, g = G ((base L.wait).at ⟨T, []⟩ [.code (L7 L), .inLoop (L7 L), .inBlock 0]) (cf :: cs) ∧ T.size = 84 ∧ T[0]? = some (.pointer (some ⟨Wg, 0, none⟩)) ∧ WgLive L.tWg Wg w

section
variable {P : Program} {L : WgLink} {Wg : Nat} {c : Bs P} {Next : Goroutine → World → Prop} {b₀ : Frame} {a₀ : Act} {ops₀ : Array Oper} {i₀ : Nat} {rest₀ : List Nat} {k₀ : List Item} {cs : List Frame} {o : Oper} {args : Array Operand} {ats : Array TypeId}
set_option maxRecDepth 100000 in
set_option maxHeartbeats 16000000 in
/-- ████ Add(1), IN COMPANY. ████ -/
theorem addPosS (H : WgLib P L) (hI : c.I = WgLive L.tWg Wg) (hQ : c.Q Wg) (ho : ops₀[i₀]? = some o) (hwt : Region.wanted o (yielded ops₀ a₀.tmps) = true) (hk : b₀.kind ≠ .early)
    (hop : o.op = .call { callee := .value (.func L.add), args, argTypes := ats }) (hargs : args.map a₀.eval = #[.pointer (some ⟨Wg, 0, none⟩), .int .i64 1])
    (hT : ∀ w, WgLive L.tWg Wg w → Walks c Next (G (b₀.at (a₀.put ((ops₀[i₀]?).bind (·.dst)) (.tuple #[])) (.inRegion ops₀ rest₀ :: k₀)) cs) w) (w : World) (hF : WgLive L.tWg Wg w) :
    Walks c (Kds L Wg c Next) (G (b₀.at a₀ (.inRegion ops₀ (i₀ :: rest₀) :: k₀)) cs) w := by
  lib_facts
  refine walks_of_goes (R := Oth c) (fun _ _ h => h) (n := 40) ?_
  u_in (orl hI) hF
  refine goes_call ho hwt hk hop H.f_add (nm_add L) rfl ⟨by u_nil, ?_⟩
  rw [hargs]
  clear hwt hop hargs ho
  walk_nrmf addFn
  repeat first
    | u_c stepG_seq (orl hI) hF
    | u_c stepG_region_end (orl hI) hF
    | u_c stepG_skip (orl hI) hF
    | u_reg (orl hI) hF
    | u_cond true (orl hI) hF
    | u_cond false (orl hI) hF
    | u_op (orl hI) hF
  refine Goes.stop (fun w₁ h₁ => ?_)
  replace hF := orl hI hF h₁
  clear h₁
  refine ⟨rfl, _, stepG_mark0 .disable (by simp) rfl rfl (by k_ne) rfl H.f_disable (x_disable_n L) (x_disable_b L) (x_disable_x L) (x_disable_f L), ?_⟩
  refine walks_of_goes (R := Oth c) (fun _ _ h => h) (n := 80) ?_
  walk_nrm
  u_c stepG_region_end (orl hI) hF
  u_reg (orl hI) hF
  u_defer (orl hI) hF
  repeat first
    | u_c stepG_seq (orl hI) hF
    | u_c stepG_region_end (orl hI) hF
    | u_c stepG_skip (orl hI) hF
    | u_reg (orl hI) hF
    | u_cond false (orl hI) hF
    | u_bub (orl hI) hF
    | u_op (orl hI) hF
  u_call H.f_uAdd (nm_uAdd L) uAddFn (orl hI) hF
  repeat first
    | u_c stepG_seq (orl hI) hF
    | u_c stepG_region_end (orl hI) hF
    | u_reg (orl hI) hF
    | u_op (orl hI) hF
  refine Goes.stop (fun w₂ h₂ => ?_)
  replace hF := orl hI hF h₂
  clear h₂
  refine ⟨rfl, fun v hv hw => ?_⟩
  rcases Nat.eq_zero_or_pos v with rfl | hvp
  · -- the count is now 1: the library says that it reads its semaphore
    replace hw : WgAt L.tWg Wg w₂ 0 0 := by simpa using hw
    have z : (((0 : Nat) : Int) + 1) * KK = KK := by simp
    rw [z]
    have e0 : IntKind.u64.wrap (0 + 4294967296) = KK := by decide
    refine ⟨_, (stepG_add_atomic rfl rfl (by k_ne) rfl H.f_addU64 (x_addU64_n L) (x_addU64_b L) (x_addU64_x L) .u64 (x_addU64_f L) rfl rfl hw.cellSt (hw.thaw 0)).trans (by rw [e0]; rfl), ?_⟩
    replace hF : WgLive L.tWg Wg (w₂.setCell (stA Wg) (.int .u64 KK)) := ⟨_, _, hw.setSt _⟩
    clear hw
    simp only [KK] at hF ⊢
    refine Walks.trans (Stop := fun g w => WgLive L.tWg Wg w ∧ Walks c (Kes c Next) g w) (walks_of_goes (R := Oth c) (fun _ _ h => h) (n := 150) ?_) (fun _ _ h => h.2)
    walk_nrm
    u_op (orl hI) hF
    u_c stepG_region_end (orl hI) hF
    u_c stepG_ret' (orl hI) hF
    u_leave1 H.f_uAdd (orl hI) hF
    u_op (orl hI) hF
    u_c stepG_region_end (orl hI) hF
    u_c stepG_seq (orl hI) hF
    u_c stepG_seq (orl hI) hF
    u_reg (orl hI) hF
    u_op (orl hI) hF
    u_op (orl hI) hF
    u_op (orl hI) hF
    u_op (orl hI) hF
    u_skip (orl hI) hF
    u_skip (orl hI) hF
    u_op (orl hI) hF
    u_c stepG_region_end (orl hI) hF
    u_cond false (orl hI) hF
    u_c stepG_skip (orl hI) hF
    u_c stepG_seq (orl hI) hF
    u_reg (orl hI) hF
    u_op (orl hI) hF
    u_op (orl hI) hF
    u_op (orl hI) hF
    u_op (orl hI) hF
    u_c stepG_region_end (orl hI) hF
    u_c stepG_seq (orl hI) hF
    u_reg (orl hI) hF
    u_op (orl hI) hF
    u_op (orl hI) hF
    u_op (orl hI) hF
    u_op (orl hI) hF
    u_c stepG_region_end (orl hI) hF
    u_c stepG_seq (orl hI) hF
    u_c stepG_seq (orl hI) hF
    u_reg (orl hI) hF
    u_op (orl hI) hF
    u_op (orl hI) hF
    u_op (orl hI) hF
    u_op (orl hI) hF
    u_op (orl hI) hF
    u_op (orl hI) hF
    u_op (orl hI) hF
    u_op (orl hI) hF
    u_op (orl hI) hF
    u_op (orl hI) hF
    u_c stepG_region_end (orl hI) hF
    u_cond true (orl hI) hF
    u_reg (orl hI) hF
    u_op (orl hI) hF
    u_op (orl hI) hF
    u_op (orl hI) hF
    u_conv H.underlying_tPU32 H.room_tU32 (Go.ConcN.Gen.WgLive.cell1 hF).choose_spec (orl hI) hF
    refine Goes.stop (fun w₃ h₃ => ?_)
    replace hF := orl hI hF h₃
    clear h₃
    refine ⟨hF, word rfl hQ hI hF (a := ⟨Wg, 1, none⟩) rfl (.inl rfl) (fun w1 => stepG_markAt .read (by simp) rfl rfl (by k_ne) rfl H.f_raceRead (x_raceRead_n L) (x_raceRead_b L) (x_raceRead_x L) (x_raceRead_f L) (ad := ⟨Wg, 1, none⟩) (by simp [Act.eval])) fun w₄ hF => ?_⟩
    refine walks_of_goes (R := Oth c) (fun _ _ h => h) (n := 80) ?_
    walk_nrm
    u_c stepG_region_end (orl hI) hF
    u_c stepG_seq (orl hI) hF
    u_c stepG_seq (orl hI) hF
    u_reg (orl hI) hF
    u_op (orl hI) hF
    u_op (orl hI) hF
    u_c stepG_region_end (orl hI) hF
    u_cond false (orl hI) hF
    u_c stepG_skip (orl hI) hF
    u_c stepG_seq (orl hI) hF
    u_c stepG_seq (orl hI) hF
    u_reg (orl hI) hF
    u_op (orl hI) hF
    u_op (orl hI) hF
    u_op (orl hI) hF
    u_skip (orl hI) hF
    u_skip (orl hI) hF
    u_op (orl hI) hF
    u_op (orl hI) hF
    u_skip (orl hI) hF
    u_skip (orl hI) hF
    u_skip (orl hI) hF
    u_skip (orl hI) hF
    u_op (orl hI) hF
    u_c stepG_region_end (orl hI) hF
    u_cond false (orl hI) hF
    u_c stepG_skip (orl hI) hF
    u_c stepG_seq (orl hI) hF
    u_c stepG_seq (orl hI) hF
    u_reg (orl hI) hF
    u_op (orl hI) hF
    u_op (orl hI) hF
    u_op (orl hI) hF
    u_skip (orl hI) hF
    u_skip (orl hI) hF
    u_op (orl hI) hF
    u_c stepG_region_end (orl hI) hF
    u_cond true (orl hI) hF
    u_c stepG_ret' (orl hI) hF
    refine Goes.stop (fun w₅ h₅ => ?_)
    replace hF := orl hI hF h₅
    clear h₅
    refine ⟨rfl, _, stepG_unwind_entry (v := .tuple #[]) (evs := #[ConcR.mk .enable]) rfl H.f_enable (x_enable_n L) (x_enable_b L) (x_enable_x L) (x_enable_f L) (by simp [Extern.Race.none_]) (by simp [ConcR.mk]) (by simp [ConcR.mk]), ?_⟩
    refine Walks.trans (Stop := fun g w => WgLive L.tWg Wg w ∧ Walks c Next g w) (walks_of_goes (R := Oth c) (fun _ _ h => h) (n := 5) ?_) (fun _ _ h => h.2)
    u_leave0 H.f_add (orl hI) hF
    exact Goes.stop (fun w₆ h₆ => ⟨orl hI hF h₆, hT _ (orl hI hF h₆)⟩)
  · -- it is more
    obtain ⟨V, hV⟩ : ∃ V : Int, V = (v : Int) + 1 := ⟨_, rfl⟩
    obtain ⟨S, hS⟩ : ∃ S : Int, S = V * KK := ⟨_, rfl⟩
    have eS : IntKind.u64.wrap ((v : Int) * KK + 4294967296) = S := by rw [IntKind.wrap_u64, hS, hV]; simp only [KK]; omega
    rw [← hV, ← hS]
    have a1 : S / 4294967296 = V := by rw [hS]; simp only [KK]; omega
    have b1 : bits .and .u64 S 2147483648 = 0 := by rw [hS, hV]; have := ConcN.st_flag (v + 1) 0 (by omega) (by omega); simpa [KK] using this
    have b2 : bits .and .u64 S 2147483647 = 0 := by rw [hS, hV]; have := ConcN.st_waiters (v + 1) 0 (by omega) (by omega); simpa [KK] using this
    have c1 : IntKind.i32.wrap V = V := by rw [IntKind.wrap_i32]; omega
    have hV1 : 1 < V := by omega
    have hV2 : V < 2147483648 := by omega
    have q1 : (V == 1) = false := by simp; omega
    have q2 : decide (V = 1) = false := decide_eq_false (by omega)
    have q3 : decide (V < 0) = false := decide_eq_false (by omega)
    have q4 : decide (0 < V) = true := decide_eq_true (by omega)
    have q5 : (V == 0) = false := by simp; omega
    have q6 : decide (V = 0) = false := decide_eq_false (by omega)
    refine ⟨_, (stepG_add_atomic rfl rfl (by k_ne) rfl H.f_addU64 (x_addU64_n L) (x_addU64_b L) (x_addU64_x L) .u64 (x_addU64_f L) rfl rfl hw.cellSt (hw.thaw 0)).trans (by rw [eS]; rfl), ?_⟩
    replace hF : WgLive L.tWg Wg (w₂.setCell (stA Wg) (.int .u64 S)) := ⟨_, _, hw.setSt _⟩
    clear hw hS hV eS
    refine walks_of_goes (R := Oth c) (fun _ _ h => h) (n := 150) ?_
    walk_nrm
    u_op (orl hI) hF
    u_c stepG_region_end (orl hI) hF
    u_c stepG_ret' (orl hI) hF
    u_leave1 H.f_uAdd (orl hI) hF
    u_op (orl hI) hF
    u_c stepG_region_end (orl hI) hF
    u_c stepG_seq (orl hI) hF
    u_c stepG_seq (orl hI) hF
    u_reg (orl hI) hF
    u_op (orl hI) hF
    u_op (orl hI) hF
    u_op (orl hI) hF
    u_op (orl hI) hF
    u_skip (orl hI) hF
    u_skip (orl hI) hF
    u_op (orl hI) hF
    u_c stepG_region_end (orl hI) hF
    u_cnd false (orl hI) hF
    u_c stepG_skip (orl hI) hF
    u_c stepG_seq (orl hI) hF
    u_reg (orl hI) hF
    u_op (orl hI) hF
    u_op (orl hI) hF
    u_op (orl hI) hF
    u_op (orl hI) hF
    u_c stepG_region_end (orl hI) hF
    u_c stepG_seq (orl hI) hF
    u_reg (orl hI) hF
    u_op (orl hI) hF
    u_op (orl hI) hF
    u_op (orl hI) hF
    u_op (orl hI) hF
    u_c stepG_region_end (orl hI) hF
    u_c stepG_seq (orl hI) hF
    u_c stepG_seq (orl hI) hF
    u_reg (orl hI) hF
    u_op (orl hI) hF
    u_op (orl hI) hF
    u_op (orl hI) hF
    u_op (orl hI) hF
    u_op (orl hI) hF
    u_op (orl hI) hF
    u_op (orl hI) hF
    u_op (orl hI) hF
    u_op (orl hI) hF
    u_op (orl hI) hF
    u_c stepG_region_end (orl hI) hF
    u_cnd false (orl hI) hF
    u_c stepG_skip (orl hI) hF
    u_c stepG_seq (orl hI) hF
    u_c stepG_seq (orl hI) hF
    u_reg (orl hI) hF
    u_op (orl hI) hF
    u_op (orl hI) hF
    u_c stepG_region_end (orl hI) hF
    u_cnd false (orl hI) hF
    u_c stepG_skip (orl hI) hF
    u_c stepG_seq (orl hI) hF
    u_c stepG_seq (orl hI) hF
    u_reg (orl hI) hF
    u_op (orl hI) hF
    u_op (orl hI) hF
    u_op (orl hI) hF
    u_skip (orl hI) hF
    u_skip (orl hI) hF
    u_op (orl hI) hF
    u_op (orl hI) hF
    u_skip (orl hI) hF
    u_skip (orl hI) hF
    u_skip (orl hI) hF
    u_skip (orl hI) hF
    u_op (orl hI) hF
    u_c stepG_region_end (orl hI) hF
    u_cnd false (orl hI) hF
    u_c stepG_skip (orl hI) hF
    u_c stepG_seq (orl hI) hF
    u_c stepG_seq (orl hI) hF
    u_reg (orl hI) hF
    u_op (orl hI) hF
    u_op (orl hI) hF
    u_op (orl hI) hF
    u_skip (orl hI) hF
    u_skip (orl hI) hF
    u_op (orl hI) hF
    u_c stepG_region_end (orl hI) hF
    u_cnd true (orl hI) hF
    u_c stepG_ret' (orl hI) hF
    refine Goes.stop (fun w₅ h₅ => ?_)
    replace hF := orl hI hF h₅
    clear h₅
    refine ⟨rfl, _, stepG_unwind_entry (v := .tuple #[]) (evs := #[ConcR.mk .enable]) rfl H.f_enable (x_enable_n L) (x_enable_b L) (x_enable_x L) (x_enable_f L) (by simp [Extern.Race.none_]) (by simp [ConcR.mk]) (by simp [ConcR.mk]), ?_⟩
    refine Walks.trans (Stop := fun g w => WgLive L.tWg Wg w ∧ Walks c Next g w) (walks_of_goes (R := Oth c) (fun _ _ h => h) (n := 5) ?_) (fun _ _ h => h.2)
    u_leave0 H.f_add (orl hI) hF
    exact Goes.stop (fun w₆ h₆ => ⟨orl hI hF h₆, hT _ (orl hI hF h₆)⟩)

set_option maxRecDepth 100000 in
set_option maxHeartbeats 16000000 in
/-- ████ FROM THE HEAD OF Wait's LOOP. ████ -/
theorem waitRoundS (H : WgLib P L) (hI : c.I = WgLive L.tWg Wg) (hQ : c.Q Wg)
    (hT : ∀ w, WgLive L.tWg Wg w → Walks c Next (G (b₀.at (a₀.put ((ops₀[i₀]?).bind (·.dst)) (.tuple #[])) (.inRegion ops₀ rest₀ :: k₀)) cs) w)
    (g : Goroutine) (w : World) (h : AnchS L Wg (b₀.at a₀ (.inRegion ops₀ (i₀ :: rest₀) :: k₀)) cs g w) :
    Walks c (W1s L Wg c Next (AnchS L Wg (b₀.at a₀ (.inRegion ops₀ (i₀ :: rest₀) :: k₀)) cs)) g w := by
  lib_facts
  obtain ⟨T, rfl, hT84, t0, hF⟩ := h
  obtain ⟨v0, v1, v2, v3, v4, v5, v6, v7, v8, v9, v10, v11, v12, v13, v14, v15, v16, v17, v18, v19, v20, v21, v22, v23, v24, v25, v26, v27, v28, v29, v30, v31, v32, v33, v34, v35, v36, v37, v38, v39, v40, v41, v42, v43, v44, v45, v46, v47, v48, v49, v50, v51, v52, v53, v54, v55, v56, v57, v58, v59, v60, v61, v62, v63, v64, v65, v66, v67, v68, v69, v70, v71, v72, v73, v74, v75, v76, v77, v78, v79, v80, v81, v82, v83, rfl⟩ := array84 T hT84
  simp only [List.getElem?_toArray, List.getElem?_cons_zero, Option.some.injEq] at t0
  subst t0
  clear hT84
  -- the end of it, twice wanted
  have after : ∀ (U : Array Value) (w : World), False → True := fun _ _ h => h.elim
  clear after
  refine walks_of_goes (R := Oth c) (fun _ _ h => h) (n := 40) ?_
  simp only [L7, body_wait, waitFn, Option.getD_some]
  u_c stepG_block (orl hI) hF
  repeat first
    | u_c stepG_seq (orl hI) hF
    | u_c stepG_region_end (orl hI) hF
    | u_reg (orl hI) hF
    | u_op (orl hI) hF
  u_call H.f_uLoad (nm_uLoad L) uLoadFn (orl hI) hF
  repeat first
    | u_c stepG_seq (orl hI) hF
    | u_c stepG_region_end (orl hI) hF
    | u_reg (orl hI) hF
    | u_op (orl hI) hF
  refine Goes.stop (fun w₁ h₁ => ?_)
  replace hF := orl hI hF h₁
  clear h₁
  refine ⟨rfl, fun v hv hw => ?_⟩
  rcases Nat.eq_zero_or_pos v with rfl | hvp
  · -- nobody is counted: the join is seen
    replace hw : WgAt L.tWg Wg w₁ 0 0 := by simpa using hw
    refine ⟨_, stepG_load_atomic (v := 0) rfl rfl (by k_ne) rfl H.f_loadU64 (x_loadU64_n L) (x_loadU64_b L) (x_loadU64_x L) .u64 (x_loadU64_f L) rfl hw.cellSt, fun _ => ?_, fun h => absurd rfl h⟩
    clear hw
    refine walks_of_goes (R := Oth c) (fun _ _ h => h) (n := 80) ?_
    walk_nrm
    u_op (orl hI) hF
    u_c stepG_region_end (orl hI) hF
    u_c stepG_ret' (orl hI) hF
    u_leave1 H.f_uLoad (orl hI) hF
    u_op (orl hI) hF
    u_c stepG_region_end (orl hI) hF
    u_c stepG_seq (orl hI) hF
    u_reg (orl hI) hF
    u_op (orl hI) hF
    u_op (orl hI) hF
    u_op (orl hI) hF
    u_op (orl hI) hF
    u_c stepG_region_end (orl hI) hF
    u_c stepG_seq (orl hI) hF
    u_reg (orl hI) hF
    u_op (orl hI) hF
    u_op (orl hI) hF
    u_op (orl hI) hF
    u_op (orl hI) hF
    u_c stepG_region_end (orl hI) hF
    u_c stepG_seq (orl hI) hF
    u_c stepG_seq (orl hI) hF
    u_reg (orl hI) hF
    u_op (orl hI) hF
    u_op (orl hI) hF
    u_c stepG_region_end (orl hI) hF
    u_cond true (orl hI) hF
    u_c stepG_seq (orl hI) hF
    u_cond true (orl hI) hF
    u_c stepG_seq (orl hI) hF
    u_reg (orl hI) hF
    refine Goes.stop (fun w₅ h₅ => ?_)
    replace hF := orl hI hF h₅
    clear h₅
    refine ⟨rfl, _, stepG_mark0 .enable (by simp) rfl rfl (by k_ne) rfl H.f_enable (x_enable_n L) (x_enable_b L) (x_enable_x L) (x_enable_f L), ?_⟩
    refine walks_of_goes (R := Oth c) (fun _ _ h => h) (n := 20) ?_
    walk_nrm
    repeat first
      | u_c stepG_seq (orl hI) hF
      | u_c stepG_region_end (orl hI) hF
      | u_reg (orl hI) hF
      | u_op (orl hI) hF
    u_conv H.underlying_tWgP H.room_tWg (Go.ConcN.Gen.WgLive.cell0 hF).choose_spec (orl hI) hF
    refine Goes.stop (fun w₆ h₆ => ?_)
    replace hF := orl hI hF h₆
    clear h₆
    refine ⟨rfl, _, stepG_markAt .acquire (by simp) rfl rfl (by k_ne) rfl H.f_acquire (x_acquire_n L) (x_acquire_b L) (x_acquire_x L) (x_acquire_f L) (by simp [Act.eval, stA]), ?_⟩
    refine Walks.trans (Stop := fun g w => WgLive L.tWg Wg w ∧ Walks c Next g w) (walks_of_goes (R := Oth c) (fun _ _ h => h) (n := 40) ?_) (fun _ _ h => h.2)
    walk_nrm
    u_c stepG_region_end (orl hI) hF
    u_c stepG_seq (orl hI) hF
    u_c stepG_seq (orl hI) hF
    u_reg (orl hI) hF
    u_op (orl hI) hF
    u_op (orl hI) hF
    u_op (orl hI) hF
    u_op (orl hI) hF
    u_op (orl hI) hF
    u_op (orl hI) hF
    u_op (orl hI) hF
    u_op (orl hI) hF
    u_skip (orl hI) hF
    u_skip (orl hI) hF
    u_op (orl hI) hF
    u_c stepG_region_end (orl hI) hF
    u_cond false (orl hI) hF
    u_c stepG_skip (orl hI) hF
    u_c stepG_ret' (orl hI) hF
    u_leave0 H.f_wait (orl hI) hF
    exact Goes.stop (fun w₇ h₇ => ⟨orl hI hF h₇, hT _ (orl hI hF h₇)⟩)
  · -- somebody is counted
    obtain ⟨S, hS⟩ : ∃ S : Int, (v : Int) * KK = S := ⟨_, rfl⟩
    have a1 : S / 4294967296 = (v : Int) := by rw [← hS]; simp only [KK]; omega
    have b1 : bits .and .u64 S 2147483648 = 0 := by rw [← hS]; have := ConcN.st_flag v 0 (by omega) (by omega); simpa [KK] using this
    have b2 : bits .and .u64 S 2147483647 = 0 := by rw [← hS]; have := ConcN.st_waiters v 0 (by omega) (by omega); simpa [KK] using this
    have c1 : IntKind.i32.wrap (v : Int) = (v : Int) := by rw [IntKind.wrap_i32]; omega
    have w1 : IntKind.u64.wrap (S + 1) = S + 1 := by rw [IntKind.wrap_u64, ← hS]; simp only [KK]; omega
    have q3 : decide ((v : Int) < 0) = false := decide_eq_false (by omega)
    have q4 : decide (0 < (v : Int)) = true := decide_eq_true (by omega)
    have q5 : ((v : Int) == 0) = false := by simp; omega
    have q6 : decide ((v : Int) = 0) = false := decide_eq_false (by omega)
    rw [hS] at hw
    refine ⟨_, stepG_load_atomic (v := S) rfl rfl (by k_ne) rfl H.f_loadU64 (x_loadU64_n L) (x_loadU64_b L) (x_loadU64_x L) .u64 (x_loadU64_f L) rfl hw.cellSt, fun h0 => absurd h0 (by omega), fun _ => ?_⟩
    clear hw
    refine walks_of_goes (R := Oth c) (fun _ _ h => h) (n := 90) ?_
    walk_nrm
    u_op (orl hI) hF
    u_c stepG_region_end (orl hI) hF
    u_c stepG_ret' (orl hI) hF
    u_leave1 H.f_uLoad (orl hI) hF
    u_op (orl hI) hF
    u_c stepG_region_end (orl hI) hF
    u_c stepG_seq (orl hI) hF
    u_reg (orl hI) hF
    u_op (orl hI) hF
    u_op (orl hI) hF
    u_op (orl hI) hF
    u_op (orl hI) hF
    u_c stepG_region_end (orl hI) hF
    u_c stepG_seq (orl hI) hF
    u_reg (orl hI) hF
    u_op (orl hI) hF
    u_op (orl hI) hF
    u_op (orl hI) hF
    u_op (orl hI) hF
    u_c stepG_region_end (orl hI) hF
    u_c stepG_seq (orl hI) hF
    u_c stepG_seq (orl hI) hF
    u_reg (orl hI) hF
    u_op (orl hI) hF
    u_op (orl hI) hF
    u_c stepG_region_end (orl hI) hF
    u_cnd false (orl hI) hF
    u_c stepG_skip (orl hI) hF
    u_c stepG_seq (orl hI) hF
    u_reg (orl hI) hF
    u_op (orl hI) hF
    u_op (orl hI) hF
    u_op (orl hI) hF
    u_op (orl hI) hF
    u_op (orl hI) hF
    u_op (orl hI) hF
    u_call H.f_uCas (nm_uCas L) uCasFn (orl hI) hF
    repeat first
      | u_c stepG_seq (orl hI) hF
      | u_c stepG_region_end (orl hI) hF
      | u_reg (orl hI) hF
      | u_op (orl hI) hF
    refine Goes.stop (fun w₂ h₂ => ?_)
    replace hF := orl hI hF h₂
    clear h₂
    refine ⟨rfl, fun v' hv' hw => ⟨fun e => ?_, fun e => ?_⟩⟩
    · -- the CompareAndSwap hits
      subst e
      rw [hS] at hw ⊢
      refine ⟨_, (stepG_cas_hit (v := S) (n := S + 1) rfl rfl (by k_ne) rfl H.f_casU64 (x_casU64_n L) (x_casU64_b L) (x_casU64_x L) .u64 (x_casU64_f L) rfl rfl rfl hw.cellSt (hw.thaw 0)).trans (by rfl), ?_⟩
      replace hF : WgLive L.tWg Wg (w₂.setCell (stA Wg) (.int .u64 (S + 1))) := ⟨_, _, hw.setSt _⟩
      clear hw
      refine Walks.trans (Stop := fun g w => WgLive L.tWg Wg w ∧ Walks c (W3s L Wg c Next) g w) (walks_of_goes (R := Oth c) (fun _ _ h => h) (n := 60) ?_) (fun _ _ h => h.2)
      walk_nrm
      u_op (orl hI) hF
      u_c stepG_region_end (orl hI) hF
      u_c stepG_ret' (orl hI) hF
      u_leave1 H.f_uCas (orl hI) hF
      u_c stepG_region_end (orl hI) hF
      u_cond true (orl hI) hF
      u_c stepG_seq (orl hI) hF
      u_c stepG_seq (orl hI) hF
      u_reg (orl hI) hF
      u_op (orl hI) hF
      u_op (orl hI) hF
      u_op (orl hI) hF
      u_op (orl hI) hF
      u_c stepG_region_end (orl hI) hF
      u_cond true (orl hI) hF
      u_reg (orl hI) hF
      u_op (orl hI) hF
      u_op (orl hI) hF
      u_op (orl hI) hF
      u_conv H.underlying_tPU32 H.room_tU32 (Go.ConcN.Gen.WgLive.cell1 hF).choose_spec (orl hI) hF
      refine Goes.stop (fun w₃ h₃ => ?_)
      replace hF := orl hI hF h₃
      clear h₃
      refine ⟨hF, word rfl hQ hI hF (a := ⟨Wg, 1, none⟩) rfl (.inr rfl) (fun w1 => stepG_markAt .write (by simp) rfl rfl (by k_ne) rfl H.f_raceWrite (x_raceWrite_n L) (x_raceWrite_b L) (x_raceWrite_x L) (x_raceWrite_f L) (ad := ⟨Wg, 1, none⟩) (by simp [Act.eval])) fun w₄ hF => ?_⟩
      refine walks_of_goes (R := Oth c) (fun _ _ h => h) (n := 60) ?_
      walk_nrm
      u_c stepG_region_end (orl hI) hF
      u_c stepG_seq (orl hI) hF
      u_reg (orl hI) hF
      u_op (orl hI) hF
      u_c stepG_region_end (orl hI) hF
      u_c stepG_seq (orl hI) hF
      u_c stepG_seq (orl hI) hF
      u_reg (orl hI) hF
      u_op (orl hI) hF
      u_op (orl hI) hF
      u_op (orl hI) hF
      u_op (orl hI) hF
      u_skip (orl hI) hF
      u_op (orl hI) hF
      u_c stepG_region_end (orl hI) hF
      u_cond false (orl hI) hF
      u_c stepG_skip (orl hI) hF
      u_c stepG_seq (orl hI) hF
      u_reg (orl hI) hF
      u_op (orl hI) hF
      u_op (orl hI) hF
      u_op (orl hI) hF
      u_op (orl hI) hF
      refine Goes.stop (fun w₃ h₃ => ?_)
      replace hF := orl hI hF h₃
      clear h₃
      refine ⟨rfl, rfl, fun ⟨st, hw⟩ => stepG_semacquire_wait rfl rfl rfl H.f_semacquire (x_semacquire_n L) (x_semacquire_b L) (x_semacquire_x L) (x_semacquire_f L) (by simp [Act.eval, smA]) hw.cellSm, fun hf => ?_⟩
      refine ⟨_, (stepG_semacquire (n := 1) rfl rfl (by k_ne) rfl H.f_semacquire (x_semacquire_n L) (x_semacquire_b L) (x_semacquire_x L) (x_semacquire_f L) (by simp [Act.eval, smA]) hf.cellSm (by k_ne) (hf.thaw 1)).trans (by rfl), ?_⟩
      replace hF : WgLive L.tWg Wg (w₃.setCell (smA Wg) (.int .u32 0)) := ⟨_, _, hf.setSm 0⟩
      clear hf
      refine walks_of_goes (R := Oth c) (fun _ _ h => h) (n := 60) ?_
      walk_nrm
      repeat first
        | u_c stepG_seq (orl hI) hF
        | u_c stepG_region_end (orl hI) hF
        | u_c stepG_skip (orl hI) hF
        | u_reg (orl hI) hF
        | u_op (orl hI) hF
      u_call H.f_uLoad (nm_uLoad L) uLoadFn (orl hI) hF
      repeat first
        | u_c stepG_seq (orl hI) hF
        | u_c stepG_region_end (orl hI) hF
        | u_reg (orl hI) hF
        | u_op (orl hI) hF
      refine Goes.stop (fun w₄ h₄ => ?_)
      replace hF := orl hI hF h₄
      clear h₄
      refine ⟨rfl, fun hw => ⟨_, stepG_load_atomic (v := 0) rfl rfl (by k_ne) rfl H.f_loadU64 (x_loadU64_n L) (x_loadU64_b L) (x_loadU64_x L) .u64 (x_loadU64_f L) rfl hw.cellSt, ?_⟩⟩
      clear hw
      refine walks_of_goes (R := Oth c) (fun _ _ h => h) (n := 60) ?_
      walk_nrm
      u_op (orl hI) hF
      u_c stepG_region_end (orl hI) hF
      u_c stepG_ret' (orl hI) hF
      u_leave1 H.f_uLoad (orl hI) hF
      u_op (orl hI) hF
      u_op (orl hI) hF
      u_c stepG_region_end (orl hI) hF
      u_c stepG_seq (orl hI) hF
      u_cond true (orl hI) hF
      u_c stepG_seq (orl hI) hF
      u_reg (orl hI) hF
      refine Goes.stop (fun w₅ h₅ => ?_)
      replace hF := orl hI hF h₅
      clear h₅
      refine ⟨rfl, _, stepG_mark0 .enable (by simp) rfl rfl (by k_ne) rfl H.f_enable (x_enable_n L) (x_enable_b L) (x_enable_x L) (x_enable_f L), ?_⟩
      refine walks_of_goes (R := Oth c) (fun _ _ h => h) (n := 20) ?_
      walk_nrm
      repeat first
        | u_c stepG_seq (orl hI) hF
        | u_c stepG_region_end (orl hI) hF
        | u_reg (orl hI) hF
        | u_op (orl hI) hF
      u_conv H.underlying_tWgP H.room_tWg (Go.ConcN.Gen.WgLive.cell0 hF).choose_spec (orl hI) hF
      refine Goes.stop (fun w₆ h₆ => ?_)
      replace hF := orl hI hF h₆
      clear h₆
      refine ⟨rfl, _, stepG_markAt .acquire (by simp) rfl rfl (by k_ne) rfl H.f_acquire (x_acquire_n L) (x_acquire_b L) (x_acquire_x L) (x_acquire_f L) (by simp [Act.eval, stA]), ?_⟩
      refine Walks.trans (Stop := fun g w => WgLive L.tWg Wg w ∧ Walks c Next g w) (walks_of_goes (R := Oth c) (fun _ _ h => h) (n := 40) ?_) (fun _ _ h => h.2)
      walk_nrm
      u_c stepG_region_end (orl hI) hF
      u_c stepG_seq (orl hI) hF
      u_c stepG_seq (orl hI) hF
      u_reg (orl hI) hF
      u_op (orl hI) hF
      u_c stepG_region_end (orl hI) hF
      u_cond false (orl hI) hF
      u_c stepG_skip (orl hI) hF
      u_c stepG_ret' (orl hI) hF
      u_leave0 H.f_wait (orl hI) hF
      exact Goes.stop (fun w₇ h₇ => ⟨orl hI hF h₇, hT _ (orl hI hF h₇)⟩)
    · -- it misses: back to the loop's head
      refine ⟨_, stepG_cas_miss (v := (v' : Int) * KK) (old := S) (n := S + 1) rfl rfl (by k_ne) rfl H.f_casU64 (x_casU64_n L) (x_casU64_b L) (x_casU64_x L) .u64 (x_casU64_f L) rfl rfl rfl hw.cellSt (hw.thaw 0) (by rw [← hS]; simp only [KK]; omega), ?_⟩
      clear hw
      refine walks_of_goes (R := Oth c) (fun _ _ h => h) (n := 40) ?_
      walk_nrm
      u_op (orl hI) hF
      u_c stepG_region_end (orl hI) hF
      u_c stepG_ret' (orl hI) hF
      u_leave1 H.f_uCas (orl hI) hF
      u_c stepG_region_end (orl hI) hF
      u_cond false (orl hI) hF
      u_c stepG_skip (orl hI) hF
      u_c stepG_inBlock (orl hI) hF
      u_c stepG_inLoop (orl hI) hF
      refine Goes.stop (fun w₃ h₃ => ?_)
      replace hF := orl hI hF h₃
      exact ⟨_, rfl, by simp, by simp, hF⟩

set_option maxRecDepth 100000 in
set_option maxHeartbeats 16000000 in
/-- ████ INTO Wait. ████ -/
theorem waitStartS (H : WgLib P L) (hI : c.I = WgLive L.tWg Wg) (ho : ops₀[i₀]? = some o) (hwt : Region.wanted o (yielded ops₀ a₀.tmps) = true) (hk : b₀.kind ≠ .early)
    (hop : o.op = .call { callee := .value (.func L.wait), args, argTypes := ats }) (hargs : args.map a₀.eval = #[.pointer (some ⟨Wg, 0, none⟩)]) (w : World) (hF : WgLive L.tWg Wg w) :
    Walks c (Kdw c (AnchS L Wg (b₀.at a₀ (.inRegion ops₀ (i₀ :: rest₀) :: k₀)) cs)) (G (b₀.at a₀ (.inRegion ops₀ (i₀ :: rest₀) :: k₀)) cs) w := by
  lib_facts
  refine walks_of_goes (R := Oth c) (fun _ _ h => h) (n := 20) ?_
  u_in (orl hI) hF
  refine goes_call ho hwt hk hop H.f_wait (nm_wait L) rfl ⟨by u_nil, ?_⟩
  rw [hargs]
  clear hwt hop hargs ho
  walk_nrmf waitFn
  repeat first
    | u_c stepG_seq (orl hI) hF
    | u_c stepG_region_end (orl hI) hF
    | u_reg (orl hI) hF
    | u_cond true (orl hI) hF
  refine Goes.stop (fun w₁ h₁ => ?_)
  replace hF := orl hI hF h₁
  clear h₁
  refine ⟨rfl, _, stepG_mark0 .disable (by simp) rfl rfl (by k_ne) rfl H.f_disable (x_disable_n L) (x_disable_b L) (x_disable_x L) (x_disable_f L), ?_⟩
  refine walks_of_goes (R := Oth c) (fun _ _ h => h) (n := 8) ?_
  walk_nrm
  repeat first
    | u_c stepG_seq (orl hI) hF
    | u_c stepG_region_end (orl hI) hF
    | u_c stepG_block (orl hI) hF
  u_c stepG_loop (orl hI) hF
  exact Goes.stop (fun w₂ h₂ => ⟨_, rfl, by simp, by simp, orl hI hF h₂⟩)
end
end Go.Wgw
end

section
namespace Go.Proofs
abbrev Try.link : Go.Conc.Lib.WgLink := { add := 13, done := 15, wait := 17, relMerge := 25, disable := 26, enable := 27, inBubble := 28, associate := 29, fatal := 30, uOr := 31, uAdd := 32, raceRead := 33, uLoad := 34, uStore := 35, disassociate := 36, semrelease := 37, acquire := 38, isAssociated := 39, uCas := 40, raceWrite := 41, semacquire := 42, orU64 := 47, addU64 := 48, loadU64 := 49, storeU64 := 50, casU64 := 51, tWgP := 67, tUP := 69, tAssoc := 70, tWg := 57, tAU := 54, tU64 := 52, tUint := 74, tU32 := 55, tPU32 := 75, tPAU := 87, tPU64 := 89, tNoCopy := 49, tANoCopy := 50, tAlign64 := 51 }
theorem Try.wgLib : Go.Conc.Lib.WgLib Try.prog Try.link :=
  ⟨Try.func13, Try.func15, Try.func17, Try.func25, Try.func26, Try.func27, Try.func28, Try.func29, Try.func30, Try.func31, Try.func32, Try.func33, Try.func34, Try.func35, Try.func36, Try.func37, Try.func38, Try.func39, Try.func40, Try.func41, Try.func42, Try.func47, Try.func48, Try.func49, Try.func50, Try.func51, Try.underlying67, Try.runUnderlying67, Try.sizeOf67, Try.isAgg67, Try.zeroValue67, Try.underlying69, Try.runUnderlying69, Try.sizeOf69, Try.isAgg69, Try.zeroValue69, Try.underlying70, Try.runUnderlying70, Try.sizeOf70, Try.isAgg70, Try.zeroValue70, Try.underlying57, Try.runUnderlying57, Try.sizeOf57, Try.isAgg57, Try.zeroValue57, Try.underlying54, Try.runUnderlying54, Try.sizeOf54, Try.isAgg54, Try.zeroValue54, Try.underlying52, Try.runUnderlying52, Try.sizeOf52, Try.isAgg52, Try.zeroValue52, Try.underlying74, Try.runUnderlying74, Try.sizeOf74, Try.isAgg74, Try.zeroValue74, Try.underlying55, Try.runUnderlying55, Try.sizeOf55, Try.isAgg55, Try.zeroValue55, Try.underlying75, Try.runUnderlying75, Try.sizeOf75, Try.isAgg75, Try.zeroValue75, Try.underlying87, Try.runUnderlying87, Try.sizeOf87, Try.isAgg87, Try.zeroValue87, Try.underlying89, Try.runUnderlying89, Try.sizeOf89, Try.isAgg89, Try.zeroValue89, Try.underlying0, Try.runUnderlying0, Try.sizeOf0, Try.isAgg0, Try.zeroValue0, Try.underlying3, Try.runUnderlying3, Try.sizeOf3, Try.isAgg3, Try.zeroValue3, Try.underlying4, Try.runUnderlying4, Try.sizeOf4, Try.isAgg4, Try.zeroValue4, Try.underlying9, Try.runUnderlying9, Try.sizeOf9, Try.isAgg9, Try.zeroValue9, Try.underlying20, Try.runUnderlying20, Try.sizeOf20, Try.isAgg20, Try.zeroValue20, Try.underlying21, Try.runUnderlying21, Try.sizeOf21, Try.isAgg21, Try.zeroValue21, (by kernel_rfl), (by kernel_rfl)⟩
end Go.Proofs
end

section
namespace Go.Sim
open Go
set_option maxRecDepth 100000
def o14_0 : List Oper := [
  ⟨none, .defer { callee := .value (.func 15), args := #[(.tmp 0)], argTypes := #[57] }, 0, "second.go:168", #[], none⟩]
def o14_1 : List Oper := [
  ⟨some 5, .load 47 (.tmp 1), 47, "second.go:169", #[], none⟩]
def o14_2 : List Oper := [
  ⟨some 6, .recv 47 (.tmp 5) true, 0, "second.go:169", #[], none⟩,
  ⟨some 7, .extract (.tmp 6) 1, 4, "second.go:169", #[{ on := 0, ground := .data }], none⟩]
def o14_3 : List Oper := [
  ⟨some 8, .extract (.tmp 6) 0, 3, "second.go:169", #[], none⟩,
  ⟨some 4, .assign (.tmp 8), 3, "second.go:169", #[{ on := 0, ground := .data }, { on := 0, ground := .phase }], none⟩]
def o14_4 : List Oper := [
  ⟨some 9, .load 22 (.tmp 3), 22, "second.go:170", #[], none⟩,
  ⟨some 10, .move (.tmp 4), 3, "second.go:170", #[], none⟩,
  ⟨some 11, .load 22 (.tmp 2), 22, "second.go:170", #[], none⟩,
  ⟨some 12, .move (.tmp 4), 3, "second.go:170", #[], none⟩,
  ⟨some 13, .indexAddr 22 (.tmp 11) (.tmp 12), 0, "second.go:170", #[{ on := 2, ground := .data }, { on := 3, ground := .data }], none⟩,
  ⟨some 14, .load 27 (.tmp 13), 27, "second.go:170", #[{ on := 4, ground := .data }], none⟩,
  ⟨some 15, .call { callee := .value (.func 16), args := #[(.tmp 14)], argTypes := #[27] }, 27, "second.go:170", #[{ on := 5, ground := .data }], none⟩,
  ⟨some 16, .indexAddr 22 (.tmp 9) (.tmp 10), 0, "second.go:170", #[{ on := 0, ground := .data }, { on := 1, ground := .data }, { on := 0, ground := .phase }, { on := 1, ground := .phase }, { on := 2, ground := .phase }, { on := 3, ground := .phase }, { on := 4, ground := .phase }, { on := 5, ground := .phase }, { on := 6, ground := .phase }], none⟩,
  ⟨none, .store 27 (.tmp 16) (.tmp 15), 0, "second.go:170", #[{ on := 7, ground := .data }, { on := 6, ground := .data }, { on := 6, ground := .chain }, { on := 0, ground := .phase }, { on := 1, ground := .phase }, { on := 2, ground := .phase }, { on := 3, ground := .phase }, { on := 4, ground := .phase }, { on := 5, ground := .phase }, { on := 6, ground := .phase }], none⟩]
def c14 : Code := .seq (.region 0 o14_0.toArray false) (.seq (.region 1 o14_1.toArray false) (.block 0 (.loop (.seq (.region 2 o14_2.toArray false) (.seq (.cond (.tmp 7) .skip (.exit 0)) (.block 1 (.seq (.region 3 o14_3.toArray false) (.region 4 o14_4.toArray true))))))))
theorem body14 : Proofs.Try.f14.body = some c14 := by kernel_rfl
def o7_0 : List Oper := [
  ⟨some 2, .box 22 (.tmp 0), 0, "second.go:155", #[], none⟩,
  ⟨some 4, .assign (.const (.slice none 0 0)), 27, "second.go:155", #[], none⟩,
  ⟨some 5, .assign (.const (.int .i64 0)), 24, "second.go:155", #[{ on := 1, ground := .chain }], none⟩]
def o7_1 : List Oper := [
  ⟨some 11, .move (.tmp 1), 3, "second.go:157", #[], none⟩,
  ⟨some 12, .binOp .lss 3 (.tmp 11) (.const (.int .i64 1)) 3, 4, "second.go:157", #[{ on := 0, ground := .data }], none⟩,
  ⟨some 13, .move (.tmp 12), 4, "second.go:157", #[{ on := 1, ground := .data }], none⟩,
  ⟨some 14, .move (.tmp 1), 3, "second.go:157", #[{ on := 2, ground := .guard }], some (2, false)⟩,
  ⟨some 15, .binOp .gtr 3 (.tmp 14) (.const (.int .i64 8)) 3, 4, "second.go:157", #[{ on := 3, ground := .data }, { on := 2, ground := .guard }], some (2, false)⟩,
  ⟨some 16, .pick (.tmp 13) (.const (.bool true)) (.tmp 15), 4, "second.go:157", #[{ on := 2, ground := .data }, { on := 4, ground := .data }], none⟩,
  ⟨some 10, .assign (.tmp 16), 4, "second.go:157", #[{ on := 5, ground := .data }, { on := 2, ground := .chain }], none⟩]
def o7_2 : List Oper := [
  ⟨some 4, .assign (.const (.slice none 0 0)), 27, "second.go:158", #[], none⟩,
  ⟨some 5, .assign (.const (.int .i64 1)), 24, "second.go:158", #[{ on := 0, ground := .chain }, { on := 0, ground := .phase }], none⟩]
def o7_3 : List Oper := [
  ⟨some 18, .load 22 (.tmp 2), 22, "second.go:159", #[], none⟩,
  ⟨some 19, .call { callee := .builtin .len, args := #[(.tmp 18)], argTypes := #[22] }, 3, "second.go:159", #[{ on := 0, ground := .data }], none⟩,
  ⟨some 20, .binOp .gtr 3 (.tmp 19) (.const (.int .i64 8)) 3, 4, "second.go:159", #[{ on := 1, ground := .data }], none⟩,
  ⟨some 17, .assign (.tmp 20), 4, "second.go:159", #[{ on := 2, ground := .data }], none⟩]
def o7_4 : List Oper := [
  ⟨some 4, .assign (.const (.slice none 0 0)), 27, "second.go:160", #[], none⟩,
  ⟨some 5, .assign (.const (.int .i64 2)), 24, "second.go:160", #[{ on := 0, ground := .chain }, { on := 0, ground := .phase }], none⟩]
def o7_5 : List Oper := [
  ⟨some 21, .load 22 (.tmp 2), 22, "second.go:162", #[], none⟩,
  ⟨some 22, .call { callee := .builtin .len, args := #[(.tmp 21)], argTypes := #[22] }, 3, "second.go:162", #[{ on := 0, ground := .data }], none⟩,
  ⟨some 23, .makeSlice 22 (.tmp 22) (.tmp 22), 22, "second.go:162", #[{ on := 1, ground := .data }, { on := 1, ground := .data }], none⟩,
  ⟨some 6, .alloc 22, 0, "second.go:162", #[], none⟩,
  ⟨none, .store 22 (.tmp 6) (.tmp 23), 0, "second.go:162", #[{ on := 3, ground := .data }, { on := 2, ground := .data }, { on := 0, ground := .phase }, { on := 1, ground := .phase }, { on := 2, ground := .phase }, { on := 3, ground := .phase }], none⟩]
def o7_6 : List Oper := [
  ⟨some 24, .makeChan 47 (.const (.int .i64 0)), 47, "second.go:163", #[], none⟩,
  ⟨some 7, .alloc 47, 0, "second.go:163", #[], none⟩,
  ⟨none, .store 47 (.tmp 7) (.tmp 24), 0, "second.go:163", #[{ on := 1, ground := .data }, { on := 0, ground := .data }, { on := 0, ground := .phase }, { on := 1, ground := .phase }], none⟩]
def o7_7 : List Oper := [
  ⟨some 8, .alloc 57, 0, "second.go:164", #[], none⟩]
def o7_8 : List Oper := [
  ⟨some 25, .move (.tmp 1), 3, "second.go:165", #[], none⟩,
  ⟨some 26, .move (.const (.int .i64 0)), 3, "second.go:165", #[], none⟩]
def o7_9 : List Oper := [
  ⟨some 27, .binOp .lss 3 (.tmp 26) (.tmp 25) 3, 4, "second.go:165", #[], none⟩]
def o7_10 : List Oper := [
  ⟨some 28, .call { callee := .value (.func 13), args := #[(.tmp 8), (.const (.int .i64 1))], argTypes := #[57, 3] }, 0, "second.go:166", #[], none⟩]
def o7_11 : List Oper := [
  ⟨some 29, .makeFunc (.func 14) #[] #[(.tmp 8), (.tmp 7), (.tmp 2), (.tmp 6)], 1, "second.go:167", #[], none⟩,
  ⟨none, .go { callee := .value (.tmp 29), args := #[], argTypes := #[] }, 0, "second.go:167", #[{ on := 0, ground := .data }], none⟩]
def o7_12 : List Oper := [
  ⟨some 30, .binOp .add 3 (.tmp 26) (.const (.int .i64 1)) 3, 3, "second.go:165", #[], none⟩,
  ⟨some 26, .move (.tmp 30), 3, "second.go:165", #[{ on := 0, ground := .data }], none⟩]
def o7_13 : List Oper := [
  ⟨some 31, .load 22 (.tmp 2), 22, "second.go:174", #[], none⟩,
  ⟨some 32, .call { callee := .builtin .len, args := #[(.tmp 31)], argTypes := #[22] }, 3, "second.go:174", #[{ on := 0, ground := .data }], none⟩,
  ⟨some 33, .move (.const (.int .i64 0)), 3, "second.go:174", #[], none⟩]
def o7_14 : List Oper := [
  ⟨some 34, .binOp .lss 3 (.tmp 33) (.tmp 32) 3, 0, "second.go:174", #[], none⟩]
def o7_15 : List Oper := [
  ⟨some 35, .move (.tmp 33), 3, "second.go:174", #[], none⟩,
  ⟨some 9, .assign (.tmp 35), 3, "second.go:174", #[{ on := 0, ground := .data }, { on := 0, ground := .phase }], none⟩]
def o7_16 : List Oper := [
  ⟨some 36, .load 47 (.tmp 7), 47, "second.go:175", #[], none⟩,
  ⟨some 37, .move (.tmp 9), 3, "second.go:175", #[], none⟩,
  ⟨none, .send (.tmp 36) (.tmp 37), 0, "second.go:175", #[{ on := 0, ground := .data }, { on := 1, ground := .data }], none⟩]
def o7_17 : List Oper := [
  ⟨some 38, .binOp .add 3 (.tmp 33) (.const (.int .i64 1)) 3, 3, "second.go:174", #[], none⟩,
  ⟨some 33, .move (.tmp 38), 3, "second.go:174", #[{ on := 0, ground := .data }], none⟩]
def o7_18 : List Oper := [
  ⟨some 39, .load 47 (.tmp 7), 47, "second.go:177", #[], none⟩,
  ⟨none, .call { callee := .builtin .close, args := #[(.tmp 39)], argTypes := #[47] }, 0, "second.go:177", #[{ on := 0, ground := .data }], none⟩]
def o7_19 : List Oper := [
  ⟨some 40, .call { callee := .value (.func 17), args := #[(.tmp 8)], argTypes := #[57] }, 0, "second.go:178", #[], none⟩]
def o7_20 : List Oper := [
  ⟨some 41, .load 22 (.tmp 6), 22, "second.go:179", #[], none⟩,
  ⟨some 42, .call { callee := .value (.func 18), args := #[(.tmp 41)], argTypes := #[22] }, 27, "second.go:179", #[{ on := 0, ground := .data }], none⟩,
  ⟨some 43, .call { callee := .value (.func 16), args := #[(.tmp 42)], argTypes := #[27] }, 27, "second.go:179", #[{ on := 1, ground := .data }, { on := 1, ground := .chain }], none⟩,
  ⟨some 4, .assign (.tmp 43), 27, "second.go:179", #[{ on := 2, ground := .data }, { on := 2, ground := .chain }, { on := 0, ground := .phase }, { on := 1, ground := .phase }, { on := 2, ground := .phase }], none⟩,
  ⟨some 5, .assign (.const (.int .i64 0)), 24, "second.go:179", #[{ on := 3, ground := .chain }, { on := 0, ground := .phase }, { on := 1, ground := .phase }, { on := 2, ground := .phase }, { on := 3, ground := .phase }], none⟩]
def c7 : Code := .seq (.region 0 o7_0.toArray false) (.seq (.block 0 (.seq (.region 1 o7_1.toArray false) (.cond (.tmp 10) (.seq (.region 2 o7_2.toArray false) .ret) (.seq (.region 3 o7_3.toArray false) (.cond (.tmp 17) (.seq (.region 4 o7_4.toArray false) .ret) .skip))))) (.seq (.region 5 o7_5.toArray false) (.seq (.region 6 o7_6.toArray false) (.seq (.region 7 o7_7.toArray false) (.seq (.seq (.region 8 o7_8.toArray false) (.block 1 (.loop (.seq (.region 9 o7_9.toArray false) (.seq (.cond (.tmp 27) .skip (.exit 1)) (.seq (.block 2 (.seq (.region 10 o7_10.toArray false) (.region 11 o7_11.toArray false))) (.region 12 o7_12.toArray false))))))) (.seq (.seq (.region 13 o7_13.toArray false) (.block 3 (.loop (.seq (.region 14 o7_14.toArray false) (.seq (.cond (.tmp 34) .skip (.exit 3)) (.seq (.block 4 (.seq (.region 15 o7_15.toArray false) (.region 16 o7_16.toArray false))) (.region 17 o7_17.toArray false))))))) (.seq (.region 18 o7_18.toArray false) (.seq (.region 19 o7_19.toArray false) (.seq (.region 20 o7_20.toArray false) .ret)))))))))
theorem body7 : Proofs.Try.f7.body = some c7 := by kernel_rfl
end Go.Sim
end

section
set_option linter.unusedVariables false
set_option linter.unusedSimpArgs false
namespace Go.Sim
open Go Go.Conc
open Go.ConcN (WgLive)
open Go.ConcR (KK WgAt stA smA rd wr DC0)

/-- What one run of Collect has to do with. -/
structure CD where
  m0 : Machine
  b0 : Nat
  W : Nat
  Low : Nat
  C : Nat
  Ch : Nat
  Wg : Nat
  w0 : World
  /-- the boxes: stations, lists, next -/
  bS : Nat
  bL : Nat
  bN : Nat
  vS : Value
  vL : Value
  H0 : Hp
  st : List (List S_api_TelemetryMsg)
  /-- the caller -/
  cf : Frame
  cs : List Frame

noncomputable abbrev CPR : Program := Proofs.Try.prog
def rest2 : Code := .seq (.cond (.tmp 7) .skip (.exit 0)) (.block 1 (.seq (.region 3 o14_3.toArray false) (.region 4 o14_4.toArray true)))
def loop14 : Code := .seq (.region 2 o14_2.toArray false) rest2
theorem c14_eq : c14 = .seq (.region 0 o14_0.toArray false) (.seq (.region 1 o14_1.toArray false) (.block 0 (.loop loop14))) := rfl
noncomputable def bot : Frame := { (default : Frame) with fn := CPR.funcs.size, defers := [], mode := .panicking [goexitEntry] }
def b14 : Frame := baseD 14

namespace CD
variable (d : CD)
def n : Nat := d.st.length
def D14 : List Deferred := [dcall 15 #[.pointer (some ⟨d.Wg, 0, none⟩)]]
/-- Result i, as a worker has it. -/
def Base (k i : Nat) (v : Value) (w : World) : Prop :=
  ∃ l r qxs, d.st[i]? = some l ∧ m_second_taken l = some r ∧ OwnsR w 29 4 v r.length qxs ∧ RwF v qxs r ∧ ∀ b, v.ownBlock = some b → Mk CPR d.m0 (d.b0 + k) b ∧ d.Low ≤ b ∧ b < w.heap.size
/-- What stands as it stood. -/
def R (b : Nat) : Prop := b < d.Low ∧ b ≠ d.Wg ∧ b ≠ d.Ch ∧ b ≠ d.C ∧ ¬ Gp CPR d.m0 b
structure RK (w : World) : Prop where
  same : Same d.w0 w
  size : d.Low ≤ w.heap.size
  heap : ∀ b, d.R b → w.heap[b]? = d.w0.heap[b]?
  live : WgLive 57 d.Wg w
/-- The worker's frame: the four that it has captured, the channel. -/
structure TK (T : Array Value) : Prop where
  size : T.size = 17
  t0 : T[0]? = some (.pointer (some ⟨d.Wg, 0, none⟩))
  t1 : T[1]? = some (.pointer (some ⟨d.bN, 0, none⟩))
  t2 : T[2]? = some (.pointer (some ⟨d.bS, 0, none⟩))
  t3 : T[3]? = some (.pointer (some ⟨d.bL, 0, none⟩))
  t5 : T[5]? = some (.chan (some d.Ch))
/-- The weakest company: nobody's blocks are mine. -/
def cN : Bs CPR := ⟨false, fun _ => False, fun _ => False, d.w0, fun _ _ _ => False, WgLive 57 d.Wg, fun _ => False⟩
def cW (k B : Nat) : Bs CPR := ⟨false, fun b => Mk CPR d.m0 k b ∧ B ≤ b, d.R, d.w0, fun _ _ _ => False, WgLive 57 d.Wg, fun _ => False⟩
/-- A worker's stops (without what stands all along). -/
def S0 (k : Nat) : WTag → Goroutine → World → Prop
  | .recv => fun g w => d.b0 ≤ k ∧ ∃ T, d.TK T ∧ g = G (b14.at ⟨T, d.D14⟩ (.inRegion o14_2.toArray [0, 1] :: [.code rest2, .inLoop loop14, .inBlock 0])) [bot]
  | .work m => fun g w => d.b0 ≤ k ∧ ∃ T v, d.TK T ∧ T[16]? = some (.pointer (some ⟨d.C, m, none⟩)) ∧ T[15]? = some v ∧ d.Base (k - d.b0) m v w ∧
      g = G (b14.at ⟨T, d.D14⟩ (.inRegion o14_4.toArray [8] :: [.inBlock 1, .inLoop loop14, .inBlock 0])) [bot]
  | .r0 => Go.Wgw.R0s Proofs.Try.link d.Wg d.cN
  | .k1 _ => Go.Wgw.K1s Proofs.Try.link d.Wg d.cN
  | .d1 _ => Go.Wgw.D1s Proofs.Try.link d.Wg d.cN
  | .d2 _ => Go.Wgw.D2s Proofs.Try.link d.Wg d.cN
  | .d3 _ => Go.Wgw.D3s Proofs.Try.link d.Wg d.cN
  | .d4 _ => Go.Wgw.D4s (P := CPR) Proofs.Try.link d.Wg
  | _ => fun _ _ => False
/-- A worker's stops. -/
def S (k : Nat) : WTag → Goroutine → World → Prop
  | .recv => fun g w => d.S0 k .recv g w ∧ d.RK w
  | .work m => fun g w => d.S0 k (.work m) g w ∧ d.RK w
  | t => d.S0 k t
/-- Where the blocks lie, what stands in the boxes. -/
structure Ok : Prop where
  hH : ∀ b o, d.H0 b = some o → d.R b ∧ d.w0.heap[b]? = some o
  box1 : d.H0 d.bS = some (.cells #[d.vS] 22)
  box2 : d.H0 d.bL = some (.cells #[d.vL] 22)
  box3 : d.H0 d.bN = some (.cells #[.chan (some d.Ch)] 47)
  rS : RdS d.H0 d.vS d.st
  vL : d.vL = .slice (some ⟨d.C, 0, none⟩) d.n d.n
  low : d.Low ≤ d.w0.heap.size
  nb : d.n ≤ 8
  tk : ∀ l, l ∈ d.st → ∃ r, m_second_taken l = some r
  hW : d.Wg < d.Low
  hC : d.C < d.Low
  hCW : d.C ≠ d.Wg
  hCh : d.Ch < d.Low
  hChW : d.Ch ≠ d.Wg
  hCCh : d.C ≠ d.Ch
  gC : ¬ Gp CPR d.m0 d.C
  gW : Gp CPR d.m0 d.Wg
  b1 : 1 ≤ d.b0
  W1 : 1 ≤ d.W
  W2 : d.W ≤ 8
end CD

theorem array17 (T : Array Value) (h : T.size = 17) : ∃ v0 v1 v2 v3 v4 v5 v6 v7 v8 v9 v10 v11 v12 v13 v14 v15 v16 : Value, T = #[v0, v1, v2, v3, v4, v5, v6, v7, v8, v9, v10, v11, v12, v13, v14, v15, v16] := by
  obtain ⟨l⟩ := T
  simp only [List.size_toArray] at h
  rcases l with _ | ⟨v0, l⟩
  · simp at h
  rcases l with _ | ⟨v1, l⟩
  · simp at h
  rcases l with _ | ⟨v2, l⟩
  · simp at h
  rcases l with _ | ⟨v3, l⟩
  · simp at h
  rcases l with _ | ⟨v4, l⟩
  · simp at h
  rcases l with _ | ⟨v5, l⟩
  · simp at h
  rcases l with _ | ⟨v6, l⟩
  · simp at h
  rcases l with _ | ⟨v7, l⟩
  · simp at h
  rcases l with _ | ⟨v8, l⟩
  · simp at h
  rcases l with _ | ⟨v9, l⟩
  · simp at h
  rcases l with _ | ⟨v10, l⟩
  · simp at h
  rcases l with _ | ⟨v11, l⟩
  · simp at h
  rcases l with _ | ⟨v12, l⟩
  · simp at h
  rcases l with _ | ⟨v13, l⟩
  · simp at h
  rcases l with _ | ⟨v14, l⟩
  · simp at h
  rcases l with _ | ⟨v15, l⟩
  · simp at h
  rcases l with _ | ⟨v16, l⟩
  · simp at h
  rcases l with _ | ⟨x, l⟩
  · exact ⟨v0, v1, v2, v3, v4, v5, v6, v7, v8, v9, v10, v11, v12, v13, v14, v15, v16, rfl⟩
  · simp at h

section
variable {d : CD}
theorem CD.RK.oth {c : Bs CPR} {w w1 : World} (hR : c.R = d.R) (hI : c.I = WgLive 57 d.Wg) (h : d.RK w) (o : Oth c w w1) : d.RK w1 :=
  ⟨⟨o.tape.trans h.same.tape, o.os.trans h.same.os, o.output.trans h.same.output⟩, Nat.le_trans h.size o.size, fun b hb => (o.block b (.inr (by rw [hR]; exact hb))).trans (h.heap b hb), by have := o.inv; rw [hI] at this; exact this h.live⟩
/-- The state in which a worker's contract begins. -/
theorem CD.RK.st (O : d.Ok) {w : World} (h : d.RK w) {k B : Nat} : St d.Low (d.cW k B) d.H0 [] w :=
  ⟨h.same, h.size, fun b o hb => (h.heap b (O.hH b o hb).1).trans (O.hH b o hb).2, by simp, by simp, by simp, fun b o hb => .inr (O.hH b o hb).1, by simp, fun b hb => hb.1⟩
/-- My own steps do not touch it. -/
theorem CD.RK.did (O : d.Ok) {c : Bs CPR} (hK : ∀ b, c.K b → d.Low ≤ b) {w w1 : World} {es : Array Event} (h : d.RK w) (D : DidX c w w1 es) : d.RK w1 :=
  ⟨⟨D.tape.trans h.same.tape, D.os.trans h.same.os, D.output.trans h.same.output⟩, Nat.le_trans h.size D.size, fun b hb => (D.block b (Nat.lt_of_lt_of_le hb.1 h.size) (fun x => absurd (hK b x) (by have := hb.1; omega))).trans (h.heap b hb),
    live_of_block (D.block d.Wg (Nat.lt_of_lt_of_le O.hW h.size) (fun x => absurd (hK _ x) (by have := O.hW; omega))) h.live⟩
/-- What stands all along a walk. -/
theorem Walks.keep {P : Program} {c : Bs P} {Stop : Goroutine → World → Prop} {V : World → Prop} (ho : ∀ w w1, Oth c w w1 → V w → V w1) (hd : ∀ w w1 es, DidX c w w1 es → V w → V w1) (hJ : ∀ g w S, ¬ c.J g w S) {g : Goroutine} {w : World} (h : Walks c Stop g w) :
    V w → Walks c (fun g w => Stop g w ∧ V w) g w := by
  induction h with
  | stop h => exact fun hv => .stop fun w1 h1 => ⟨h w1 h1, ho _ _ h1 hv⟩
  | jump S hj k ih => exact absurd (hj _ (Oth.refl _)) (hJ _ _ _)
  | step ng nw ne hs hf h d k ih => exact fun hv => .step ng nw ne hs hf h d fun w1 h1 n => ih w1 h1 n (hd _ _ _ (d w1 h1 n) (ho _ _ h1 hv))
theorem CD.keepW (O : d.Ok) {k B : Nat} (hB : d.Low ≤ B) {Stop : Goroutine → World → Prop} {g : Goroutine} {w : World} (h : Walks (d.cW k B) Stop g w) (hR : d.RK w) : Walks (d.cW k B) (fun g w => Stop g w ∧ d.RK w) g w :=
  Walks.keep (V := d.RK) (fun _ _ o r => CD.RK.oth (c := d.cW k B) rfl rfl r o) (fun _ _ _ D r => CD.RK.did O (c := d.cW k B) (fun b hb => Nat.le_trans hB (show Mk CPR d.m0 k b ∧ B ≤ b from hb).2) r D) (fun _ _ _ x => x) h hR
theorem goes_rel {P : Program} {main : Bool} {R R' : World → World → Prop} {D : World → World → Array Event → Prop} {Stop : Goroutine → World → Prop} (h : ∀ w w1, R' w w1 → R w w1) : ∀ {n : Nat} {g : Goroutine} {w : World}, Goes P main R D Stop n g w → Goes P main R' D Stop n g w
  | 0, g, w, k => fun w1 h1 => k w1 (h _ _ h1)
  | n + 1, g, w, k => by
    rcases k with k | ⟨hs, k⟩
    · exact .inl fun w1 h1 => k w1 (h _ _ h1)
    · refine .inr ⟨hs, fun w1 h1 => ?_⟩
      have := k w1 (h _ _ h1)
      revert this
      cases stepG P main g w1 <;> simp only [GStep.goes] <;> intro x
      · exact ⟨x.1, goes_rel h x.2⟩
      all_goals exact x.elim
end
end Go.Sim
end

section
set_option linter.unusedVariables false
set_option linter.unusedSimpArgs false
namespace Go.Sim
open Go Go.Conc

section
variable {P : Program} {x : Cx P} {Q : Post} {H : Hp} {M : List Res} {L : Env} {l : List Oper} {T : Array Value} {D : List Deferred} {w : World} {b : Frame} {k : List Item} {cs : List Frame} {Stop : Goroutine → World → Prop} {id : Nat}
theorem reg_on (h : W x l.toArray Q l H M L) (hs : Sl x.N L ⟨T, []⟩) (ht : St x.B x.w0 H M w) (hk : b.kind ≠ .early) (hc : ∀ T' w', Q .normal ⟨T', []⟩ w' → Walks x.w0 Stop (G (b.at ⟨T', D⟩ k) cs) w') :
    Walks x.w0 Stop (G (b.at ⟨T, D⟩ (.code (.region id l.toArray false) :: k)) cs) w := by
  refine Walks.move rfl (fun w1 => stepG_region) fun w1 h1 => Walks.rely ?_ h1
  have h0 := opsK_of_list (c := x.w0) (Q := Q) (l := l) 0 ⟨T, []⟩ w (by simpa using h _ _ hs ht)
  have h1 := opsK_defers (D := D) (Q' := fun e a w => ∃ T', a = ⟨T', D⟩ ∧ Q e ⟨T', []⟩ w) (fun T w h => ⟨T, rfl, h⟩) _ T w h0
  have e : List.range' 0 (l.length - 0) = List.range l.toArray.size := by simp [List.range_eq_range']
  rw [e] at h1
  refine walks_ops_on _ _ _ h1 b k cs Stop hk fun a' w' hq => ?_
  obtain ⟨T', rfl, hq⟩ := hq
  exact Walks.move rfl (fun w1 => stepG_region_end) fun w1 h1 => (hc T' w' hq).rely h1

theorem draw_on {o : Oper} {ops' : Array Oper} (hops : ops' = l.toArray.push o) (hmix : P.follows .mixedOrders = true) (hac : ∀ (i : Nat) (p : Oper), l[i]? = some p → (∀ e ∈ p.after, e.on < i) ∧ p.guard = none) (hall : ∀ i, i < l.length → ∃ e ∈ o.after, Region.binds .any e = true ∧ e.on = i) (hlo : ∀ e ∈ o.after, e.on < l.length)
    (h : ∀ w1, Oth x.w0 w w1 → anyK x.w0 .any l.toArray Q l.toArray.size (Array.replicate l.toArray.size false) ⟨T, []⟩ { w1 with drawn := w1.drawn + 1 }) (hk : b.kind ≠ .early)
    (hc : ∀ T' w', Q .normal ⟨T', []⟩ w' → Walks x.w0 Stop (G (b.at ⟨T', D⟩ (.inRegion ops' [l.length] :: k)) cs) w') :
    Walks x.w0 Stop (G (b.at ⟨T, D⟩ (.code (.region id ops' true) :: k)) cs) w := by
  subst hops
  refine Walks.step' rfl rfl fun w1 h1 => ?_
  rw [stepG_region_draw]
  refine fun _ => ⟨DidX.draw _, ?_⟩
  simp only [Region.schedule, hmix, Bool.true_or, if_true]
  generalize w1.tape w1.drawn (.order b.fn id) = t
  have e : Region.linearise .any (l.toArray.push o) t = Region.linearise .any l.toArray t ++ [l.length] := by
    unfold Region.linearise
    have hr : Array.replicate (l.toArray.push o).size false = (Array.replicate l.toArray.size false).push false := by
      rw [Array.size_push, Array.replicate_succ]
    rw [hr, Array.size_push]
    have := lin_tail (l := l.toArray) (o := o) (fun i p hp => (hac i p (by simpa using hp)).1) (fun i hi => hall i (by simpa using hi)) (fun e he => by simpa using hlo e he) l.toArray.size t (Array.replicate l.toArray.size false) [] (by simp) (by
      refine Nat.le_trans (List.length_filter_le _ _) ?_
      simp)
    simpa using this
  rw [e]
  have h0 := anyK_sound l.toArray.size t _ _ _ (h w1 h1)
  have h1 := opsK_defers (D := D) (Q' := fun e a w => ∃ T', a = ⟨T', D⟩ ∧ Q e ⟨T', []⟩ w) (fun T w h => ⟨T, rfl, h⟩) _ T _ h0
  refine walks_ops_tail (fun i p hp => ⟨?_, (hac i p (by simpa using hp)).2⟩) _ _ _ h1 b k cs Stop hk fun a' w' hq => ?_
  · have hlt := (Array.getElem?_eq_some_iff.1 hp).1
    rw [Array.getElem?_push_lt hlt, ← Array.getElem?_eq_getElem]
    exact hp
  · obtain ⟨T', rfl, hq⟩ := hq
    exact hc T' w' hq
end

/-- Region 4's operations ahead of the store, and the store. -/
def l4 : List Oper := [
  ⟨some 9, .load 22 (.tmp 3), 22, "second.go:170", #[], none⟩,
  ⟨some 10, .move (.tmp 4), 3, "second.go:170", #[], none⟩,
  ⟨some 11, .load 22 (.tmp 2), 22, "second.go:170", #[], none⟩,
  ⟨some 12, .move (.tmp 4), 3, "second.go:170", #[], none⟩,
  ⟨some 13, .indexAddr 22 (.tmp 11) (.tmp 12), 0, "second.go:170", #[{ on := 2, ground := .data }, { on := 3, ground := .data }], none⟩,
  ⟨some 14, .load 27 (.tmp 13), 27, "second.go:170", #[{ on := 4, ground := .data }], none⟩,
  ⟨some 15, .call { callee := .value (.func 16), args := #[(.tmp 14)], argTypes := #[27] }, 27, "second.go:170", #[{ on := 5, ground := .data }], none⟩,
  ⟨some 16, .indexAddr 22 (.tmp 9) (.tmp 10), 0, "second.go:170", #[{ on := 0, ground := .data }, { on := 1, ground := .data }, { on := 0, ground := .phase }, { on := 1, ground := .phase }, { on := 2, ground := .phase }, { on := 3, ground := .phase }, { on := 4, ground := .phase }, { on := 5, ground := .phase }, { on := 6, ground := .phase }], none⟩]
def o8 : Oper := ⟨none, .store 27 (.tmp 16) (.tmp 15), 0, "second.go:170", #[{ on := 7, ground := .data }, { on := 6, ground := .data }, { on := 6, ground := .chain }, { on := 0, ground := .phase }, { on := 1, ground := .phase }, { on := 2, ground := .phase }, { on := 3, ground := .phase }, { on := 4, ground := .phase }, { on := 5, ground := .phase }, { on := 6, ground := .phase }], none⟩
theorem ops4_eq : o14_4.toArray = l4.toArray.push o8 := rfl
theorem l4_ok : ∀ (i : Nat) (p : Oper), l4[i]? = some p → (∀ e ∈ p.after, e.on < i) ∧ p.guard = none := by
  intro i p hp
  have hlt : i < 8 := by have := (List.getElem?_eq_some_iff.1 hp).1; simpa [l4] using this
  match i, hlt, hp with
  | 0, _, hp | 1, _, hp | 2, _, hp | 3, _, hp | 4, _, hp | 5, _, hp | 6, _, hp | 7, _, hp =>
    simp [l4] at hp
    subst hp
    simp
theorem o8_all : ∀ i, i < l4.length → ∃ e ∈ o8.after, Region.binds .any e = true ∧ e.on = i := by
  intro i hi
  have hlt : i < 8 := by simpa [l4] using hi
  match i, hlt with
  | 0, _ => exact ⟨{ on := 0, ground := .phase }, by simp [o8], by rfl, rfl⟩
  | 1, _ => exact ⟨{ on := 1, ground := .phase }, by simp [o8], by rfl, rfl⟩
  | 2, _ => exact ⟨{ on := 2, ground := .phase }, by simp [o8], by rfl, rfl⟩
  | 3, _ => exact ⟨{ on := 3, ground := .phase }, by simp [o8], by rfl, rfl⟩
  | 4, _ => exact ⟨{ on := 4, ground := .phase }, by simp [o8], by rfl, rfl⟩
  | 5, _ => exact ⟨{ on := 5, ground := .phase }, by simp [o8], by rfl, rfl⟩
  | 6, _ => exact ⟨{ on := 6, ground := .phase }, by simp [o8], by rfl, rfl⟩
  | 7, _ => exact ⟨{ on := 7, ground := .data }, by simp [o8], by rfl, rfl⟩
theorem o8_low : ∀ e ∈ o8.after, e.on < l4.length := by
  intro e he
  simp [o8] at he
  simp only [l4, List.length_cons, List.length_nil]
  rcases he with rfl | rfl | rfl | rfl | rfl | rfl | rfl | rfl | rfl | rfl <;> simp
end Go.Sim
end

section
set_option linter.unusedVariables false
set_option linter.unusedSimpArgs false
set_option maxRecDepth 100000
set_option maxHeartbeats 4000000
namespace Go.Sim
open Go Go.Conc Go.Proofs.Try
open Go.ConcN (WgLive)

theorem box_cell {H : Hp} {b : Nat} {v : Value} {T : TypeId} {fz : Nat × Nat} (h : H b = some (.cells #[v] T fz)) : HCell H ⟨b, 0, none⟩ v := ⟨_, _, _, h, rfl, rfl⟩
/-- What the worker's frame holds. -/
def CD.L0 (d : CD) (m : Nat) : Env := [(0, .pointer (some ⟨d.Wg, 0, none⟩)), (1, .pointer (some ⟨d.bN, 0, none⟩)), (2, .pointer (some ⟨d.bS, 0, none⟩)), (3, .pointer (some ⟨d.bL, 0, none⟩)), (4, .int .i64 m), (5, .chan (some d.Ch))]
theorem CD.TK.sl {d : CD} {T : Array Value} (h : d.TK T) {m : Nat} (h4 : T[4]? = some (.int .i64 m)) : Sl 17 (d.L0 m) ⟨T, []⟩ := by
  refine ⟨h.size, rfl, fun t v hl => ?_⟩
  simp only [CD.L0, lk_cons] at hl
  by_cases e0 : (0 : Nat) = t
  · rw [if_pos e0] at hl; subst e0; rw [← hl]; exact h.t0
  rw [if_neg e0] at hl
  by_cases e1 : (1 : Nat) = t
  · rw [if_pos e1] at hl; subst e1; rw [← hl]; exact h.t1
  rw [if_neg e1] at hl
  by_cases e2 : (2 : Nat) = t
  · rw [if_pos e2] at hl; subst e2; rw [← hl]; exact h.t2
  rw [if_neg e2] at hl
  by_cases e3 : (3 : Nat) = t
  · rw [if_pos e3] at hl; subst e3; rw [← hl]; exact h.t3
  rw [if_neg e3] at hl
  by_cases e4 : (4 : Nat) = t
  · rw [if_pos e4] at hl; subst e4; rw [← hl]; exact h4
  rw [if_neg e4] at hl
  by_cases e5 : (5 : Nat) = t
  · rw [if_pos e5] at hl; subst e5; rw [← hl]; exact h.t5
  rw [if_neg e5] at hl
  cases hl

/-- What stands once the region has come to its store. -/
def CD.Q4 (d : CD) (k B m : Nat) (r : List S_api_TelemetryMsg) : Post := fun e a w => e = .normal ∧ ∃ M' qv qxs, Sl 17 ((16, .pointer (some ⟨d.C, m, none⟩)) :: (15, qv) :: d.L0 m) a ∧ St d.Low (d.cW k B) d.H0 M' w ∧ .row qv 29 4 r.length qxs ∈ M' ∧ RwF qv qxs r

theorem draw4 {d : CD} (O : d.Ok) {k B m : Nat} {l r : List S_api_TelemetryMsg} (hl : d.st[m]? = some l) (hr : m_second_taken l = some r) {T : Array Value} (hT : d.TK T) (h4 : T[4]? = some (.int .i64 m)) {w : World} (hR : d.RK w) :
    ∀ w1, Oth (d.cW k B) w w1 → anyK (d.cW k B) .any l4.toArray (d.Q4 k B m r) l4.toArray.size (Array.replicate l4.toArray.size false) ⟨T, []⟩ { w1 with drawn := w1.drawn + 1 } := by
  have hlt : m < d.n := (List.getElem?_eq_some_iff.1 hl).1
  obtain ⟨vm, hvm⟩ : ∃ vm, ∃ cs, Rep.E (α := List S_api_TelemetryMsg) d.H0 cs l ∧ cs = [vm] ∧ RdS d.H0 vm l ∧ HCells d.H0 ((Value.base d.vS).add (m * 1)) cs := by
    obtain ⟨cs, hE, hc⟩ := O.rS.elem hl
    obtain ⟨v, rfl, hv⟩ := hE
    exact ⟨v, _, ⟨v, rfl, hv⟩, rfl, hv, hc⟩
  obtain ⟨cs, hE, rfl, hv, hc⟩ := hvm
  have hm0 : (0 : Int) ≤ (m : Int) := Int.natCast_nonneg _
  refine any_tok (x := ⟨17, d.Low, d.cW k B⟩) (L := d.L0 m) (M := []) (H := d.H0) (Q := d.Q4 k B m r) 7 (phiT [ph d.vL, ph (.int .i64 m), ph d.vS, ph (.int .i64 m), ph (.pointer (some ((Value.base d.vS).add (m * 1)))), ph vm, (fun _ rs v => ∃ qxs, [.row v 29 4 r.length qxs] = rs ∧ RwF v qxs r)])
    (nn 7) (nn 7) [] (List.range 7) (d.L0 m) [] fm (by kernel_rfl) (by rfl) (by rfl) (by unfold extraB; simp) (fun _ _ h => h) trivial (by rfl) (by kernel_rfl) (phiT_mono (by exact ma)) ?_ ?_ ⟨T, []⟩ w (hT.sl h4) (hR.st O)
  · refine ⟨?_, ?_, ?_, ?_, ?_, ?_, ?_, trivial⟩
    · intro HX hX X Rest hRs hU hUp
      refine W_load rfl rfl isAgg22 rfl (HCell.mono hX (box_cell O.box2)).at ?_
      exact o0 ⟨rfl, rfl⟩
    · intro HX hX X Rest hRs hU hUp
      refine W_move rfl rfl rfl ?_
      exact o0 ⟨rfl, rfl⟩
    · intro HX hX X Rest hRs hU hUp
      refine W_load rfl rfl isAgg22 rfl (HCell.mono hX (box_cell O.box1)).at ?_
      exact o0 ⟨rfl, rfl⟩
    · intro HX hX X Rest hRs hU hUp
      refine W_move rfl rfl rfl ?_
      exact o0 ⟨rfl, rfl⟩
    · intro HX hX X Rest hRs
      rintro _ _ ⟨rfl, rfl⟩
      rintro _ _ ⟨rfl, rfl⟩
      intro hU hUp
      refine W_indexS rfl rfl runUnderlying22 sizeOf27 rfl (RdS.mono hX O.rS) rfl hm0 hl ?_
      exact o0 ⟨rfl, rfl⟩
    · intro HX hX X Rest hRs
      rintro _ _ ⟨rfl, rfl⟩
      intro hU hUp
      refine W_load rfl rfl isAgg27 rfl (HCells.one (HCells.mono hX hc) 0 rfl).at ?_
      exact o0 ⟨rfl, rfl⟩
    · intro HX hX X Rest hRs
      rintro _ _ ⟨rfl, rfl⟩
      intro hU hUp
      refine W_call call16 rfl rfl rfl (fun w ht => m_second_taken_c (hm := hr) (RdS.mono hX hv) ht) ?_
      rintro _ _ _ ⟨rfl, qv, qxs, rfl, rfl, hw⟩
      exact oe [_] (Hp.le_refl _) ⟨qxs, rfl, hw⟩
  · intro H' hle
    rintro _ _ ⟨rfl, rfl⟩
    rintro _ _ ⟨rfl, rfl⟩
    rintro _ _ ⟨rfl, rfl⟩
    rintro _ _ ⟨rfl, rfl⟩
    rintro _ _ ⟨rfl, rfl⟩
    rintro _ _ ⟨rfl, rfl⟩
    rintro qv _ ⟨qxs, rfl, hw⟩
    refine W_indexA rfl rfl runUnderlying22 sizeOf27 (ad := ⟨d.C, 0, none⟩) (n := d.n) (m := d.n) ((show _ = some d.vL from rfl).trans (congrArg some O.vL)) rfl hm0 hlt ?_
    refine W_end ?_
    intro a w hs ht
    have ead : (⟨d.C, 0, none⟩ : Addr).add ((m : Int).toNat * 1) = ⟨d.C, m, none⟩ := by
      unfold Addr.add
      simp only [Int.toNat_natCast, Nat.mul_one, Nat.zero_add]
      split
      · rename_i e; rw [e]
      · rfl
    rw [ead] at hs
    refine ⟨rfl, _, qv, qxs, hs.keep ?_, ht.weak hle, List.mem_cons_self .., hw⟩
    exact ⟨rfl, rfl, rfl, rfl, rfl, rfl, rfl, rfl, trivial⟩
end Go.Sim
end

section
set_option linter.unusedVariables false
set_option linter.unusedSimpArgs false
set_option maxRecDepth 100000
set_option maxHeartbeats 4000000
namespace Go.Sim
open Go Go.Conc Go.Proofs.Try
open Go.ConcN (WgLive)
open Go.ConcR (KK WgAt stA smA rd wr DC0)

section
variable {P : Program} {c : Bs P} {Stop : Goroutine → World → Prop} {g g' : Goroutine} {w : World}
theorem mv (hs : g.status = .running) (h : ∀ w1, stepG P c.main g w1 = .go g' w1 #[]) (k : Walks c Stop g' w) : Walks c Stop g w := Walks.move hs h fun w1 h1 => k.rely h1
variable {x : Cx P} {Q : Post} {H : Hp} {M : List Res} {L : Env} {l : List Oper} {T : Array Value} {D : List Deferred} {b : Frame} {k : List Item} {cs : List Frame}
/-- The rest of a region, from operation n on. -/
theorem reg_from (n : Nat) (h : W x l.toArray Q (l.drop n) H M L) (hs : Sl x.N L ⟨T, []⟩) (ht : St x.B x.w0 H M w) (hk : b.kind ≠ .early) (hc : ∀ T' w', Q .normal ⟨T', []⟩ w' → Walks x.w0 Stop (G (b.at ⟨T', D⟩ k) cs) w') :
    Walks x.w0 Stop (G (b.at ⟨T, D⟩ (.inRegion l.toArray (List.range' n (l.length - n)) :: k)) cs) w := by
  have h0 := opsK_of_list (c := x.w0) (Q := Q) (l := l) n ⟨T, []⟩ w (h _ _ hs ht)
  have h1 := opsK_defers (D := D) (Q' := fun e a w => ∃ T', a = ⟨T', D⟩ ∧ Q e ⟨T', []⟩ w) (fun T w h => ⟨T, rfl, h⟩) _ T w h0
  refine walks_ops_on _ _ _ h1 b k cs Stop hk fun a' w' hq => ?_
  obtain ⟨T', rfl, hq⟩ := hq
  exact mv rfl (fun _ => stepG_region_end) (hc T' w' hq)
end

section
variable {d : CD}
def call14 (d : CD) : Deferred := { target := .fn (.func 14) #[.pointer (some ⟨d.Wg, 0, none⟩), .pointer (some ⟨d.bN, 0, none⟩), .pointer (some ⟨d.bS, 0, none⟩), .pointer (some ⟨d.bL, 0, none⟩)], args := #[] }
def T14 (d : CD) : Array Value := #[.pointer (some ⟨d.Wg, 0, none⟩), .pointer (some ⟨d.bN, 0, none⟩), .pointer (some ⟨d.bS, 0, none⟩), .pointer (some ⟨d.bL, 0, none⟩), undef, undef, undef, undef, undef, undef, undef, undef, undef, undef, undef, undef, undef]
theorem born14 (w : World) : stepG CPR false (born CPR (call14 d)) w = .go (G (b14.at ⟨T14 d, []⟩ [.code c14]) [bot]) w #[] := by
  have h1 : f14.ntmps = 17 := by kernel_rfl
  have h2 : (f14.name == "runtime.NumGoroutine") = false := by kernel_rfl
  have h2' : ¬ f14.name = "runtime.NumGoroutine" := by simpa using h2
  have e : Array.replicate 13 undef = #[undef, undef, undef, undef, undef, undef, undef, undef, undef, undef, undef, undef, undef] := rfl
  simp [born, call14, stepG, unwind, callDeferred, invoke, callFunc, func14, body14, h1, h2', seen, GStep.after, G, Frame.enter, Frame.at, b14, baseD, bot, T14, e]
theorem quitsTail14 (T : Array Value) : QuitsD CPR 2 0 (G { b14.at ⟨T, []⟩ [] with mode := .returning } [bot]) := by
  have hr : f14.results = #[] := by kernel_rfl
  refine QuitsD.ctl (g' := G bot []) rfl (fun w => ?_) ?_
  · simp [G, stepG, unwind, doReturn, results, Frame.at, b14, baseD, bot, func14, hr, seen, GStep.after, goexitEntry]
  refine QuitsD.ctl (g' := { G bot [] with status := .finished }) rfl (fun w => ?_) ⟨rfl, rfl⟩
  simp [G, stepG, unwind, bot, goexitEntry, Frame.catches]
  rfl

/-- From its birth to its first stop. -/
theorem child_walk (O : d.Ok) {k : Nat} (hk : d.b0 ≤ k) {w : World} (hR : d.RK w) : Walks (d.cW k d.Low) (d.S k .recv) (born CPR (call14 d)) w := by
  refine Walks.mono (d.keepW O (Nat.le_refl _) (Stop := d.S0 k .recv) ?_ hR) (fun _ _ h => h)
  refine mv rfl (fun w1 => born14 w1) ?_
  rw [c14_eq]
  refine mv rfl (fun _ => stepG_seq) ?_
  refine mv rfl (fun _ => stepG_region) ?_
  refine mv rfl (fun _ => stepG_defer (i := 0) (rest := []) (f := 15) rfl rfl (by decide) rfl) ?_
  refine mv rfl (fun _ => stepG_region_end) ?_
  refine mv rfl (fun _ => stepG_seq) ?_
  refine reg_on (x := ⟨17, d.Low, d.cW k d.Low⟩) (H := d.H0) (M := []) (L := [(0, .pointer (some ⟨d.Wg, 0, none⟩)), (1, .pointer (some ⟨d.bN, 0, none⟩)), (2, .pointer (some ⟨d.bS, 0, none⟩)), (3, .pointer (some ⟨d.bL, 0, none⟩))])
    (Q := fun e a w => d.TK a.tmps) ?_ ?_ (hR.st O) (by decide) ?_
  · refine W_load rfl rfl isAgg47 rfl (box_cell O.box3).at ?_
    refine W_end ?_
    intro a w hs ht
    exact ⟨hs.size, hs.get 0 _ rfl, hs.get 1 _ rfl, hs.get 2 _ rfl, hs.get 3 _ rfl, hs.get 5 _ rfl⟩
  · refine ⟨rfl, rfl, fun t v hl => ?_⟩
    simp only [lk_cons] at hl
    split at hl
    · rename_i e; subst e; exact hl
    split at hl
    · rename_i e; subst e; exact hl
    split at hl
    · rename_i e; subst e; exact hl
    split at hl
    · rename_i e; subst e; exact hl
    · cases hl
  · intro T' w' hT
    have hD : (dcall 15 (Array.map (⟨T14 d, []⟩ : Act).eval #[Operand.tmp 0]) :: (⟨T14 d, []⟩ : Act).defers) = d.D14 := by simp [CD.D14, T14, Act.eval]
    rw [hD]
    refine mv rfl (fun _ => stepG_block) ?_
    refine mv rfl (fun _ => stepG_loop) ?_
    refine mv rfl (fun _ => stepG_seq) ?_
    refine mv rfl (fun _ => stepG_region) ?_
    exact .stop fun w1 h1 => ⟨hk, T', hT, rfl⟩
end
end Go.Sim
end
