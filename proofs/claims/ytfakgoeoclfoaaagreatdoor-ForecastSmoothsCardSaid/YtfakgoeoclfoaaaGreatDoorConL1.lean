/-
  Printed by a program: each Go function computes its model.
-/
import Derived.Test.YtfakgoeoclfoaaaGreatDoorModL
import Derived.Test.YtfakgoeoclfoaaaGreatDoorRows
import Derived.KernelRfl
import Derived.Test.YtfakgoeoclfoaaaGreatDoorShelf
namespace Go.Sim
open Go Go.Proofs.Tryz
set_option linter.unusedVariables false
set_option linter.unusedSimpArgs false
set_option maxRecDepth 100000
theorem Facts.mixed : Proofs.Tryz.prog.follows .mixedOrders = true := by kernel_rfl

class Tabs (B : Nat) (w0 : World) : Prop where
  lt : 6 ≤ B
  e1 : ∃ T p, w0.var? Proofs.Tryz.prog "strconv.ErrSyntax" = some #[.iface T p]
  e2 : ∃ T p, w0.var? Proofs.Tryz.prog "strconv.ErrRange" = some #[.iface T p]
  t3 : Lib.TabIs Proofs.Tryz.prog w0 "internal/strconv.uint64pow10" .u64 gt3
  t4 : Lib.TabIs Proofs.Tryz.prog w0 "math/bits.deBruijn32tab" .u8 gt4
  t5 : Lib.TabIs Proofs.Tryz.prog w0 "math/bits.deBruijn64tab" .u8 gt5
theorem Tabs.below {B : Nat} {w0 : World} [h : Tabs B w0] {g : Nat} (hg : Nat.blt g 6 = true) : g < B := by
  have := h.lt
  have : g < 6 := by simpa [Nat.blt_eq] using hg
  omega
theorem gn1 : Proofs.Tryz.prog.globalNamed "strconv.ErrSyntax" = some 1 := by kernel_rfl
theorem gn2 : Proofs.Tryz.prog.globalNamed "strconv.ErrRange" = some 2 := by kernel_rfl
theorem gn3 : Proofs.Tryz.prog.globalNamed "internal/strconv.uint64pow10" = some 3 := by kernel_rfl
theorem gn4 : Proofs.Tryz.prog.globalNamed "math/bits.deBruijn32tab" = some 4 := by kernel_rfl
theorem gn5 : Proofs.Tryz.prog.globalNamed "math/bits.deBruijn64tab" = some 5 := by kernel_rfl

theorem clone7_c {B : Nat} {w0 w : World} {H : Hp} {M : List Res} {s : List Int} {v0 : Value} (h0 : RdS H v0 s) (hz : s.length * 8 ≤ 140737488355328) (ht : St B w0 H M w) :
  Calls prog 7 [v0].toArray w (Ret B w0 fun H' M' v => H = H' ∧ ∃ (v' : Value) (xs' : List Value), .row v' 3 (Rep.sz Int) s.length xs' :: M = M' ∧ v' = v ∧ RwF v' xs' s) := by
 refine enter func7 rfl rfl rfl ht ?_
 obtain ⟨o, n, c, rfl⟩ := h0.shape
 refine C_seq (C_region ?_)
 refine W_assign rfl rfl rfl ?_
 refine W_end (E_then (C_seq (C_seq (C_region ?_))))
 refine W_move rfl rfl rfl ?_
 refine W_eqNil rfl rfl runUnderlying22 rfl rfl ?_
 refine W_end (E_then ?_)
 cases o with
 | none =>
  refine C_cond (b := true) rfl (fun _ => ?_) (fun hb => Bool.noConfusion hb)
  obtain rfl := h0.isNil
  refine C_seq (C_region ?_)
  refine W_assign rfl rfl rfl ?_
  refine W_end (E_then ?_)
  refine C_ret (E_ret_then ?_)
  refine E_nilRow 3 (Rep.sz Int) ?_
  exact end1 rfl rfl ⟨rfl, .slice none 0 0, [], rfl, rfl, (Rw.nil (H := H)).toF⟩
 | some a =>
  refine C_cond (b := false) rfl (fun hb => Bool.noConfusion hb) (fun _ => ?_)
  refine C_skip (E_then (C_seq (C_region ?_)))
  refine W_build0 Int rfl rfl runUnderlying22 sizeOf3 ?_
  intro v1 xs1 h1
  refine W_move rfl rfl rfl ?_
  refine W_appendO (α := Int) (l := []) (ys := s) (bytes := 8) rfl rfl underlying22 ⟨_, rfl, rfl, rfl, rfl⟩ rfl rfl rfl rfl rfl h1 h0 (by simpa using hz) ?_
  intro v2 xs2 h2
  refine W_assign rfl rfl rfl ?_
  refine W_end (E_then (C_ret ?_))
  exact end1 rfl rfl ⟨rfl, v2, xs2, rfl, rfl, h2.toF⟩

theorem m_gridhallref4_Cut_c {B : Nat} {w0 w : World} [Tabs B w0] {H : Hp} {M : List Res} {p0_n : Int} {p1_low : Int} {p2_high : Int} {r : Int} (hm : m_gridhallref4_Cut p0_n p1_low p2_high = some r) (ht : St B w0 H (M) w) :
  Calls prog 8 [.int .i64 (p0_n), .int .i64 (p1_low), .int .i64 (p2_high)].toArray w (Ret B w0 fun H' M' v => H = H' ∧ M = M' ∧ .int .i64 (r) = v) := by
 unfold m_gridhallref4_Cut at hm
 refine enter func8 rfl rfl rfl ht ?_
 refine C_seq (C_region ?_)
 refine W_assign rfl rfl rfl ?_
 refine W_end (E_then (C_seq (C_region ?_)))
 refine W_move rfl rfl rfl ?_
 refine W_move rfl rfl rfl ?_
 refine W_bin rfl rfl rfl rfl rfl ?_
 refine W_bin rfl rfl rfl rfl rfl ?_
 refine W_assign rfl rfl rfl ?_
 refine W_end (E_then (C_seq (C_region ?_)))
 refine W_move rfl rfl rfl ?_
 refine W_move rfl rfl rfl ?_
 obtain ⟨hq101, hm⟩ := need_some hm
 refine W_rem rfl rfl rfl rfl hq101 ?_
 refine W_assign rfl rfl rfl ?_
 refine W_end (E_then ?_)
 refine C_seq_join (fun H' M' L' => ∃ n103 : Int, m_gridhallref4_Cut_b1 p1_low n103 = some r ∧ H = H' ∧ M = M' ∧ [(0, .int .i64 (n103)), (1, .int .i64 (p1_low))] = L') ?_ (fun J104 => ?_)
 ·rintro _ _ _ ⟨n103, hm, rfl, rfl, rfl⟩
  unfold m_gridhallref4_Cut_b1 at hm
  refine C_seq (C_region ?_)
  refine W_move rfl rfl rfl ?_
  refine W_move rfl rfl rfl ?_
  refine W_bin rfl rfl rfl rfl rfl ?_
  refine W_assign rfl rfl rfl ?_
  refine W_end (E_then (C_ret ?_))
  obtain rfl := Option.some.inj hm
  refine E_weak (Hp.le_refl _) ?_
  exact end1 rfl rfl ⟨rfl, rfl, rfl⟩
 ·refine C_seq (C_region ?_)
  refine W_move rfl rfl rfl ?_
  refine W_bin rfl rfl rfl rfl rfl ?_
  refine W_end (E_then ?_)
  refine C_cond (b := decide ((Int.tmod p0_n (IntKind.i64.wrap ((IntKind.i64.wrap (p2_high - p1_low)) + 1))) < 0)) rfl (fun hb105 => ?_) (fun hb105 => ?_)
  ·have hm := ite_t' hb105 hm
   refine C_region ?_
   refine W_move rfl rfl rfl ?_
   refine W_move rfl rfl rfl ?_
   refine W_bin rfl rfl rfl rfl rfl ?_
   refine W_assign rfl rfl rfl ?_
   refine W_end ?_
   exact E_keepJ (J104 _ _ _ ⟨IntKind.i64.wrap ((Int.tmod p0_n (IntKind.i64.wrap ((IntKind.i64.wrap (p2_high - p1_low)) + 1))) + (IntKind.i64.wrap ((IntKind.i64.wrap (p2_high - p1_low)) + 1))), hm, rfl, rfl, rfl⟩) (List.Perm.refl _) ⟨rfl, rfl, trivial⟩
  ·have hm := ite_f' hb105 hm
   refine C_skip ?_
   exact E_keepJ (J104 _ _ _ ⟨Int.tmod p0_n (IntKind.i64.wrap ((IntKind.i64.wrap (p2_high - p1_low)) + 1)), hm, rfl, rfl, rfl⟩) (List.Perm.refl _) ⟨rfl, rfl, trivial⟩

theorem m_large_norm_c {B : Nat} {w0 w : World} [Tabs B w0] {H : Hp} {M : List Res} {minus : Bool} {p1_w : (List U32)} {v0 : Value} {r : S_large_Int} (hm : m_large_norm minus p1_w = some r) (h0 : RdS H v0 p1_w) (ht : St B w0 H (M) w) :
  Calls prog 55 [.bool (minus), v0].toArray w (Ret B w0 fun H' M' v => H.le H' ∧ ∃ qv0 : Value, M = M' ∧ .agg [.bool (r.minus), qv0].toArray = v ∧ RdS H' qv0 r.words) := by
 unfold m_large_norm at hm
 refine enter func55 rfl rfl rfl ht ?_
 refine C_seq (C_region ?_)
 refine W_alloc (cs := [.bool (false), .slice none 0 0]) rfl rfl zeroValue48 rfl (fun b101 => ?_)
 refine W_end (E_then ?_)
 refine C_seq_join (fun H' M' L' => ∃ l153 : (List U32), ∃ v152 : Value, m_large_norm_b2 minus l153 = some r ∧ RdS H' v152 l153 ∧ H.le H' ∧ .obj b101 (.cells ([.bool (false), .slice none 0 0] : List Value).toArray 48 (0, 0)) :: M = M' ∧ [(0, .bool (minus)), (1, v152), (4, .pointer (some ⟨b101, 0, none⟩))] = L') ?_ (fun J157 => ?_)
 ·rintro H155 _ _ ⟨l153, v152, hm, h154, hle156, rfl, rfl⟩
  unfold m_large_norm_b2 at hm
  refine C_seq (C_region ?_)
  refine W_move rfl rfl rfl ?_
  refine W_move rfl rfl rfl ?_
  cases hb158 : (minus)
  ·have hm := ite_f' hb158 hm
   refine W_no rfl rfl rfl ?_
   refine W_no rfl rfl rfl ?_
   refine W_no rfl rfl rfl ?_
   refine W_pick rfl rfl rfl rfl ?_
   refine W_move rfl rfl rfl ?_
   refine W_build (css := [[.bool (false)], [v152]]) (zs := [.bool (false), .slice none 0 0]) (out := [.bool (false), v152]) (places := [(0, 1), (1, 1)]) rfl rfl rfl ⟨rfl, (RdS.cells h154), trivial⟩ zeroValue48 rfl runUnderlying48 (fun w => by kernel_rfl) rfl ?_
   refine W_store (cs := [.bool (false), v152]) (out := [.bool (false), v152]) rfl sizeOf48 rfl rfl rfl rfl rfl (all_cons rfl (all_cons (RdS.one1 h154) all_nil)) (over_all rfl) ?_
   refine W_end (E_then (C_ret ?_))
   obtain rfl := Option.some.inj hm
   exact endC1 (Hp.le_refl _) rfl (ResV.agg rfl isAgg48 sizeOf48 (List.mem_cons_self ..) rfl) (List.Sublist.cons _ (List.Sublist.refl _)) (List.Perm.refl _) ⟨hle156, v152, rfl, rfl, h154⟩
  ·have hm := ite_t' hb158 hm
   refine W_move rfl rfl rfl ?_
   refine W_lenR rfl rfl runUnderlying46 rfl h154 ?_
   refine W_bin rfl rfl rfl rfl rfl ?_
   refine W_pick rfl rfl rfl rfl ?_
   refine W_move rfl rfl rfl ?_
   refine W_build (css := [[.bool (decide (0 < (l153.length : Int)))], [v152]]) (zs := [.bool (false), .slice none 0 0]) (out := [.bool (decide (0 < (l153.length : Int))), v152]) (places := [(0, 1), (1, 1)]) rfl rfl rfl ⟨rfl, (RdS.cells h154), trivial⟩ zeroValue48 rfl runUnderlying48 (fun w => by kernel_rfl) rfl ?_
   refine W_store (cs := [.bool (decide (0 < (l153.length : Int))), v152]) (out := [.bool (decide (0 < (l153.length : Int))), v152]) rfl sizeOf48 rfl rfl rfl rfl rfl (all_cons rfl (all_cons (RdS.one1 h154) all_nil)) (over_all rfl) ?_
   refine W_end (E_then (C_ret ?_))
   obtain rfl := Option.some.inj hm
   exact endC1 (Hp.le_refl _) rfl (ResV.agg rfl isAgg48 sizeOf48 (List.mem_cons_self ..) rfl) (List.Sublist.cons _ (List.Sublist.refl _)) (List.Perm.refl _) ⟨hle156, v152, rfl, rfl, h154⟩
 ·refine C_block ?_
  refine C_keep (L' := [(0, .bool (minus)), (1, v0), (4, .pointer (some ⟨b101, 0, none⟩))]) ⟨rfl, rfl, rfl, trivial⟩ (List.Perm.refl _) ?_
  refine C_loop (fun n H' M' L' => ∃ l186 : (List U32), ∃ v185 : Value, loopF (fun s190 n => m_large_norm_b3 minus s190 n) n l186 = some r ∧ RdS H' v185 l186 ∧ H.le H' ∧ .obj b101 (.cells ([.bool (false), .slice none 0 0] : List Value).toArray 48 (0, 0)) :: M = M' ∧ [(0, .bool (minus)), (1, v185), (4, .pointer (some ⟨b101, 0, none⟩))] = L') FUEL ⟨p1_w, v0, hm, h0, (Hp.le_refl _), rfl, rfl⟩ ?_
  rintro n193 H188 _ _ ⟨l186, v185, hm, h187, hle189, rfl, rfl⟩
  cases n193 with
  | zero => cases hm
  | succ n193 =>
   have hm : m_large_norm_b3 minus l186 (loopF (fun s190 n => m_large_norm_b3 minus s190 n) n193) = some r := hm
   generalize hn192 : loopF (fun s190 n => m_large_norm_b3 minus s190 n) n193 = nx191 at hm
   unfold m_large_norm_b3 at hm
   refine C_seq (C_seq (C_region ?_))
   refine W_move rfl rfl rfl ?_
   refine W_lenR rfl rfl runUnderlying46 rfl h187 ?_
   refine W_bin rfl rfl rfl rfl rfl ?_
   refine W_move rfl rfl rfl ?_
   cases hb199 : (decide (0 < (l186.length : Int)))
   ·have hm := ite_f' hb199 hm
    refine W_no rfl rfl rfl ?_
    refine W_no rfl rfl rfl ?_
    refine W_no rfl rfl rfl ?_
    refine W_no rfl rfl rfl ?_
    refine W_no rfl rfl rfl ?_
    refine W_no rfl rfl rfl ?_
    refine W_no rfl rfl rfl ?_
    refine W_pick rfl rfl rfl rfl ?_
    refine W_end (E_then ?_)
    refine C_cond (b := false) rfl (fun hb => Bool.noConfusion hb) (fun _ => ?_)
    refine C_exit (E_exit_then (E_exit_then (E_exit_hit ?_)))
    exact E_keepJ (J157 _ _ _ ⟨l186, v185, hm, h187, hle189, rfl, rfl⟩) (List.Perm.refl _) ⟨rfl, rfl, rfl, trivial⟩
   ·have hm := ite_t' hb199 hm
    refine W_move rfl rfl rfl ?_
    refine W_move rfl rfl rfl ?_
    refine W_lenR rfl rfl runUnderlying46 rfl h187 ?_
    refine W_bin rfl rfl rfl rfl rfl ?_
    obtain ⟨y200, h201, he202, hm⟩ := idx_some hm
    obtain ⟨_, rfl, hc203⟩ := (h187).elem he202
    refine W_indexS rfl rfl runUnderlying46 sizeOf81 rfl h187 rfl h201 he202 ?_
    refine W_load rfl rfl isAgg81 rfl (HCells.one hc203 0 rfl).at ?_
    refine W_bin rfl rfl rfl rfl rfl ?_
    refine W_pick rfl rfl rfl rfl ?_
    refine W_end (E_then ?_)
    refine C_cond (b := decide (y200.n = 0)) rfl (fun hb204 => ?_) (fun hb204 => ?_)
    ·have hm := ite_t' hb204 hm
     refine C_skip (E_then (C_block (C_region ?_)))
     refine W_move rfl rfl rfl ?_
     refine W_move rfl rfl rfl ?_
     refine W_lenR rfl rfl runUnderlying46 rfl h187 ?_
     refine W_bin rfl rfl rfl rfl rfl ?_
     obtain ⟨hz205, hm⟩ := need_some hm
     refine W_sliceR (α := U32) (l := 0) (h := (IntKind.i64.wrap ((l186.length : Int) - 1) : Int).toNat) (xs := l186) rfl rfl runUnderlying46 sizeOf81 rfl h187 (by omega) (by omega) (.inl rfl) (fun cap hcap => by rw [if_pos rfl]; exact (.inl ⟨rfl, rfl⟩)) (fun m hmm => (.inr ⟨_, _, _, rfl, rfl, by omega, by omega, rfl⟩)) (.inl ⟨rfl, rfl⟩) ?_
     intro v206 h207 hc208
     refine W_assign rfl rfl rfl ?_
     refine W_end (E_normal_block ?_)
     exact E_keepJ (E_back (Nat.lt_succ_self _) ⟨(slc l186 0 ((IntKind.i64.wrap ((l186.length : Int) - 1) : Int).toNat)), v206, (by rw [hn192]; exact hm), h207, hle189, rfl, rfl⟩) (List.Perm.refl _) ⟨rfl, rfl, rfl, trivial⟩
    ·have hm := ite_f' hb204 hm
     refine C_exit (E_exit_then (E_exit_then (E_exit_hit ?_)))
     exact E_keepJ (J157 _ _ _ ⟨l186, v185, hm, h187, hle189, rfl, rfl⟩) (List.Perm.refl _) ⟨rfl, rfl, rfl, trivial⟩

theorem m_large_Of_c {B : Nat} {w0 w : World} [Tabs B w0] {H : Hp} {M : List Res} {p0_n : Int} {r : S_large_Int} (hm : m_large_Of p0_n = some r) (ht : St B w0 H (M) w) :
  Calls prog 41 [.int .i64 (p0_n)].toArray w (Ret B w0 fun H' M' v => H.le H' ∧ ∃ qv0 : Value, M = M' ∧ .agg [.bool (r.minus), qv0].toArray = v ∧ RdS H' qv0 r.words) := by
 unfold m_large_Of at hm
 refine enter func41 rfl rfl rfl ht ?_
 refine C_seq (C_region ?_)
 refine W_alloc (cs := [.bool (false), .slice none 0 0]) rfl rfl zeroValue48 rfl (fun b101 => ?_)
 refine W_end (E_then (C_seq (C_region ?_)))
 refine W_move rfl rfl rfl ?_
 refine W_convInt rfl rfl runUnderlying3 runUnderlying85 rfl ?_
 refine W_assign rfl rfl rfl ?_
 refine W_end (E_then ?_)
 refine C_seq_join (fun H' M' L' => ∃ n103 : Int, m_large_Of_b1 p0_n n103 = some r ∧ H = H' ∧ .obj b101 (.cells ([.bool (false), .slice none 0 0] : List Value).toArray 48 (0, 0)) :: M = M' ∧ [(0, .int .i64 (p0_n)), (2, .pointer (some ⟨b101, 0, none⟩)), (3, .int .u64 (n103))] = L') ?_ (fun J104 => ?_)
 ·rintro _ _ _ ⟨n103, hm, rfl, rfl, rfl⟩
  unfold m_large_Of_b1 at hm
  refine C_seq (C_region ?_)
  refine W_move rfl rfl rfl ?_
  refine W_bin rfl rfl rfl rfl rfl ?_
  refine W_move rfl rfl rfl ?_
  refine W_convInt rfl rfl runUnderlying85 runUnderlying81 rfl ?_
  refine W_move rfl rfl rfl ?_
  refine W_shr rfl rfl rfl rfl (by decide) ?_
  refine W_convInt rfl rfl runUnderlying85 runUnderlying81 rfl ?_
  refine W_buildSliceO (α := U32) (css := [[.int .u32 (IntKind.u32.wrap (n103))], [.int .u32 (IntKind.u32.wrap (shrV .u64 n103 32))]]) (zs := [.int .u32 (0), .int .u32 (0)]) (out := [.int .u32 (IntKind.u32.wrap (n103)), .int .u32 (IntKind.u32.wrap (shrV .u64 n103 32))]) (ys := ([⟨IntKind.u32.wrap (n103)⟩, ⟨IntKind.u32.wrap (shrV .u64 n103 32)⟩] : List U32)) rfl rfl rfl ⟨rfl, rfl, trivial⟩ runUnderlying46 sizeOf81 rfl zeroValue81 (by kernel_rfl) rfl rfl rfl rfl ⟨[.int .u32 (IntKind.u32.wrap (n103))], [.int .u32 (IntKind.u32.wrap (shrV .u64 n103 32))], rfl, rfl, ⟨[.int .u32 (IntKind.u32.wrap (shrV .u64 n103 32))], [], rfl, rfl, rfl⟩⟩ rfl ?_
  intro v105 xs106 hr107
  refine W_freeze (hr107).rd rfl (fun H108 hle109 h110 => ?_)
  obtain ⟨r111, hc112, hm⟩ := bind_some hm
  refine W_call call55 rfl rfl rfl (fun w ht => by have h := m_large_norm_c (hm := hc112) h110 ht; exact h) ?_
  rintro _ H115 _ ⟨hle116, v113, rfl, rfl, h114⟩
  refine W_store (cs := [.bool (r111.minus), v113]) (out := [.bool (r111.minus), v113]) rfl sizeOf48 rfl rfl rfl rfl rfl (all_cons rfl (all_cons (RdS.one1 h114) all_nil)) (over_all rfl) ?_
  refine W_end (E_then (C_ret ?_))
  obtain rfl := Option.some.inj hm
  exact endC1 (Hp.le_refl _) rfl (ResV.agg rfl isAgg48 sizeOf48 (List.mem_cons_self ..) rfl) (List.Sublist.cons _ (List.Sublist.refl _)) (List.Perm.refl _) ⟨(Hp.le_trans hle109 hle116), v113, rfl, rfl, h114⟩
 ·refine C_seq (C_region ?_)
  refine W_move rfl rfl rfl ?_
  refine W_bin rfl rfl rfl rfl rfl ?_
  refine W_end (E_then ?_)
  refine C_cond (b := decide (p0_n < 0)) rfl (fun hb117 => ?_) (fun hb117 => ?_)
  ·have hm := ite_t' hb117 hm
   refine C_region ?_
   refine W_move rfl rfl rfl ?_
   refine W_un rfl rfl rfl rfl ?_
   refine W_assign rfl rfl rfl ?_
   refine W_end ?_
   exact E_keepJ (J104 _ _ _ ⟨IntKind.u64.wrap (0 - (IntKind.u64.wrap (p0_n))), hm, rfl, rfl, rfl⟩) (List.Perm.refl _) ⟨rfl, rfl, rfl, trivial⟩
  ·have hm := ite_f' hb117 hm
   refine C_skip ?_
   exact E_keepJ (J104 _ _ _ ⟨IntKind.u64.wrap (p0_n), hm, rfl, rfl, rfl⟩) (List.Perm.refl _) ⟨rfl, rfl, rfl, trivial⟩

theorem m_large_Int_Neg_c {B : Nat} {w0 w : World} [Tabs B w0] {H : Hp} {M : List Res} {p0_a : S_large_Int} {v0 : Value} {r : S_large_Int} (hm : m_large_Int_Neg p0_a = some r) (h0 : RdS H v0 p0_a.words) (ht : St B w0 H (M) w) :
  Calls prog 52 [.agg [.bool (p0_a.minus), v0].toArray].toArray w (Ret B w0 fun H' M' v => H.le H' ∧ ∃ qv0 : Value, M = M' ∧ .agg [.bool (r.minus), qv0].toArray = v ∧ RdS H' qv0 r.words) := by
 unfold m_large_Int_Neg at hm
 refine enter func52 rfl rfl rfl ht ?_
 refine C_seq (C_region ?_)
 refine W_box (cs := [.bool (p0_a.minus), v0]) rfl rfl rfl rfl (fun b101 => ?_)
 refine W_alloc (cs := [.bool (false), .slice none 0 0]) rfl rfl zeroValue48 rfl (fun b102 => ?_)
 refine W_end (E_then (C_seq (C_region ?_)))
 refine W_field (o := 0) rfl rfl runUnderlying48 rfl sizeOf4 rfl rfl rfl ?_
 refine W_load rfl rfl isAgg4 rfl (own_at (List.mem_cons_of_mem _ (List.mem_cons_self ..)) rfl) ?_
 refine W_un rfl rfl rfl rfl ?_
 refine W_field (o := 1) rfl rfl runUnderlying48 rfl sizeOf46 rfl rfl rfl ?_
 refine W_load rfl rfl isAgg46 rfl (own_at (List.mem_cons_of_mem _ (List.mem_cons_self ..)) rfl) ?_
 obtain ⟨r103, hc104, hm⟩ := bind_some hm
 refine W_call call55 rfl rfl rfl (fun w ht => by have h := m_large_norm_c (hm := hc104) h0 ht; exact h) ?_
 rintro _ H107 _ ⟨hle108, v105, rfl, rfl, h106⟩
 refine W_store (cs := [.bool (r103.minus), v105]) (out := [.bool (r103.minus), v105]) rfl sizeOf48 rfl rfl rfl rfl rfl (all_cons rfl (all_cons (RdS.one1 h106) all_nil)) (over_all rfl) ?_
 refine W_end (E_then (C_ret ?_))
 obtain rfl := Option.some.inj hm
 exact endC1 (Hp.le_refl _) rfl (ResV.agg rfl isAgg48 sizeOf48 (List.mem_cons_self ..) rfl) (List.Sublist.cons _ (List.Sublist.cons _ (List.Sublist.refl _))) (List.Perm.refl _) ⟨hle108, v105, rfl, rfl, h106⟩

theorem m_large_Int_Sign_c {B : Nat} {w0 w : World} [Tabs B w0] {H : Hp} {M : List Res} {p0_a : S_large_Int} {v0 : Value} {r : Int} (hm : m_large_Int_Sign p0_a = r) (h0 : RdS H v0 p0_a.words) (ht : St B w0 H (M) w) :
  Calls prog 67 [.agg [.bool (p0_a.minus), v0].toArray].toArray w (Ret B w0 fun H' M' v => H = H' ∧ M = M' ∧ .int .i64 (r) = v) := by
 unfold m_large_Int_Sign at hm
 refine enter func67 rfl rfl rfl ht ?_
 refine C_seq (C_region ?_)
 refine W_box (cs := [.bool (p0_a.minus), v0]) rfl rfl rfl rfl (fun b101 => ?_)
 refine W_assign rfl rfl rfl ?_
 refine W_end (E_then (C_seq (C_block (C_seq (C_region ?_)))))
 refine W_field (o := 1) rfl rfl runUnderlying48 rfl sizeOf46 rfl rfl rfl ?_
 refine W_load rfl rfl isAgg46 rfl (own_at (List.mem_cons_self ..) rfl) ?_
 refine W_lenR rfl rfl runUnderlying46 rfl h0 ?_
 refine W_bin rfl rfl rfl rfl rfl ?_
 refine W_assign rfl rfl rfl ?_
 refine W_end (E_then ?_)
 refine C_cond (b := decide ((p0_a.words.length : Int) = 0)) rfl (fun hb102 => ?_) (fun hb102 => ?_)
 ·have hm := ite_t' hb102 hm
  refine C_seq (C_region ?_)
  refine W_assign rfl rfl rfl ?_
  refine W_end (E_then (C_ret (E_ret_block (E_ret_then ?_))))
  obtain rfl := hm
  refine E_drop (List.Sublist.cons _ (List.Sublist.refl _)) ?_
  refine E_weak (Hp.le_refl _) ?_
  exact end1 rfl rfl ⟨rfl, rfl, rfl⟩
 ·have hm := ite_f' hb102 hm
  refine C_seq (C_region ?_)
  refine W_field (o := 0) rfl rfl runUnderlying48 rfl sizeOf4 rfl rfl rfl ?_
  refine W_load rfl rfl isAgg4 rfl (own_at (List.mem_cons_self ..) rfl) ?_
  refine W_assign rfl rfl rfl ?_
  refine W_end (E_then ?_)
  refine C_cond (b := p0_a.minus) rfl (fun hb103 => ?_) (fun hb103 => ?_)
  ·have hm := ite_t' hb103 hm
   refine C_seq (C_region ?_)
   refine W_assign rfl rfl rfl ?_
   refine W_end (E_then (C_ret (E_ret_block (E_ret_then ?_))))
   obtain rfl := hm
   refine E_drop (List.Sublist.cons _ (List.Sublist.refl _)) ?_
   refine E_weak (Hp.le_refl _) ?_
   exact end1 rfl rfl ⟨rfl, rfl, rfl⟩
  ·have hm := ite_f' hb103 hm
   refine C_skip (E_normal_block (E_then (C_seq (C_region ?_))))
   refine W_assign rfl rfl rfl ?_
   refine W_end (E_then (C_ret ?_))
   obtain rfl := hm
   refine E_drop (List.Sublist.cons _ (List.Sublist.refl _)) ?_
   refine E_weak (Hp.le_refl _) ?_
   exact end1 rfl rfl ⟨rfl, rfl, rfl⟩

theorem m_large_cmpWords_c {B : Nat} {w0 w : World} [Tabs B w0] {H : Hp} {M : List Res} {p0_a : (List U32)} {p1_b : (List U32)} {v0 : Value} {v1 : Value} {r : Int} (hm : m_large_cmpWords p0_a p1_b = some r) (h0 : RdS H v0 p0_a) (h1 : RdS H v1 p1_b) (ht : St B w0 H (M) w) :
  Calls prog 58 [v0, v1].toArray w (Ret B w0 fun H' M' v => H = H' ∧ M = M' ∧ .int .i64 (r) = v) := by
 unfold m_large_cmpWords at hm
 refine enter func58 rfl rfl rfl ht ?_
 refine C_seq (C_region ?_)
 refine W_assign rfl rfl rfl ?_
 refine W_end (E_then (C_seq (C_seq (C_region ?_))))
 refine W_move rfl rfl rfl ?_
 refine W_lenR rfl rfl runUnderlying46 rfl h0 ?_
 refine W_move rfl rfl rfl ?_
 refine W_lenR rfl rfl runUnderlying46 rfl h1 ?_
 refine W_bin rfl rfl rfl rfl rfl ?_
 refine W_end (E_then ?_)
 refine C_cond (b := !decide ((p0_a.length : Int) = (p1_b.length : Int))) rfl (fun hb101 => ?_) (fun hb101 => ?_)
 ·have hm := ite_t' hb101 hm
  refine C_seq (C_region ?_)
  refine W_move rfl rfl rfl ?_
  refine W_lenR rfl rfl runUnderlying46 rfl h0 ?_
  refine W_move rfl rfl rfl ?_
  refine W_lenR rfl rfl runUnderlying46 rfl h1 ?_
  refine W_bin rfl rfl rfl rfl rfl ?_
  refine W_assign rfl rfl rfl ?_
  refine W_end (E_then (C_ret (E_ret_then ?_)))
  obtain rfl := Option.some.inj hm
  refine E_weak (Hp.le_refl _) ?_
  exact end1 rfl rfl ⟨rfl, rfl, rfl⟩
 ·have hm := ite_f' hb101 hm
  refine C_skip (E_then (C_seq (C_seq (C_region ?_))))
  refine W_move rfl rfl rfl ?_
  refine W_lenR rfl rfl runUnderlying46 rfl h0 ?_
  refine W_bin rfl rfl rfl rfl rfl ?_
  refine W_assign rfl rfl rfl ?_
  refine W_end (E_then (C_block ?_))
  refine C_keep (L' := [(0, v0), (1, v1), (5, .int .i64 (IntKind.i64.wrap ((p0_a.length : Int) - 1)))]) ⟨rfl, rfl, rfl, trivial⟩ (List.Perm.refl _) ?_
  refine C_loop (fun n H' M' L' => ∃ n154 : Int, loopF (fun s157 n => m_large_cmpWords_b1 p0_a p1_b s157 n) n n154 = some r ∧ H.le H' ∧ M = M' ∧ [(0, v0), (1, v1), (5, .int .i64 (n154))] = L') FUEL ⟨IntKind.i64.wrap ((p0_a.length : Int) - 1), hm, (Hp.le_refl _), rfl, rfl⟩ ?_
  rintro n160 H155 _ _ ⟨n154, hm, hle156, rfl, rfl⟩
  cases n160 with
  | zero => cases hm
  | succ n160 =>
   have hm : m_large_cmpWords_b1 p0_a p1_b n154 (loopF (fun s157 n => m_large_cmpWords_b1 p0_a p1_b s157 n) n160) = some r := hm
   generalize hn159 : loopF (fun s157 n => m_large_cmpWords_b1 p0_a p1_b s157 n) n160 = nx158 at hm
   unfold m_large_cmpWords_b1 at hm
   refine C_seq (C_seq (C_region ?_))
   refine W_move rfl rfl rfl ?_
   refine W_bin rfl rfl rfl rfl rfl ?_
   refine W_end (E_then ?_)
   refine C_cond (b := decide (0 ≤ n154)) rfl (fun hb166 => ?_) (fun hb166 => ?_)
   ·have hm := ite_t' hb166 hm
    refine C_skip (E_then (C_seq (C_block (C_seq ?_))))
    obtain ⟨y167, h168, he169, hm⟩ := idx_some hm
    obtain ⟨_, rfl, hc170⟩ := (h0).elem he169
    obtain ⟨y171, h172, he173, hm⟩ := idx_some hm
    obtain ⟨_, rfl, hc174⟩ := (h1).elem he173
    refine C_region_tok0 8 (phiT [(fun H rs v => [] = rs ∧ v0 = v), (fun H rs v => [] = rs ∧ .int .i64 (n154) = v), (fun H rs v => [] = rs ∧ .pointer (some ((Value.base (v0)).add ((n154 : Int).toNat * 1))) = v), (fun H rs v => [] = rs ∧ .int .u32 (y167.n) = v), (fun H rs v => [] = rs ∧ v1 = v), (fun H rs v => [] = rs ∧ .int .i64 (n154) = v), (fun H rs v => [] = rs ∧ .pointer (some ((Value.base (v1)).add ((n154 : Int).toNat * 1))) = v), (fun H rs v => [] = rs ∧ .int .u32 (y171.n) = v)]) [[], [], [], [], [], [], [], []] [[], [], [], [], [], [], [], []] [] [0, 1, 2, 3, 4, 5, 6, 7] Facts.mixed (by kernel_rfl) (by rfl) (by rfl) (by rfl) (by kernel_rfl) (phiT_mono ⟨eq_monoT _ _, eq_monoT _ _, eq_monoT _ _, eq_monoT _ _, eq_monoT _ _, eq_monoT _ _, eq_monoT _ _, eq_monoT _ _, trivial⟩) ⟨?_, ?_, ?_, ?_, ?_, ?_, ?_, ?_, trivial⟩ ?_
    ·intro HX hX X Rest hR
     intro hU hUp
     refine W_move rfl rfl rfl ?_
     exact W_end (OneT_end [] (Hp.le_refl _) ⟨rfl, rfl⟩)
    ·intro HX hX X Rest hR
     intro hU hUp
     refine W_move rfl rfl rfl ?_
     exact W_end (OneT_end [] (Hp.le_refl _) ⟨rfl, rfl⟩)
    ·intro HX hX X Rest hR
     rintro _ _ ⟨rfl, rfl⟩
     rintro _ _ ⟨rfl, rfl⟩
     intro hU hUp
     refine W_indexS rfl rfl runUnderlying46 sizeOf81 rfl ((h0.mono hle156).mono hX) rfl h168 he169 ?_
     exact W_end (OneT_end [] (Hp.le_refl _) ⟨rfl, rfl⟩)
    ·intro HX hX X Rest hR
     rintro _ _ ⟨rfl, rfl⟩
     intro hU hUp
     refine W_load rfl rfl isAgg81 rfl (HCells.one ((hc170.mono hle156).mono hX) 0 rfl).at ?_
     exact W_end (OneT_end [] (Hp.le_refl _) ⟨rfl, rfl⟩)
    ·intro HX hX X Rest hR
     intro hU hUp
     refine W_move rfl rfl rfl ?_
     exact W_end (OneT_end [] (Hp.le_refl _) ⟨rfl, rfl⟩)
    ·intro HX hX X Rest hR
     intro hU hUp
     refine W_move rfl rfl rfl ?_
     exact W_end (OneT_end [] (Hp.le_refl _) ⟨rfl, rfl⟩)
    ·intro HX hX X Rest hR
     rintro _ _ ⟨rfl, rfl⟩
     rintro _ _ ⟨rfl, rfl⟩
     intro hU hUp
     refine W_indexS rfl rfl runUnderlying46 sizeOf81 rfl ((h1.mono hle156).mono hX) rfl h172 he173 ?_
     exact W_end (OneT_end [] (Hp.le_refl _) ⟨rfl, rfl⟩)
    ·intro HX hX X Rest hR
     rintro _ _ ⟨rfl, rfl⟩
     intro hU hUp
     refine W_load rfl rfl isAgg81 rfl (HCells.one ((hc174.mono hle156).mono hX) 0 rfl).at ?_
     exact W_end (OneT_end [] (Hp.le_refl _) ⟨rfl, rfl⟩)
    intro H175 hle176
    rintro _ _ ⟨rfl, rfl⟩
    rintro _ _ ⟨rfl, rfl⟩
    rintro _ _ ⟨rfl, rfl⟩
    rintro _ _ ⟨rfl, rfl⟩
    rintro _ _ ⟨rfl, rfl⟩
    rintro _ _ ⟨rfl, rfl⟩
    rintro _ _ ⟨rfl, rfl⟩
    rintro _ _ ⟨rfl, rfl⟩
    refine W_bin rfl rfl rfl rfl rfl ?_
    refine W_end (E_then ?_)
    refine C_cond (b := !decide (y167.n = y171.n)) rfl (fun hb177 => ?_) (fun hb177 => ?_)
    ·have hm := ite_t' hb177 hm
     refine C_seq (C_seq ?_)
     obtain ⟨y178, h179, he180, hm⟩ := idx_some hm
     obtain ⟨_, rfl, hc181⟩ := (h0).elem he180
     obtain ⟨y182, h183, he184, hm⟩ := idx_some hm
     obtain ⟨_, rfl, hc185⟩ := (h1).elem he184
     refine C_region_tok0 8 (phiT [(fun H rs v => [] = rs ∧ v0 = v), (fun H rs v => [] = rs ∧ .int .i64 (n154) = v), (fun H rs v => [] = rs ∧ .pointer (some ((Value.base (v0)).add ((n154 : Int).toNat * 1))) = v), (fun H rs v => [] = rs ∧ .int .u32 (y178.n) = v), (fun H rs v => [] = rs ∧ v1 = v), (fun H rs v => [] = rs ∧ .int .i64 (n154) = v), (fun H rs v => [] = rs ∧ .pointer (some ((Value.base (v1)).add ((n154 : Int).toNat * 1))) = v), (fun H rs v => [] = rs ∧ .int .u32 (y182.n) = v)]) [[], [], [], [], [], [], [], []] [[], [], [], [], [], [], [], []] [] [0, 1, 2, 3, 4, 5, 6, 7] Facts.mixed (by kernel_rfl) (by rfl) (by rfl) (by rfl) (by kernel_rfl) (phiT_mono ⟨eq_monoT _ _, eq_monoT _ _, eq_monoT _ _, eq_monoT _ _, eq_monoT _ _, eq_monoT _ _, eq_monoT _ _, eq_monoT _ _, trivial⟩) ⟨?_, ?_, ?_, ?_, ?_, ?_, ?_, ?_, trivial⟩ ?_
     ·intro HX hX X Rest hR
      intro hU hUp
      refine W_move rfl rfl rfl ?_
      exact W_end (OneT_end [] (Hp.le_refl _) ⟨rfl, rfl⟩)
     ·intro HX hX X Rest hR
      intro hU hUp
      refine W_move rfl rfl rfl ?_
      exact W_end (OneT_end [] (Hp.le_refl _) ⟨rfl, rfl⟩)
     ·intro HX hX X Rest hR
      rintro _ _ ⟨rfl, rfl⟩
      rintro _ _ ⟨rfl, rfl⟩
      intro hU hUp
      refine W_indexS rfl rfl runUnderlying46 sizeOf81 rfl (((h0.mono hle156).mono hle176).mono hX) rfl h179 he180 ?_
      exact W_end (OneT_end [] (Hp.le_refl _) ⟨rfl, rfl⟩)
     ·intro HX hX X Rest hR
      rintro _ _ ⟨rfl, rfl⟩
      intro hU hUp
      refine W_load rfl rfl isAgg81 rfl (HCells.one (((hc181.mono hle156).mono hle176).mono hX) 0 rfl).at ?_
      exact W_end (OneT_end [] (Hp.le_refl _) ⟨rfl, rfl⟩)
     ·intro HX hX X Rest hR
      intro hU hUp
      refine W_move rfl rfl rfl ?_
      exact W_end (OneT_end [] (Hp.le_refl _) ⟨rfl, rfl⟩)
     ·intro HX hX X Rest hR
      intro hU hUp
      refine W_move rfl rfl rfl ?_
      exact W_end (OneT_end [] (Hp.le_refl _) ⟨rfl, rfl⟩)
     ·intro HX hX X Rest hR
      rintro _ _ ⟨rfl, rfl⟩
      rintro _ _ ⟨rfl, rfl⟩
      intro hU hUp
      refine W_indexS rfl rfl runUnderlying46 sizeOf81 rfl (((h1.mono hle156).mono hle176).mono hX) rfl h183 he184 ?_
      exact W_end (OneT_end [] (Hp.le_refl _) ⟨rfl, rfl⟩)
     ·intro HX hX X Rest hR
      rintro _ _ ⟨rfl, rfl⟩
      intro hU hUp
      refine W_load rfl rfl isAgg81 rfl (HCells.one (((hc185.mono hle156).mono hle176).mono hX) 0 rfl).at ?_
      exact W_end (OneT_end [] (Hp.le_refl _) ⟨rfl, rfl⟩)
     intro H186 hle187
     rintro _ _ ⟨rfl, rfl⟩
     rintro _ _ ⟨rfl, rfl⟩
     rintro _ _ ⟨rfl, rfl⟩
     rintro _ _ ⟨rfl, rfl⟩
     rintro _ _ ⟨rfl, rfl⟩
     rintro _ _ ⟨rfl, rfl⟩
     rintro _ _ ⟨rfl, rfl⟩
     rintro _ _ ⟨rfl, rfl⟩
     refine W_bin rfl rfl rfl rfl rfl ?_
     refine W_end (E_then ?_)
     refine C_cond (b := decide (y178.n < y182.n)) rfl (fun hb188 => ?_) (fun hb188 => ?_)
     ·have hm := ite_t' hb188 hm
      refine C_seq (C_region ?_)
      refine W_assign rfl rfl rfl ?_
      refine W_end (E_then (C_ret (E_ret_then (E_ret_block (E_ret_then (E_ret_then (E_ret_block (E_ret_then ?_))))))))
      obtain rfl := Option.some.inj hm
      refine E_weak (Hp.le_trans (Hp.le_trans hle156 hle176) hle187) ?_
      exact end1 rfl rfl ⟨rfl, rfl, rfl⟩
     ·have hm := ite_f' hb188 hm
      refine C_skip (E_then (C_seq (C_region ?_)))
      refine W_assign rfl rfl rfl ?_
      refine W_end (E_then (C_ret (E_ret_block (E_ret_then (E_ret_then (E_ret_block (E_ret_then ?_)))))))
      obtain rfl := Option.some.inj hm
      refine E_weak (Hp.le_trans (Hp.le_trans hle156 hle176) hle187) ?_
      exact end1 rfl rfl ⟨rfl, rfl, rfl⟩
    ·have hm := ite_f' hb177 hm
     refine C_skip (E_normal_block (E_then (C_region ?_)))
     refine W_move rfl rfl rfl ?_
     refine W_bin rfl rfl rfl rfl rfl ?_
     refine W_assign rfl rfl rfl ?_
     refine W_end ?_
     exact E_keepJ (E_back (Nat.lt_succ_self _) ⟨IntKind.i64.wrap (n154 - 1), (by rw [hn159]; exact hm), (Hp.le_trans hle156 hle176), rfl, rfl⟩) (List.Perm.refl _) ⟨rfl, rfl, rfl, trivial⟩
   ·have hm := ite_f' hb166 hm
    refine C_exit (E_exit_then (E_exit_then (E_exit_hit (E_then (C_seq (C_region ?_))))))
    refine W_assign rfl rfl rfl ?_
    refine W_end (E_then (C_ret ?_))
    obtain rfl := Option.some.inj hm
    refine E_weak hle156 ?_
    exact end1 rfl rfl ⟨rfl, rfl, rfl⟩

theorem m_large_shortDiv_c {B : Nat} {w0 w : World} [Tabs B w0] {H : Hp} {M : List Res} {p0_a : (List U32)} {p1_d : Int} {v0 : Value} {r : (List U32) × Int} (hm : m_large_shortDiv p0_a p1_d = some r) (h0 : RdS H v0 p0_a) (ht : St B w0 H (M) w) :
  Calls prog 68 [v0, .int .u32 (p1_d)].toArray w (Ret B w0 fun H' M' v => H = H' ∧ ∃ qv0 : Value, ∃ qxs0 : List Value, .row qv0 81 (Rep.sz U32) r.1.length qxs0 :: M = M' ∧ .tuple #[qv0, .int .u32 (r.2)] = v ∧ RwF qv0 qxs0 r.1) := by
 unfold m_large_shortDiv at hm
 refine enter func68 rfl rfl rfl ht ?_
 refine C_seq (C_region ?_)
 refine W_assign rfl rfl rfl ?_
 refine W_assign rfl rfl rfl ?_
 refine W_end (E_then (C_seq (C_region ?_)))
 refine W_move rfl rfl rfl ?_
 refine W_lenR rfl rfl runUnderlying46 rfl h0 ?_
 obtain ⟨hz101, hm⟩ := need_some hm
 refine W_makeSlice (α := U32) (zs := [.int .u32 (0)]) (ze := ⟨0⟩) rfl rfl underlying46 ⟨_, rfl, rfl, rfl, rfl⟩ rfl rfl rfl rfl rfl rfl hz101.1 hz101.2 ?_
 intro v102 xs103 hr104
 refine W_assign rfl rfl rfl ?_
 refine W_end (E_then (C_seq (C_region ?_)))
 refine W_assign rfl rfl rfl ?_
 refine W_end (E_then (C_seq (C_seq (C_region ?_))))
 refine W_move rfl rfl rfl ?_
 refine W_lenR rfl rfl runUnderlying46 rfl h0 ?_
 refine W_bin rfl rfl rfl rfl rfl ?_
 refine W_assign rfl rfl rfl ?_
 refine W_end (E_then (C_block ?_))
 refine C_keep (L' := [(0, v0), (1, .int .u32 (p1_d)), (6, v102), (7, .int .u64 (0)), (8, .int .i64 (IntKind.i64.wrap ((p0_a.length : Int) - 1)))]) ⟨rfl, rfl, rfl, rfl, rfl, trivial⟩ (List.Perm.refl _) ?_
 refine C_loop (fun n H' M' L' => ∃ l149 : List U32, ∃ n151 : Int, ∃ n152 : Int, ∃ xs148 : List Value, loopF (fun s155 n => m_large_shortDiv_b1 p0_a p1_d s155.1 s155.2.1 s155.2.2 n) n (l149, n151, n152) = some r ∧ Rw H' v102 xs148 l149 ∧ H.le H' ∧ .row v102 81 (Rep.sz U32) l149.length xs148 :: M = M' ∧ [(0, v0), (1, .int .u32 (p1_d)), (6, v102), (7, .int .u64 (n151)), (8, .int .i64 (n152))] = L') FUEL ⟨(List.replicate ((p0_a.length : Int) : Int).toNat (⟨0⟩ : U32)), 0, IntKind.i64.wrap ((p0_a.length : Int) - 1), xs103, hm, hr104, (Hp.le_refl _), rfl, rfl⟩ ?_
 rintro n158 H153 _ _ ⟨l149, n151, n152, xs148, hm, hr150, hle154, rfl, rfl⟩
 cases n158 with
 | zero => cases hm
 | succ n158 =>
  have hm : m_large_shortDiv_b1 p0_a p1_d l149 n151 n152 (loopF (fun s155 n => m_large_shortDiv_b1 p0_a p1_d s155.1 s155.2.1 s155.2.2 n) n158) = some r := hm
  generalize hn157 : loopF (fun s155 n => m_large_shortDiv_b1 p0_a p1_d s155.1 s155.2.1 s155.2.2 n) n158 = nx156 at hm
  unfold m_large_shortDiv_b1 at hm
  refine C_seq (C_seq (C_region ?_))
  refine W_move rfl rfl rfl ?_
  refine W_bin rfl rfl rfl rfl rfl ?_
  refine W_end (E_then ?_)
  refine C_cond (b := decide (0 ≤ n152)) rfl (fun hb164 => ?_) (fun hb164 => ?_)
  ·have hm := ite_t' hb164 hm
   refine C_skip (E_then (C_seq (C_block (C_seq (C_region ?_)))))
   refine W_move rfl rfl rfl ?_
   refine W_shl rfl rfl rfl rfl (by decide) ?_
   refine W_move rfl rfl rfl ?_
   refine W_move rfl rfl rfl ?_
   obtain ⟨y165, h166, he167, hm⟩ := idx_some hm
   obtain ⟨_, rfl, hc168⟩ := (h0).elem he167
   refine W_indexS rfl rfl runUnderlying46 sizeOf81 rfl (h0.mono hle154) rfl h166 he167 ?_
   refine W_load rfl rfl isAgg81 rfl (HCells.one (hc168.mono hle154) 0 rfl).at ?_
   refine W_convInt rfl rfl runUnderlying81 runUnderlying85 rfl ?_
   refine W_bin rfl rfl rfl rfl rfl ?_
   refine W_assign rfl rfl rfl ?_
   refine W_end (E_then (C_seq (C_region ?_)))
   refine W_move rfl rfl rfl ?_
   refine W_move rfl rfl rfl ?_
   refine W_move rfl rfl rfl ?_
   refine W_move rfl rfl rfl ?_
   refine W_convInt rfl rfl runUnderlying81 runUnderlying85 rfl ?_
   obtain ⟨hq169, hm⟩ := need_some hm
   refine W_quo rfl rfl rfl rfl hq169 ?_
   refine W_convInt rfl rfl runUnderlying85 runUnderlying81 rfl ?_
   obtain ⟨y170, h171, he172, hm⟩ := idx_some hm
   refine W_indexO (List.mem_cons_self ..) rfl rfl runUnderlying46 sizeOf81 rfl rfl h171 (List.getElem?_eq_some_iff.1 he172).1 ?_
   obtain ⟨_, rfl, hg173⟩ := (hr150).elem he172
   obtain ⟨hr174, he175, hg176⟩ := Rw.put (cs := [.int .u32 (IntKind.u32.wrap (IntKind.u64.wrap (Int.tdiv (IntKind.u64.wrap ((BitVec.ofInt (IntKind.u64).bits (shlV .u64 n151 32) ||| BitVec.ofInt (IntKind.u64).bits (IntKind.u64.wrap (y165.n))).toNat)) (IntKind.u64.wrap (p1_d)))))]) (o := 0) (c := [.int .u32 (y170.n)]) (out := [.int .u32 (IntKind.u32.wrap (IntKind.u64.wrap (Int.tdiv (IntKind.u64.wrap ((BitVec.ofInt (IntKind.u64).bits (shlV .u64 n151 32) ||| BitVec.ofInt (IntKind.u64).bits (IntKind.u64.wrap (y165.n))).toNat)) (IntKind.u64.wrap (p1_d)))))]) (e2 := ⟨IntKind.u32.wrap (IntKind.u64.wrap (Int.tdiv (IntKind.u64.wrap ((BitVec.ofInt (IntKind.u64).bits (shlV .u64 n151 32) ||| BitVec.ofInt (IntKind.u64).bits (IntKind.u64.wrap (y165.n))).toNat)) (IntKind.u64.wrap (p1_d))))⟩) hr150 he172 rfl hg173 rfl rfl rfl
   refine W_storeO2 (i := (n152 : Int).toNat * Rep.sz U32 + 0) (cs := [.int .u32 (IntKind.u32.wrap (IntKind.u64.wrap (Int.tdiv (IntKind.u64.wrap ((BitVec.ofInt (IntKind.u64).bits (shlV .u64 n151 32) ||| BitVec.ofInt (IntKind.u64).bits (IntKind.u64.wrap (y165.n))).toNat)) (IntKind.u64.wrap (p1_d)))))]) rfl sizeOf81 rfl (row_ad0 _ _) rfl rfl rfl (Rw.room hr150 he172 rfl) rfl (all_cons rfl all_nil) (n' := (l149.set ((n152 : Int).toNat) ⟨IntKind.u32.wrap (IntKind.u64.wrap (Int.tdiv (IntKind.u64.wrap ((BitVec.ofInt (IntKind.u64).bits (shlV .u64 n151 32) ||| BitVec.ofInt (IntKind.u64).bits (IntKind.u64.wrap (y165.n))).toNat)) (IntKind.u64.wrap (p1_d))))⟩).length) List.length_set ?_
   generalize over xs148 ((n152 : Int).toNat * Rep.sz U32 + 0) [.int .u32 (IntKind.u32.wrap (IntKind.u64.wrap (Int.tdiv (IntKind.u64.wrap ((BitVec.ofInt (IntKind.u64).bits (shlV .u64 n151 32) ||| BitVec.ofInt (IntKind.u64).bits (IntKind.u64.wrap (y165.n))).toNat)) (IntKind.u64.wrap (p1_d)))))] = xs177 at hr174 hg176 ⊢
   refine W_end (E_then (C_region ?_))
   refine W_move rfl rfl rfl ?_
   refine W_move rfl rfl rfl ?_
   refine W_convInt rfl rfl runUnderlying81 runUnderlying85 rfl ?_
   obtain ⟨hq178, hm⟩ := need_some hm
   refine W_rem rfl rfl rfl rfl hq178 ?_
   refine W_assign rfl rfl rfl ?_
   refine W_end (E_normal_block (E_then (C_region ?_)))
   refine W_move rfl rfl rfl ?_
   refine W_bin rfl rfl rfl rfl rfl ?_
   refine W_assign rfl rfl rfl ?_
   refine W_end ?_
   exact E_keepJ (E_back (Nat.lt_succ_self _) ⟨(l149.set ((n152 : Int).toNat) ⟨IntKind.u32.wrap (IntKind.u64.wrap (Int.tdiv (IntKind.u64.wrap ((BitVec.ofInt (IntKind.u64).bits (shlV .u64 n151 32) ||| BitVec.ofInt (IntKind.u64).bits (IntKind.u64.wrap (y165.n))).toNat)) (IntKind.u64.wrap (p1_d))))⟩), Int.tmod (IntKind.u64.wrap ((BitVec.ofInt (IntKind.u64).bits (shlV .u64 n151 32) ||| BitVec.ofInt (IntKind.u64).bits (IntKind.u64.wrap (y165.n))).toNat)) (IntKind.u64.wrap (p1_d)), IntKind.i64.wrap (n152 - 1), xs177, (by rw [hn157]; exact hm), hr174, hle154, rfl, rfl⟩) (List.Perm.refl _) ⟨rfl, rfl, rfl, rfl, rfl, trivial⟩
  ·have hm := ite_f' hb164 hm
   refine C_exit (E_exit_then (E_exit_then (E_exit_hit (E_then (C_seq (C_region ?_))))))
   refine W_move rfl rfl rfl ?_
   refine W_move rfl rfl rfl ?_
   refine W_convInt rfl rfl runUnderlying85 runUnderlying81 rfl ?_
   refine W_assign rfl rfl rfl ?_
   refine W_assign rfl rfl rfl ?_
   refine W_end (E_then (C_ret ?_))
   obtain rfl := Option.some.inj hm
   refine E_weak hle154 ?_
   exact end2 rfl rfl rfl ⟨rfl, v102, xs148, rfl, rfl, (hr150).toF⟩

theorem m_math_bits_Len32_c {B : Nat} {w0 w : World} [Tabs B w0] {H : Hp} {M : List Res} {p0_x : Int} {r : Int} (hm : m_math_bits_Len32 p0_x = some r) (ht : St B w0 H (M) w) :
  Calls prog 100 [.int .u32 (p0_x)].toArray w (Ret B w0 fun H' M' v => H = H' ∧ M = M' ∧ .int .i64 (r) = v) := by
 unfold m_math_bits_Len32 at hm
 refine enter func100 rfl rfl rfl ht ?_
 refine C_seq (C_region ?_)
 refine W_assign rfl rfl rfl ?_
 refine W_end (E_then ?_)
 refine C_seq_join (fun H' M' L' => ∃ n102 : Int, ∃ n103 : Int, m_math_bits_Len32_b2 n102 n103 = some r ∧ H = H' ∧ M = M' ∧ [(0, .int .u32 (n102)), (2, .int .i64 (n103))] = L') ?_ (fun J104 => ?_)
 ·rintro _ _ _ ⟨n102, n103, hm, rfl, rfl, rfl⟩
  unfold m_math_bits_Len32_b2 at hm
  refine C_seq_join (fun H' M' L' => ∃ n106 : Int, ∃ n107 : Int, m_math_bits_Len32_b1 n106 n107 = some r ∧ H = H' ∧ M = M' ∧ [(0, .int .u32 (n106)), (2, .int .i64 (n107))] = L') ?_ (fun J108 => ?_)
  ·rintro _ _ _ ⟨n106, n107, hm, rfl, rfl, rfl⟩
   unfold m_math_bits_Len32_b1 at hm
   refine C_seq (C_region ?_)
   refine W_move rfl rfl rfl ?_
   refine W_move rfl rfl rfl ?_
   refine W_convInt rfl rfl runUnderlying81 runUnderlying5 rfl ?_
   obtain ⟨y109, h110, he111, hm⟩ := idx_some hm
   refine W_indexStr rfl rfl runUnderlying9 rfl rfl h110 he111 ?_
   refine W_convInt rfl rfl runUnderlying5 runUnderlying3 rfl ?_
   refine W_bin rfl rfl rfl rfl rfl ?_
   refine W_assign rfl rfl rfl ?_
   refine W_end (E_then (C_ret ?_))
   obtain rfl := Option.some.inj hm
   refine E_weak (Hp.le_refl _) ?_
   exact end1 rfl rfl ⟨rfl, rfl, rfl⟩
  ·refine C_seq (C_region ?_)
   refine W_move rfl rfl rfl ?_
   refine W_bin rfl rfl rfl rfl rfl ?_
   refine W_end (E_then ?_)
   refine C_cond (b := decide (256 ≤ n102)) rfl (fun hb112 => ?_) (fun hb112 => ?_)
   ·have hm := ite_t' hb112 hm
    refine C_seq (C_region ?_)
    refine W_move rfl rfl rfl ?_
    refine W_shr rfl rfl rfl rfl (by decide) ?_
    refine W_assign rfl rfl rfl ?_
    refine W_end (E_then (C_region ?_))
    refine W_move rfl rfl rfl ?_
    refine W_bin rfl rfl rfl rfl rfl ?_
    refine W_assign rfl rfl rfl ?_
    refine W_end ?_
    exact E_keepJ (J108 _ _ _ ⟨shrV .u32 n102 8, IntKind.i64.wrap (n103 + 8), hm, rfl, rfl, rfl⟩) (List.Perm.refl _) ⟨rfl, rfl, trivial⟩
   ·have hm := ite_f' hb112 hm
    refine C_skip ?_
    exact E_keepJ (J108 _ _ _ ⟨n102, n103, hm, rfl, rfl, rfl⟩) (List.Perm.refl _) ⟨rfl, rfl, trivial⟩
 ·refine C_seq (C_region ?_)
  refine W_move rfl rfl rfl ?_
  refine W_bin rfl rfl rfl rfl rfl ?_
  refine W_end (E_then ?_)
  refine C_cond (b := decide (65536 ≤ p0_x)) rfl (fun hb113 => ?_) (fun hb113 => ?_)
  ·have hm := ite_t' hb113 hm
   refine C_seq (C_region ?_)
   refine W_move rfl rfl rfl ?_
   refine W_shr rfl rfl rfl rfl (by decide) ?_
   refine W_assign rfl rfl rfl ?_
   refine W_end (E_then (C_region ?_))
   refine W_assign rfl rfl rfl ?_
   refine W_end ?_
   exact E_keepJ (J104 _ _ _ ⟨shrV .u32 p0_x 16, 16, hm, rfl, rfl, rfl⟩) (List.Perm.refl _) ⟨rfl, rfl, trivial⟩
  ·have hm := ite_f' hb113 hm
   refine C_skip ?_
   exact E_keepJ (J104 _ _ _ ⟨p0_x, 0, hm, rfl, rfl, rfl⟩) (List.Perm.refl _) ⟨rfl, rfl, trivial⟩

theorem m_math_bits_LeadingZeros32_c {B : Nat} {w0 w : World} [Tabs B w0] {H : Hp} {M : List Res} {p0_x : Int} {r : Int} (hm : m_math_bits_LeadingZeros32 p0_x = some r) (ht : St B w0 H (M) w) :
  Calls prog 83 [.int .u32 (p0_x)].toArray w (Ret B w0 fun H' M' v => H = H' ∧ M = M' ∧ .int .i64 (r) = v) := by
 unfold m_math_bits_LeadingZeros32 at hm
 refine enter func83 rfl rfl rfl ht ?_
 refine C_seq (C_region ?_)
 refine W_assign rfl rfl rfl ?_
 refine W_end (E_then (C_seq (C_region ?_)))
 refine W_move rfl rfl rfl ?_
 obtain ⟨r101, hc102, hm⟩ := bind_some hm
 refine W_call call100 rfl rfl rfl (fun w ht => by have h := m_math_bits_Len32_c (hm := hc102)  ht; exact h) ?_
 rintro _ _ _ ⟨rfl, rfl, rfl⟩
 refine W_bin rfl rfl rfl rfl rfl ?_
 refine W_assign rfl rfl rfl ?_
 refine W_end (E_then (C_ret ?_))
 obtain rfl := Option.some.inj hm
 refine E_weak (Hp.le_refl _) ?_
 exact end1 rfl rfl ⟨rfl, rfl, rfl⟩

theorem m_large_shifted_c {B : Nat} {w0 w : World} [Tabs B w0] {H : Hp} {M : List Res} {p0_a : (List U32)} {p1_s : Int} {v0 : Value} {r : (List U32)} (hm : m_large_shifted p0_a p1_s = some r) (h0 : RdS H v0 p0_a) (ht : St B w0 H (M) w) :
  Calls prog 84 [v0, .int .i64 (p1_s)].toArray w (Ret B w0 fun H' M' v => H = H' ∧ ∃ qv0 : Value, ∃ qxs0 : List Value, .row qv0 81 (Rep.sz U32) r.length qxs0 :: M = M' ∧ qv0 = v ∧ RwF qv0 qxs0 r) := by
 unfold m_large_shifted at hm
 refine enter func84 rfl rfl rfl ht ?_
 refine C_seq (C_region ?_)
 refine W_assign rfl rfl rfl ?_
 refine W_end (E_then (C_seq (C_region ?_)))
 refine W_move rfl rfl rfl ?_
 refine W_lenR rfl rfl runUnderlying46 rfl h0 ?_
 refine W_bin rfl rfl rfl rfl rfl ?_
 obtain ⟨hz101, hm⟩ := need_some hm
 refine W_makeSlice (α := U32) (zs := [.int .u32 (0)]) (ze := ⟨0⟩) rfl rfl underlying46 ⟨_, rfl, rfl, rfl, rfl⟩ rfl rfl rfl rfl rfl rfl hz101.1 hz101.2 ?_
 intro v102 xs103 hr104
 refine W_assign rfl rfl rfl ?_
 refine W_end (E_then (C_seq (C_region ?_)))
 refine W_assign rfl rfl rfl ?_
 refine W_end (E_then (C_seq (C_seq (C_region ?_))))
 refine W_move rfl rfl rfl ?_
 refine W_lenR rfl rfl runUnderlying46 rfl h0 ?_
 refine W_move rfl rfl rfl ?_
 refine W_end (E_then (C_block ?_))
 refine C_keep (L' := [(0, v0), (1, .int .i64 (p1_s)), (5, v102), (6, .int .u64 (0)), (13, v0), (14, .int .i64 ((p0_a.length : Int))), (15, .int .i64 (((0 : Nat) : Int)))]) ⟨rfl, rfl, rfl, rfl, rfl, rfl, rfl, trivial⟩ (List.Perm.refl _) ?_
 refine C_loop (fun n H' M' L' => ∃ (k105 : Nat) (zs148' : List U32), ∃ l138 : List U32, ∃ n140 : Int, ∃ xs137 : List Value, (p0_a).drop k105 = zs148' ∧ zs148'.length = n ∧ forI (fun k y s143 n => m_large_shifted_b1 p1_s k y s143.1 s143.2 n) (fun s143 => idx s143.1 (p0_a.length : Int) fun y163 => some (s143.1.set (((p0_a.length : Int) : Int).toNat) ⟨IntKind.u32.wrap (s143.2)⟩)) k105 zs148' (l138, n140) = some r ∧ Rw H' v102 xs137 l138 ∧ H.le H' ∧ .row v102 81 (Rep.sz U32) l138.length xs137 :: M = M' ∧ [(0, v0), (1, .int .i64 (p1_s)), (5, v102), (6, .int .u64 (n140)), (13, v0), (14, .int .i64 ((p0_a.length : Int))), (15, .int .i64 ((k105 : Int)))] = L') _ ⟨0, _, (List.replicate (IntKind.i64.wrap ((p0_a.length : Int) + 1) : Int).toNat (⟨0⟩ : U32)), 0, xs103, rfl, rfl, hm, hr104, (Hp.le_refl _), rfl, rfl⟩ ?_
 rintro _ H141 _ _ ⟨k105, zs148', l138, n140, xs137, hd150, rfl, hm, hr139, hle142, rfl, rfl⟩
 refine C_seq (C_region ?_)
 refine W_bin rfl rfl rfl rfl rfl ?_
 refine W_end (E_then (C_seq ?_))
 refine C_cond (b := decide ((k105 : Int) < (p0_a.length : Int))) rfl (fun hb152 => ?_) (fun hb152 => ?_)
 ·obtain ⟨y147, zs148, rfl, hy149, hd151⟩ := rng_t hd150 hb152
  have hm : m_large_shifted_b1 p1_s k105 y147 l138 n140 (forI (fun k y s143 n => m_large_shifted_b1 p1_s k y s143.1 s143.2 n) (fun s143 => idx s143.1 (p0_a.length : Int) fun y163 => some (s143.1.set (((p0_a.length : Int) : Int).toNat) ⟨IntKind.u32.wrap (s143.2)⟩)) (k105 + 1) zs148) = some r := hm
  generalize hn145 : forI (fun k y s143 n => m_large_shifted_b1 p1_s k y s143.1 s143.2 n) (fun s143 => idx s143.1 (p0_a.length : Int) fun y163 => some (s143.1.set (((p0_a.length : Int) : Int).toNat) ⟨IntKind.u32.wrap (s143.2)⟩)) (k105 + 1) zs148 = nx144 at hm
  unfold m_large_shifted_b1 at hm
  refine C_skip (E_then (C_seq (C_block (C_seq (C_region ?_)))))
  refine W_move rfl rfl rfl ?_
  obtain ⟨_, rfl, hc153⟩ := (h0).elem hy149
  refine W_indexS rfl rfl runUnderlying46 sizeOf81 rfl (h0.mono hle142) rfl (Int.natCast_nonneg _) hy149 ?_
  refine W_load rfl rfl isAgg81 rfl (HCells.one (hc153.mono hle142) 0 rfl).at ?_
  refine W_assign rfl rfl rfl ?_
  refine W_assign rfl rfl rfl ?_
  refine W_end (E_then (C_seq (C_region ?_)))
  refine W_move rfl rfl rfl ?_
  refine W_move rfl rfl rfl ?_
  refine W_convInt rfl rfl runUnderlying81 runUnderlying85 rfl ?_
  refine W_move rfl rfl rfl ?_
  obtain ⟨hq154, hm⟩ := need_some hm
  refine W_shl rfl rfl rfl rfl hq154 ?_
  refine W_bin rfl rfl rfl rfl rfl ?_
  refine W_assign rfl rfl rfl ?_
  refine W_end (E_then (C_seq (C_region ?_)))
  refine W_move rfl rfl rfl ?_
  refine W_move rfl rfl rfl ?_
  refine W_move rfl rfl rfl ?_
  refine W_convInt rfl rfl runUnderlying85 runUnderlying81 rfl ?_
  obtain ⟨y155, h156, he157, hm⟩ := idx_some hm
  refine W_indexO (List.mem_cons_self ..) rfl rfl runUnderlying46 sizeOf81 rfl rfl h156 (List.getElem?_eq_some_iff.1 he157).1 ?_
  obtain ⟨_, rfl, hg158⟩ := (hr139).elem he157
  obtain ⟨hr159, he160, hg161⟩ := Rw.put (cs := [.int .u32 (IntKind.u32.wrap (IntKind.u64.wrap ((BitVec.ofInt (IntKind.u64).bits n140 ||| BitVec.ofInt (IntKind.u64).bits (shlV .u64 (IntKind.u64.wrap (y147.n)) p1_s)).toNat)))]) (o := 0) (c := [.int .u32 (y155.n)]) (out := [.int .u32 (IntKind.u32.wrap (IntKind.u64.wrap ((BitVec.ofInt (IntKind.u64).bits n140 ||| BitVec.ofInt (IntKind.u64).bits (shlV .u64 (IntKind.u64.wrap (y147.n)) p1_s)).toNat)))]) (e2 := ⟨IntKind.u32.wrap (IntKind.u64.wrap ((BitVec.ofInt (IntKind.u64).bits n140 ||| BitVec.ofInt (IntKind.u64).bits (shlV .u64 (IntKind.u64.wrap (y147.n)) p1_s)).toNat))⟩) hr139 he157 rfl hg158 rfl rfl rfl
  refine W_storeO2 (i := ((k105 : Int) : Int).toNat * Rep.sz U32 + 0) (cs := [.int .u32 (IntKind.u32.wrap (IntKind.u64.wrap ((BitVec.ofInt (IntKind.u64).bits n140 ||| BitVec.ofInt (IntKind.u64).bits (shlV .u64 (IntKind.u64.wrap (y147.n)) p1_s)).toNat)))]) rfl sizeOf81 rfl (row_ad0 _ _) rfl rfl rfl (Rw.room hr139 he157 rfl) rfl (all_cons rfl all_nil) (n' := (l138.set (((k105 : Int) : Int).toNat) ⟨IntKind.u32.wrap (IntKind.u64.wrap ((BitVec.ofInt (IntKind.u64).bits n140 ||| BitVec.ofInt (IntKind.u64).bits (shlV .u64 (IntKind.u64.wrap (y147.n)) p1_s)).toNat))⟩).length) List.length_set ?_
  generalize over xs137 (((k105 : Int) : Int).toNat * Rep.sz U32 + 0) [.int .u32 (IntKind.u32.wrap (IntKind.u64.wrap ((BitVec.ofInt (IntKind.u64).bits n140 ||| BitVec.ofInt (IntKind.u64).bits (shlV .u64 (IntKind.u64.wrap (y147.n)) p1_s)).toNat)))] = xs162 at hr159 hg161 ⊢
  refine W_end (E_then (C_region ?_))
  refine W_move rfl rfl rfl ?_
  refine W_shr rfl rfl rfl rfl (by decide) ?_
  refine W_assign rfl rfl rfl ?_
  refine W_end (E_normal_block (E_then (C_region ?_)))
  refine W_bin rfl rfl rfl rfl rfl ?_
  refine W_move rfl rfl rfl ?_
  refine W_end ?_
  exact E_keepJ (E_back (Nat.lt_succ_self _) ⟨k105 + 1, zs148, (l138.set (((k105 : Int) : Int).toNat) ⟨IntKind.u32.wrap (IntKind.u64.wrap ((BitVec.ofInt (IntKind.u64).bits n140 ||| BitVec.ofInt (IntKind.u64).bits (shlV .u64 (IntKind.u64.wrap (y147.n)) p1_s)).toNat))⟩), shrV .u64 (IntKind.u64.wrap ((BitVec.ofInt (IntKind.u64).bits n140 ||| BitVec.ofInt (IntKind.u64).bits (shlV .u64 (IntKind.u64.wrap (y147.n)) p1_s)).toNat)) 32, xs162, hd151, rfl, (by rw [hn145]; exact hm), hr159, hle142, rfl, rfl⟩) (List.Perm.refl _) ⟨rfl, rfl, rfl, rfl, rfl, rfl, (congrArg (fun z => some (Value.int .i64 z)) (i64_succ hy149 ((h0.mono hle142)).lenMax)), trivial⟩
 ·obtain rfl := rng_f hd150 hb152
  have hm : (idx l138 (p0_a.length : Int) fun y163 => some (l138.set (((p0_a.length : Int) : Int).toNat) ⟨IntKind.u32.wrap (n140)⟩)) = some r := hm
  refine C_exit (E_exit_then (E_exit_then (E_exit_hit (E_then (C_seq (C_region ?_))))))
  refine W_move rfl rfl rfl ?_
  refine W_move rfl rfl rfl ?_
  refine W_lenR rfl rfl runUnderlying46 rfl (h0.mono hle142) ?_
  refine W_move rfl rfl rfl ?_
  refine W_convInt rfl rfl runUnderlying85 runUnderlying81 rfl ?_
  obtain ⟨y163, h164, he165, hm⟩ := idx_some hm
  refine W_indexO (List.mem_cons_self ..) rfl rfl runUnderlying46 sizeOf81 rfl rfl h164 (List.getElem?_eq_some_iff.1 he165).1 ?_
  obtain ⟨_, rfl, hg166⟩ := (hr139).elem he165
  obtain ⟨hr167, he168, hg169⟩ := Rw.put (cs := [.int .u32 (IntKind.u32.wrap (n140))]) (o := 0) (c := [.int .u32 (y163.n)]) (out := [.int .u32 (IntKind.u32.wrap (n140))]) (e2 := ⟨IntKind.u32.wrap (n140)⟩) hr139 he165 rfl hg166 rfl rfl rfl
  refine W_storeO2 (i := ((p0_a.length : Int) : Int).toNat * Rep.sz U32 + 0) (cs := [.int .u32 (IntKind.u32.wrap (n140))]) rfl sizeOf81 rfl (row_ad0 _ _) rfl rfl rfl (Rw.room hr139 he165 rfl) rfl (all_cons rfl all_nil) (n' := (l138.set (((p0_a.length : Int) : Int).toNat) ⟨IntKind.u32.wrap (n140)⟩).length) List.length_set ?_
  generalize over xs137 (((p0_a.length : Int) : Int).toNat * Rep.sz U32 + 0) [.int .u32 (IntKind.u32.wrap (n140))] = xs170 at hr167 hg169 ⊢
  refine W_end (E_then (C_seq (C_region ?_)))
  refine W_move rfl rfl rfl ?_
  refine W_assign rfl rfl rfl ?_
  refine W_end (E_then (C_ret ?_))
  obtain rfl := Option.some.inj hm
  refine E_weak hle142 ?_
  exact end1 rfl rfl ⟨rfl, v102, xs170, rfl, rfl, (hr167).toF⟩

theorem m_large_divWords_c {B : Nat} {w0 w : World} [Tabs B w0] {H : Hp} {M : List Res} {p0_a : (List U32)} {p1_b : (List U32)} {v0 : Value} {v1 : Value} {r : (List U32) × (List U32)} (hm : m_large_divWords p0_a p1_b = some r) (h0 : RdS H v0 p0_a) (h1 : RdS H v1 p1_b) (ht : St B w0 H (M) w) :
  Calls prog 72 [v0, v1].toArray w (Ret B w0 fun H' M' v => H.le H' ∧ ∃ qv0 : Value, ∃ qv1 : Value, M = M' ∧ .tuple #[qv0, qv1] = v ∧ RdS H' qv0 r.1 ∧ RdS H' qv1 r.2) := by
 unfold m_large_divWords at hm
 refine enter func72 rfl rfl rfl ht ?_
 refine C_seq (C_region ?_)
 refine W_assign rfl rfl rfl ?_
 refine W_assign rfl rfl rfl ?_
 refine W_end (E_then (C_seq (C_seq (C_region ?_))))
 refine W_move rfl rfl rfl ?_
 refine W_move rfl rfl rfl ?_
 obtain ⟨r101, hc102, hm⟩ := bind_some hm
 refine W_call call58 rfl rfl rfl (fun w ht => by have h := m_large_cmpWords_c (hm := hc102) h0 h1 ht; exact h) ?_
 rintro _ _ _ ⟨rfl, rfl, rfl⟩
 refine W_bin rfl rfl rfl rfl rfl ?_
 refine W_end (E_then ?_)
 refine C_cond (b := decide (r101 < 0)) rfl (fun hb103 => ?_) (fun hb103 => ?_)
 ·have hm := ite_t' hb103 hm
  refine C_seq (C_region ?_)
  refine W_move rfl rfl rfl ?_
  refine W_assign rfl rfl rfl ?_
  refine W_assign rfl rfl rfl ?_
  refine W_end (E_then (C_ret (E_ret_then ?_)))
  obtain rfl := Option.some.inj hm
  exact end2 rfl rfl rfl ⟨(Hp.le_refl _), (.slice none 0 0), v0, rfl, rfl, RdS.nil, h0⟩
 ·have hm := ite_f' hb103 hm
  refine C_skip (E_then (C_seq (C_seq (C_region ?_))))
  refine W_move rfl rfl rfl ?_
  refine W_lenR rfl rfl runUnderlying46 rfl h1 ?_
  refine W_bin rfl rfl rfl rfl rfl ?_
  refine W_end (E_then ?_)
  refine C_cond (b := decide ((p1_b.length : Int) = 1)) rfl (fun hb104 => ?_) (fun hb104 => ?_)
  ·have hm := ite_t' hb104 hm
   refine C_seq (C_region ?_)
   refine W_move rfl rfl rfl ?_
   refine W_move rfl rfl rfl ?_
   obtain ⟨y105, h106, he107, hm⟩ := idx_some hm
   obtain ⟨_, rfl, hc108⟩ := (h1).elem he107
   refine W_indexS rfl rfl runUnderlying46 sizeOf81 rfl h1 rfl h106 he107 ?_
   refine W_load rfl rfl isAgg81 rfl (HCells.one hc108 0 rfl).at ?_
   obtain ⟨r109, hc110, hm⟩ := bind_some hm
   refine W_call call68 rfl rfl rfl (fun w ht => by have h := m_large_shortDiv_c (hm := hc110) h0 ht; exact h) ?_
   rintro _ _ _ ⟨rfl, v111, xs112, rfl, rfl, h113⟩
   have h113 := h113 H
   refine W_move rfl rfl rfl ?_
   refine W_extract rfl rfl rfl rfl ?_
   refine W_extract rfl rfl rfl rfl ?_
   refine W_assign rfl rfl rfl ?_
   refine W_assign rfl rfl rfl ?_
   refine W_end (E_then (C_seq (C_region ?_)))
   refine W_move rfl rfl rfl ?_
   refine W_move rfl rfl rfl ?_
   refine W_buildSliceO (α := U32) (css := [[.int .u32 (r109.2)]]) (zs := [.int .u32 (0)]) (out := [.int .u32 (r109.2)]) (ys := ([⟨r109.2⟩] : List U32)) rfl rfl rfl ⟨rfl, trivial⟩ runUnderlying46 sizeOf81 rfl zeroValue81 (by kernel_rfl) rfl rfl rfl rfl ⟨[.int .u32 (r109.2)], [], rfl, rfl, rfl⟩ rfl ?_
   intro v114 xs115 hr116
   refine W_assign rfl rfl rfl ?_
   refine W_assign rfl rfl rfl ?_
   refine W_end (E_then (C_ret (E_ret_then ?_)))
   refine E_perm (List.Perm.swap _ _ _) ?_
   refine E_freeze (h113).rd rfl (fun H117 hle118 h119 => ?_)
   refine E_freeze ((hr116.mono hle118)).rd rfl (fun H120 hle121 h122 => ?_)
   obtain rfl := Option.some.inj hm
   exact end2 rfl rfl rfl ⟨(Hp.le_trans hle118 hle121), v111, v114, rfl, rfl, (h119.mono hle121), h122⟩
  ·have hm := ite_f' hb104 hm
   refine C_skip (E_then (C_seq (C_region ?_)))
   refine W_move rfl rfl rfl ?_
   refine W_move rfl rfl rfl ?_
   refine W_lenR rfl rfl runUnderlying46 rfl h1 ?_
   refine W_bin rfl rfl rfl rfl rfl ?_
   obtain ⟨y123, h124, he125, hm⟩ := idx_some hm
   obtain ⟨_, rfl, hc126⟩ := (h1).elem he125
   refine W_indexS rfl rfl runUnderlying46 sizeOf81 rfl h1 rfl h124 he125 ?_
   refine W_load rfl rfl isAgg81 rfl (HCells.one hc126 0 rfl).at ?_
   obtain ⟨r127, hc128, hm⟩ := bind_some hm
   refine W_call call83 rfl rfl rfl (fun w ht => by have h := m_math_bits_LeadingZeros32_c (hm := hc128)  ht; exact h) ?_
   rintro _ _ _ ⟨rfl, rfl, rfl⟩
   refine W_assign rfl rfl rfl ?_
   refine W_end (E_then (C_seq ?_))
   obtain ⟨r129, hc130, hm⟩ := bind_some hm
   obtain ⟨r134, hc135, hm⟩ := bind_some hm
   obtain ⟨hz139, hm⟩ := need_some hm
   refine C_region_tok0 10 (phiT [(fun H rs v => [] = rs ∧ v0 = v), (fun H rs v => [] = rs ∧ .int .i64 (r127) = v), (fun H rs v => ∃ v143 : Value, ∃ xs144 : List Value, [.row v143 81 (Rep.sz U32) r129.length xs144] = rs ∧ v143 = v ∧ Rw H v143 xs144 r129), (fun H rs v => [] = rs ∧ v1 = v), (fun H rs v => [] = rs ∧ .int .i64 (r127) = v), (fun H rs v => ∃ v146 : Value, ∃ xs147 : List Value, [.row v146 81 (Rep.sz U32) r134.length xs147] = rs ∧ v146 = v ∧ Rw H v146 xs147 r134), (fun H rs v => [] = rs ∧ v1 = v), (fun H rs v => [] = rs ∧ .int .i64 ((p1_b.length : Int)) = v), (fun H rs v => ∃ v149 : Value, ∃ xs150 : List Value, [.row v149 81 (Rep.sz U32) (slc r134 0 (((p1_b.length : Int) : Int).toNat)).length xs150] = rs ∧ v149 = v ∧ Rw H v149 xs150 (slc r134 0 (((p1_b.length : Int) : Int).toNat))), (fun H rs v => ∃ v143 : Value, ∃ xs144 : List Value, [.row v143 81 (Rep.sz U32) r129.length xs144] = rs ∧ v143 = v ∧ Rw H v143 xs144 r129)]) [[], [], [], [], [], [], [], [], [5], [2]] [[], [], [], [], [], [], [], [], [], []] [] [0, 1, 3, 4, 6, 7, 8, 9] Facts.mixed (by kernel_rfl) (by rfl) (by rfl) (by rfl) (by kernel_rfl) (phiT_mono ⟨eq_monoT _ _, eq_monoT _ _, (by rintro H1 H2 rs v hle ⟨v143, xs144, rfl, rfl, h145⟩; exact ⟨v143, xs144, rfl, rfl, (h145.mono hle)⟩), eq_monoT _ _, eq_monoT _ _, (by rintro H1 H2 rs v hle ⟨v146, xs147, rfl, rfl, h148⟩; exact ⟨v146, xs147, rfl, rfl, (h148.mono hle)⟩), eq_monoT _ _, eq_monoT _ _, (by rintro H1 H2 rs v hle ⟨v149, xs150, rfl, rfl, hr151⟩; exact ⟨v149, xs150, rfl, rfl, (hr151.mono hle)⟩), (by rintro H1 H2 rs v hle ⟨v143, xs144, rfl, rfl, h145⟩; exact ⟨v143, xs144, rfl, rfl, (h145.mono hle)⟩), trivial⟩) ⟨?_, ?_, ?_, ?_, ?_, ?_, ?_, ?_, ?_, ?_, trivial⟩ ?_
   ·intro HX hX X Rest hR
    intro hU hUp
    refine W_move rfl rfl rfl ?_
    exact W_end (OneT_end [] (Hp.le_refl _) ⟨rfl, rfl⟩)
   ·intro HX hX X Rest hR
    intro hU hUp
    refine W_move rfl rfl rfl ?_
    exact W_end (OneT_end [] (Hp.le_refl _) ⟨rfl, rfl⟩)
   ·intro HX hX X Rest hR
    rintro _ _ ⟨rfl, rfl⟩
    rintro _ _ ⟨rfl, rfl⟩
    intro hU hUp
    refine W_call call84 rfl rfl rfl (fun w ht => by have h := m_large_shifted_c (hm := hc130) (h0.mono hX) ht; exact h) ?_
    rintro _ _ _ ⟨rfl, v143, xs144, rfl, rfl, h145⟩
    have h145 := h145 HX
    exact W_end (OneT_end [.row v143 81 (Rep.sz U32) r129.length xs144] (Hp.le_refl _) ⟨v143, xs144, rfl, rfl, (h145)⟩)
   ·intro HX hX X Rest hR
    intro hU hUp
    refine W_move rfl rfl rfl ?_
    exact W_end (OneT_end [] (Hp.le_refl _) ⟨rfl, rfl⟩)
   ·intro HX hX X Rest hR
    intro hU hUp
    refine W_move rfl rfl rfl ?_
    exact W_end (OneT_end [] (Hp.le_refl _) ⟨rfl, rfl⟩)
   ·intro HX hX X Rest hR
    rintro _ _ ⟨rfl, rfl⟩
    rintro _ _ ⟨rfl, rfl⟩
    rintro _ _ ⟨v143, xs144, rfl, rfl, h145⟩
    intro hU hUp
    refine W_call call84 rfl rfl rfl (fun w ht => by have h := m_large_shifted_c (hm := hc135) (h1.mono hX) ht; exact h) ?_
    rintro _ _ _ ⟨rfl, v146, xs147, rfl, rfl, h148⟩
    have h148 := h148 HX
    exact W_end (OneT_end [.row v146 81 (Rep.sz U32) r134.length xs147] (Hp.le_refl _) ⟨v146, xs147, rfl, rfl, (h148)⟩)
   ·intro HX hX X Rest hR
    intro hU hUp
    refine W_move rfl rfl rfl ?_
    exact W_end (OneT_end [] (Hp.le_refl _) ⟨rfl, rfl⟩)
   ·intro HX hX X Rest hR
    rintro _ _ ⟨rfl, rfl⟩
    intro hU hUp
    refine W_lenR rfl rfl runUnderlying46 rfl (h1.mono hX) ?_
    exact W_end (OneT_end [] (Hp.le_refl _) ⟨rfl, rfl⟩)
   ·intro HX hX X Rest hR
    rintro _ _ ⟨v146, xs147, rfl, rfl, h148⟩
    rintro _ _ ⟨rfl, rfl⟩
    intro hU hUp
    refine W_as (M' := .row v146 81 (Rep.sz U32) r134.length xs147 :: Rest) rfl ?_
    refine W_sliceO (α := U32) (l := 0) (h := ((p1_b.length : Int) : Int).toNat) rfl rfl runUnderlying46 sizeOf81 rfl rfl h148 (by omega) (by omega) (fun m hmm => (.inr ⟨_, _, _, rfl, rfl, by omega, by omega, rfl⟩)) (.inl ⟨rfl, rfl⟩) ?_
    intro v149 xs150 hr151
    exact W_end (OneT_end [.row v149 81 (Rep.sz U32) (slc r134 0 (((p1_b.length : Int) : Int).toNat)).length xs150] (Hp.le_refl _) ⟨v149, xs150, rfl, rfl, (hr151)⟩)
   ·intro HX hX X Rest hR
    rintro _ _ ⟨v143, xs144, rfl, rfl, h145⟩
    rintro _ _ ⟨v146, xs147, rfl, rfl, h148⟩
    rintro _ _ ⟨rfl, rfl⟩
    rintro _ _ ⟨rfl, rfl⟩
    rintro _ _ ⟨v143, xs144, rfl, rfl, h145⟩
    intro hU hUp
    refine W_as (M' := .row v143 81 (Rep.sz U32) r129.length xs144 :: Rest) rfl ?_
    refine W_assign rfl rfl rfl ?_
    exact W_end (OneT_end [.row v143 81 (Rep.sz U32) r129.length xs144] (Hp.le_refl _) ⟨v143, xs144, rfl, rfl, (h145)⟩)
   intro H152 hle153
   rintro _ _ ⟨rfl, rfl⟩
   rintro _ _ ⟨rfl, rfl⟩
   rintro _ _ ⟨v143, xs144, rfl, rfl, h145⟩
   rintro _ _ ⟨rfl, rfl⟩
   rintro _ _ ⟨rfl, rfl⟩
   rintro _ _ ⟨v146, xs147, rfl, rfl, h148⟩
   rintro _ _ ⟨rfl, rfl⟩
   rintro _ _ ⟨rfl, rfl⟩
   rintro _ _ ⟨v149, xs150, rfl, rfl, hr151⟩
   rintro _ _ ⟨v143, xs144, rfl, rfl, h145⟩
   refine W_as (M' := .row v149 81 (Rep.sz U32) (slc r134 0 (((p1_b.length : Int) : Int).toNat)).length xs150 :: .row v143 81 (Rep.sz U32) r129.length xs144 :: M) rfl ?_
   refine W_assign rfl rfl rfl ?_
   refine W_end (E_then (C_seq (C_region ?_)))
   refine W_move rfl rfl rfl ?_
   refine W_lenR rfl rfl runUnderlying46 rfl (h1.mono hle153) ?_
   refine W_assign rfl rfl rfl ?_
   refine W_end (E_then (C_seq (C_region ?_)))
   refine W_move rfl rfl rfl ?_
   refine W_lenR rfl rfl runUnderlying46 rfl (h0.mono hle153) ?_
   refine W_move rfl rfl rfl ?_
   refine W_bin rfl rfl rfl rfl rfl ?_
   refine W_bin rfl rfl rfl rfl rfl ?_
   obtain ⟨hz154, hm⟩ := need_some hm
   refine W_makeSlice (α := U32) (zs := [.int .u32 (0)]) (ze := ⟨0⟩) rfl rfl underlying46 ⟨_, rfl, rfl, rfl, rfl⟩ rfl rfl rfl rfl rfl rfl hz154.1 hz154.2 ?_
   intro v155 xs156 hr157
   refine W_assign rfl rfl rfl ?_
   refine W_end (E_then (C_seq (C_seq (C_region ?_))))
   refine W_move rfl rfl rfl ?_
   refine W_lenR rfl rfl runUnderlying46 rfl (h0.mono hle153) ?_
   refine W_move rfl rfl rfl ?_
   refine W_bin rfl rfl rfl rfl rfl ?_
   refine W_assign rfl rfl rfl ?_
   refine W_end (E_then (C_block ?_))
   refine C_keep (L' := [(4, v155), (8, .int .i64 (r127)), (9, v143), (10, v149), (11, .int .i64 ((p1_b.length : Int))), (12, .int .i64 (IntKind.i64.wrap ((p0_a.length : Int) - (p1_b.length : Int))))]) ⟨rfl, rfl, rfl, rfl, rfl, rfl, trivial⟩ (List.Perm.cons _ (List.Perm.swap _ _ _)) ?_
   refine C_loop (fun n H' M' L' => ∃ l1218 : List U32, ∃ l1222 : List U32, ∃ n1224 : Int, ∃ xs1217 : List Value, ∃ xs1221 : List Value, loopF (fun s1227 n => m_large_divWords_b15 p1_b r127 r134 s1227.1 s1227.2.1 s1227.2.2 n) n (l1218, l1222, n1224) = some r ∧ Rw H' v155 xs1217 l1218 ∧ Rw H' v143 xs1221 l1222 ∧ H152.le H' ∧ .row v155 81 (Rep.sz U32) l1218.length xs1217 :: .row v143 81 (Rep.sz U32) l1222.length xs1221 :: .row v149 81 (Rep.sz U32) (slc r134 0 (((p1_b.length : Int) : Int).toNat)).length xs150 :: M = M' ∧ [(4, v155), (8, .int .i64 (r127)), (9, v143), (10, v149), (11, .int .i64 ((p1_b.length : Int))), (12, .int .i64 (n1224))] = L') FUEL ⟨(List.replicate (IntKind.i64.wrap ((IntKind.i64.wrap ((p0_a.length : Int) - (p1_b.length : Int))) + 1) : Int).toNat (⟨0⟩ : U32)), r129, IntKind.i64.wrap ((p0_a.length : Int) - (p1_b.length : Int)), xs156, xs144, hm, hr157, h145, (Hp.le_refl _), rfl, rfl⟩ ?_
   rintro n1230 H1225 _ _ ⟨l1218, l1222, n1224, xs1217, xs1221, hm, hr1219, hr1223, hle1226, rfl, rfl⟩
   cases n1230 with
   | zero => cases hm
   | succ n1230 =>
    have hm : m_large_divWords_b15 p1_b r127 r134 l1218 l1222 n1224 (loopF (fun s1227 n => m_large_divWords_b15 p1_b r127 r134 s1227.1 s1227.2.1 s1227.2.2 n) n1230) = some r := hm
    generalize hn1229 : loopF (fun s1227 n => m_large_divWords_b15 p1_b r127 r134 s1227.1 s1227.2.1 s1227.2.2 n) n1230 = nx1228 at hm
    unfold m_large_divWords_b15 at hm
    refine C_seq (C_seq (C_region ?_))
    refine W_move rfl rfl rfl ?_
    refine W_bin rfl rfl rfl rfl rfl ?_
    refine W_end (E_then ?_)
    refine C_cond (b := decide (0 ≤ n1224)) rfl (fun hb1236 => ?_) (fun hb1236 => ?_)
    ·have hm := ite_t' hb1236 hm
     refine C_skip (E_then (C_seq (C_block (C_seq ?_))))
     obtain ⟨y1237, h1238, he1239, hm⟩ := idx_some hm
     obtain ⟨_, rfl, hg1240⟩ := (hr1223).elem he1239
     obtain ⟨y1241, h1242, he1243, hm⟩ := idx_some hm
     obtain ⟨_, rfl, hg1244⟩ := (hr1223).elem he1243
     refine C_region_tok0 16 (phiT [(fun H rs v => [] = rs ∧ v143 = v), (fun H rs v => [] = rs ∧ .int .i64 (n1224) = v), (fun H rs v => [] = rs ∧ .int .i64 ((p1_b.length : Int)) = v), (fun H rs v => [] = rs ∧ .int .i64 (IntKind.i64.wrap (n1224 + (p1_b.length : Int))) = v), (fun H rs v => [] = rs ∧ .pointer (some ((Value.base (v143)).add ((IntKind.i64.wrap (n1224 + (p1_b.length : Int)) : Int).toNat * Rep.sz U32))) = v), (fun H rs v => [] = rs ∧ .int .u32 (y1237.n) = v), (fun H rs v => [] = rs ∧ .int .u64 (IntKind.u64.wrap (y1237.n)) = v), (fun H rs v => [] = rs ∧ .int .u64 (shlV .u64 (IntKind.u64.wrap (y1237.n)) 32) = v), (fun H rs v => [] = rs ∧ v143 = v), (fun H rs v => [] = rs ∧ .int .i64 (n1224) = v), (fun H rs v => [] = rs ∧ .int .i64 ((p1_b.length : Int)) = v), (fun H rs v => [] = rs ∧ .int .i64 (IntKind.i64.wrap (n1224 + (p1_b.length : Int))) = v), (fun H rs v => [] = rs ∧ .int .i64 (IntKind.i64.wrap ((IntKind.i64.wrap (n1224 + (p1_b.length : Int))) - 1)) = v), (fun H rs v => [] = rs ∧ .pointer (some ((Value.base (v143)).add ((IntKind.i64.wrap ((IntKind.i64.wrap (n1224 + (p1_b.length : Int))) - 1) : Int).toNat * Rep.sz U32))) = v), (fun H rs v => [] = rs ∧ .int .u32 (y1241.n) = v), (fun H rs v => [] = rs ∧ .int .u64 (IntKind.u64.wrap (y1241.n)) = v)]) [[], [], [], [], [], [], [], [], [], [], [], [], [], [], [], []] [[], [], [], [], [], [], [], [], [], [], [], [], [], [], [], []] [] [0, 1, 2, 3, 4, 5, 6, 7, 8, 9, 10, 11, 12, 13, 14, 15] Facts.mixed (by kernel_rfl) (by rfl) (by rfl) (by rfl) (by kernel_rfl) (phiT_mono ⟨eq_monoT _ _, eq_monoT _ _, eq_monoT _ _, eq_monoT _ _, eq_monoT _ _, eq_monoT _ _, eq_monoT _ _, eq_monoT _ _, eq_monoT _ _, eq_monoT _ _, eq_monoT _ _, eq_monoT _ _, eq_monoT _ _, eq_monoT _ _, eq_monoT _ _, eq_monoT _ _, trivial⟩) ⟨?_, ?_, ?_, ?_, ?_, ?_, ?_, ?_, ?_, ?_, ?_, ?_, ?_, ?_, ?_, ?_, trivial⟩ ?_
     ·intro HX hX X Rest hR
      intro hU hUp
      refine W_move rfl rfl rfl ?_
      exact W_end (OneT_end [] (Hp.le_refl _) ⟨rfl, rfl⟩)
     ·intro HX hX X Rest hR
      intro hU hUp
      refine W_move rfl rfl rfl ?_
      exact W_end (OneT_end [] (Hp.le_refl _) ⟨rfl, rfl⟩)
     ·intro HX hX X Rest hR
      intro hU hUp
      refine W_move rfl rfl rfl ?_
      exact W_end (OneT_end [] (Hp.le_refl _) ⟨rfl, rfl⟩)
     ·intro HX hX X Rest hR
      rintro _ _ ⟨rfl, rfl⟩
      rintro _ _ ⟨rfl, rfl⟩
      intro hU hUp
      refine W_bin rfl rfl rfl rfl rfl ?_
      exact W_end (OneT_end [] (Hp.le_refl _) ⟨rfl, rfl⟩)
     ·intro HX hX X Rest hR
      rintro _ _ ⟨rfl, rfl⟩
      rintro _ _ ⟨rfl, rfl⟩
      intro hU hUp
      refine W_indexO (hR _ (List.mem_cons_of_mem _ (List.mem_cons_self ..))) rfl rfl runUnderlying46 sizeOf81 rfl rfl h1238 (List.getElem?_eq_some_iff.1 he1239).1 ?_
      exact W_end (OneT_end [] (Hp.le_refl _) ⟨rfl, rfl⟩)
     ·intro HX hX X Rest hR
      rintro _ _ ⟨rfl, rfl⟩
      intro hU hUp
      refine W_load rfl rfl isAgg81 rfl (row_one0 (hR _ (List.mem_cons_of_mem _ (List.mem_cons_self ..))) hg1240 rfl) ?_
      exact W_end (OneT_end [] (Hp.le_refl _) ⟨rfl, rfl⟩)
     ·intro HX hX X Rest hR
      rintro _ _ ⟨rfl, rfl⟩
      intro hU hUp
      refine W_convInt rfl rfl runUnderlying81 runUnderlying85 rfl ?_
      exact W_end (OneT_end [] (Hp.le_refl _) ⟨rfl, rfl⟩)
     ·intro HX hX X Rest hR
      rintro _ _ ⟨rfl, rfl⟩
      intro hU hUp
      refine W_shl rfl rfl rfl rfl (by decide) ?_
      exact W_end (OneT_end [] (Hp.le_refl _) ⟨rfl, rfl⟩)
     ·intro HX hX X Rest hR
      intro hU hUp
      refine W_move rfl rfl rfl ?_
      exact W_end (OneT_end [] (Hp.le_refl _) ⟨rfl, rfl⟩)
     ·intro HX hX X Rest hR
      intro hU hUp
      refine W_move rfl rfl rfl ?_
      exact W_end (OneT_end [] (Hp.le_refl _) ⟨rfl, rfl⟩)
     ·intro HX hX X Rest hR
      intro hU hUp
      refine W_move rfl rfl rfl ?_
      exact W_end (OneT_end [] (Hp.le_refl _) ⟨rfl, rfl⟩)
     ·intro HX hX X Rest hR
      rintro _ _ ⟨rfl, rfl⟩
      rintro _ _ ⟨rfl, rfl⟩
      intro hU hUp
      refine W_bin rfl rfl rfl rfl rfl ?_
      exact W_end (OneT_end [] (Hp.le_refl _) ⟨rfl, rfl⟩)
     ·intro HX hX X Rest hR
      rintro _ _ ⟨rfl, rfl⟩
      intro hU hUp
      refine W_bin rfl rfl rfl rfl rfl ?_
      exact W_end (OneT_end [] (Hp.le_refl _) ⟨rfl, rfl⟩)
     ·intro HX hX X Rest hR
      rintro _ _ ⟨rfl, rfl⟩
      rintro _ _ ⟨rfl, rfl⟩
      intro hU hUp
      refine W_indexO (hR _ (List.mem_cons_of_mem _ (List.mem_cons_self ..))) rfl rfl runUnderlying46 sizeOf81 rfl rfl h1242 (List.getElem?_eq_some_iff.1 he1243).1 ?_
      exact W_end (OneT_end [] (Hp.le_refl _) ⟨rfl, rfl⟩)
     ·intro HX hX X Rest hR
      rintro _ _ ⟨rfl, rfl⟩
      intro hU hUp
      refine W_load rfl rfl isAgg81 rfl (row_one0 (hR _ (List.mem_cons_of_mem _ (List.mem_cons_self ..))) hg1244 rfl) ?_
      exact W_end (OneT_end [] (Hp.le_refl _) ⟨rfl, rfl⟩)
     ·intro HX hX X Rest hR
      rintro _ _ ⟨rfl, rfl⟩
      intro hU hUp
      refine W_convInt rfl rfl runUnderlying81 runUnderlying85 rfl ?_
      exact W_end (OneT_end [] (Hp.le_refl _) ⟨rfl, rfl⟩)
     intro H1245 hle1246
     rintro _ _ ⟨rfl, rfl⟩
     rintro _ _ ⟨rfl, rfl⟩
     rintro _ _ ⟨rfl, rfl⟩
     rintro _ _ ⟨rfl, rfl⟩
     rintro _ _ ⟨rfl, rfl⟩
     rintro _ _ ⟨rfl, rfl⟩
     rintro _ _ ⟨rfl, rfl⟩
     rintro _ _ ⟨rfl, rfl⟩
     rintro _ _ ⟨rfl, rfl⟩
     rintro _ _ ⟨rfl, rfl⟩
     rintro _ _ ⟨rfl, rfl⟩
     rintro _ _ ⟨rfl, rfl⟩
     rintro _ _ ⟨rfl, rfl⟩
     rintro _ _ ⟨rfl, rfl⟩
     rintro _ _ ⟨rfl, rfl⟩
     rintro _ _ ⟨rfl, rfl⟩
     refine W_bin rfl rfl rfl rfl rfl ?_
     refine W_assign rfl rfl rfl ?_
     refine W_end (E_then (C_seq ?_))
     obtain ⟨y1247, h1248, he1249, hm⟩ := idx_some hm
     obtain ⟨_, rfl, hg1250⟩ := (hr151).elem he1249
     obtain ⟨hq1251, hm⟩ := need_some hm
     obtain ⟨y1252, h1253, he1254, hm⟩ := idx_some hm
     obtain ⟨_, rfl, hg1255⟩ := (hr151).elem he1254
     obtain ⟨hq1256, hm⟩ := need_some hm
     refine C_region_tok0 17 (phiT [(fun H rs v => [] = rs ∧ .int .u64 (IntKind.u64.wrap ((BitVec.ofInt (IntKind.u64).bits (shlV .u64 (IntKind.u64.wrap (y1237.n)) 32) ||| BitVec.ofInt (IntKind.u64).bits (IntKind.u64.wrap (y1241.n))).toNat)) = v), (fun H rs v => [] = rs ∧ v149 = v), (fun H rs v => [] = rs ∧ .int .i64 ((p1_b.length : Int)) = v), (fun H rs v => [] = rs ∧ .int .i64 (IntKind.i64.wrap ((p1_b.length : Int) - 1)) = v), (fun H rs v => [] = rs ∧ .pointer (some ((Value.base (v149)).add ((IntKind.i64.wrap ((p1_b.length : Int) - 1) : Int).toNat * Rep.sz U32))) = v), (fun H rs v => [] = rs ∧ .int .u32 (y1247.n) = v), (fun H rs v => [] = rs ∧ .int .u64 (IntKind.u64.wrap (y1247.n)) = v), (fun H rs v => [] = rs ∧ .int .u64 (IntKind.u64.wrap (Int.tdiv (IntKind.u64.wrap ((BitVec.ofInt (IntKind.u64).bits (shlV .u64 (IntKind.u64.wrap (y1237.n)) 32) ||| BitVec.ofInt (IntKind.u64).bits (IntKind.u64.wrap (y1241.n))).toNat)) (IntKind.u64.wrap (y1247.n)))) = v), (fun H rs v => [] = rs ∧ .int .u64 (IntKind.u64.wrap ((BitVec.ofInt (IntKind.u64).bits (shlV .u64 (IntKind.u64.wrap (y1237.n)) 32) ||| BitVec.ofInt (IntKind.u64).bits (IntKind.u64.wrap (y1241.n))).toNat)) = v), (fun H rs v => [] = rs ∧ v149 = v), (fun H rs v => [] = rs ∧ .int .i64 ((p1_b.length : Int)) = v), (fun H rs v => [] = rs ∧ .int .i64 (IntKind.i64.wrap ((p1_b.length : Int) - 1)) = v), (fun H rs v => [] = rs ∧ .pointer (some ((Value.base (v149)).add ((IntKind.i64.wrap ((p1_b.length : Int) - 1) : Int).toNat * Rep.sz U32))) = v), (fun H rs v => [] = rs ∧ .int .u32 (y1252.n) = v), (fun H rs v => [] = rs ∧ .int .u64 (IntKind.u64.wrap (y1252.n)) = v), (fun H rs v => [] = rs ∧ .int .u64 (Int.tmod (IntKind.u64.wrap ((BitVec.ofInt (IntKind.u64).bits (shlV .u64 (IntKind.u64.wrap (y1237.n)) 32) ||| BitVec.ofInt (IntKind.u64).bits (IntKind.u64.wrap (y1241.n))).toNat)) (IntKind.u64.wrap (y1252.n))) = v), (fun H rs v => [] = rs ∧ .int .u64 (IntKind.u64.wrap (Int.tdiv (IntKind.u64.wrap ((BitVec.ofInt (IntKind.u64).bits (shlV .u64 (IntKind.u64.wrap (y1237.n)) 32) ||| BitVec.ofInt (IntKind.u64).bits (IntKind.u64.wrap (y1241.n))).toNat)) (IntKind.u64.wrap (y1247.n)))) = v)]) [[], [], [], [], [], [], [], [], [], [], [], [], [], [], [], [], []] [[], [], [], [], [], [], [], [], [], [], [], [], [], [], [], [], []] [] [0, 1, 2, 3, 4, 5, 6, 7, 8, 9, 10, 11, 12, 13, 14, 15, 16] Facts.mixed (by kernel_rfl) (by rfl) (by rfl) (by rfl) (by kernel_rfl) (phiT_mono ⟨eq_monoT _ _, eq_monoT _ _, eq_monoT _ _, eq_monoT _ _, eq_monoT _ _, eq_monoT _ _, eq_monoT _ _, eq_monoT _ _, eq_monoT _ _, eq_monoT _ _, eq_monoT _ _, eq_monoT _ _, eq_monoT _ _, eq_monoT _ _, eq_monoT _ _, eq_monoT _ _, eq_monoT _ _, trivial⟩) ⟨?_, ?_, ?_, ?_, ?_, ?_, ?_, ?_, ?_, ?_, ?_, ?_, ?_, ?_, ?_, ?_, ?_, trivial⟩ ?_
     ·intro HX hX X Rest hR
      intro hU hUp
      refine W_move rfl rfl rfl ?_
      exact W_end (OneT_end [] (Hp.le_refl _) ⟨rfl, rfl⟩)
     ·intro HX hX X Rest hR
      intro hU hUp
      refine W_move rfl rfl rfl ?_
      exact W_end (OneT_end [] (Hp.le_refl _) ⟨rfl, rfl⟩)
     ·intro HX hX X Rest hR
      intro hU hUp
      refine W_move rfl rfl rfl ?_
      exact W_end (OneT_end [] (Hp.le_refl _) ⟨rfl, rfl⟩)
     ·intro HX hX X Rest hR
      rintro _ _ ⟨rfl, rfl⟩
      intro hU hUp
      refine W_bin rfl rfl rfl rfl rfl ?_
      exact W_end (OneT_end [] (Hp.le_refl _) ⟨rfl, rfl⟩)
     ·intro HX hX X Rest hR
      rintro _ _ ⟨rfl, rfl⟩
      rintro _ _ ⟨rfl, rfl⟩
      intro hU hUp
      refine W_indexO (hR _ (List.mem_cons_of_mem _ (List.mem_cons_of_mem _ (List.mem_cons_self ..)))) rfl rfl runUnderlying46 sizeOf81 rfl rfl h1248 (List.getElem?_eq_some_iff.1 he1249).1 ?_
      exact W_end (OneT_end [] (Hp.le_refl _) ⟨rfl, rfl⟩)
     ·intro HX hX X Rest hR
      rintro _ _ ⟨rfl, rfl⟩
      intro hU hUp
      refine W_load rfl rfl isAgg81 rfl (row_one0 (hR _ (List.mem_cons_of_mem _ (List.mem_cons_of_mem _ (List.mem_cons_self ..)))) hg1250 rfl) ?_
      exact W_end (OneT_end [] (Hp.le_refl _) ⟨rfl, rfl⟩)
     ·intro HX hX X Rest hR
      rintro _ _ ⟨rfl, rfl⟩
      intro hU hUp
      refine W_convInt rfl rfl runUnderlying81 runUnderlying85 rfl ?_
      exact W_end (OneT_end [] (Hp.le_refl _) ⟨rfl, rfl⟩)
     ·intro HX hX X Rest hR
      rintro _ _ ⟨rfl, rfl⟩
      rintro _ _ ⟨rfl, rfl⟩
      intro hU hUp
      refine W_quo rfl rfl rfl rfl hq1251 ?_
      exact W_end (OneT_end [] (Hp.le_refl _) ⟨rfl, rfl⟩)
     ·intro HX hX X Rest hR
      intro hU hUp
      refine W_move rfl rfl rfl ?_
      exact W_end (OneT_end [] (Hp.le_refl _) ⟨rfl, rfl⟩)
     ·intro HX hX X Rest hR
      intro hU hUp
      refine W_move rfl rfl rfl ?_
      exact W_end (OneT_end [] (Hp.le_refl _) ⟨rfl, rfl⟩)
     ·intro HX hX X Rest hR
      intro hU hUp
      refine W_move rfl rfl rfl ?_
      exact W_end (OneT_end [] (Hp.le_refl _) ⟨rfl, rfl⟩)
     ·intro HX hX X Rest hR
      rintro _ _ ⟨rfl, rfl⟩
      intro hU hUp
      refine W_bin rfl rfl rfl rfl rfl ?_
      exact W_end (OneT_end [] (Hp.le_refl _) ⟨rfl, rfl⟩)
     ·intro HX hX X Rest hR
      rintro _ _ ⟨rfl, rfl⟩
      rintro _ _ ⟨rfl, rfl⟩
      intro hU hUp
      refine W_indexO (hR _ (List.mem_cons_of_mem _ (List.mem_cons_of_mem _ (List.mem_cons_self ..)))) rfl rfl runUnderlying46 sizeOf81 rfl rfl h1253 (List.getElem?_eq_some_iff.1 he1254).1 ?_
      exact W_end (OneT_end [] (Hp.le_refl _) ⟨rfl, rfl⟩)
     ·intro HX hX X Rest hR
      rintro _ _ ⟨rfl, rfl⟩
      intro hU hUp
      refine W_load rfl rfl isAgg81 rfl (row_one0 (hR _ (List.mem_cons_of_mem _ (List.mem_cons_of_mem _ (List.mem_cons_self ..)))) hg1255 rfl) ?_
      exact W_end (OneT_end [] (Hp.le_refl _) ⟨rfl, rfl⟩)
     ·intro HX hX X Rest hR
      rintro _ _ ⟨rfl, rfl⟩
      intro hU hUp
      refine W_convInt rfl rfl runUnderlying81 runUnderlying85 rfl ?_
      exact W_end (OneT_end [] (Hp.le_refl _) ⟨rfl, rfl⟩)
     ·intro HX hX X Rest hR
      rintro _ _ ⟨rfl, rfl⟩
      rintro _ _ ⟨rfl, rfl⟩
      intro hU hUp
      refine W_rem rfl rfl rfl rfl hq1256 ?_
      exact W_end (OneT_end [] (Hp.le_refl _) ⟨rfl, rfl⟩)
     ·intro HX hX X Rest hR
      rintro _ _ ⟨rfl, rfl⟩
      rintro _ _ ⟨rfl, rfl⟩
      rintro _ _ ⟨rfl, rfl⟩
      rintro _ _ ⟨rfl, rfl⟩
      rintro _ _ ⟨rfl, rfl⟩
      rintro _ _ ⟨rfl, rfl⟩
      rintro _ _ ⟨rfl, rfl⟩
      rintro _ _ ⟨rfl, rfl⟩
      rintro _ _ ⟨rfl, rfl⟩
      intro hU hUp
      refine W_assign rfl rfl rfl ?_
      exact W_end (OneT_end [] (Hp.le_refl _) ⟨rfl, rfl⟩)
     intro H1257 hle1258
     rintro _ _ ⟨rfl, rfl⟩
     rintro _ _ ⟨rfl, rfl⟩
     rintro _ _ ⟨rfl, rfl⟩
     rintro _ _ ⟨rfl, rfl⟩
     rintro _ _ ⟨rfl, rfl⟩
     rintro _ _ ⟨rfl, rfl⟩
     rintro _ _ ⟨rfl, rfl⟩
     rintro _ _ ⟨rfl, rfl⟩
     rintro _ _ ⟨rfl, rfl⟩
     rintro _ _ ⟨rfl, rfl⟩
     rintro _ _ ⟨rfl, rfl⟩
     rintro _ _ ⟨rfl, rfl⟩
     rintro _ _ ⟨rfl, rfl⟩
     rintro _ _ ⟨rfl, rfl⟩
     rintro _ _ ⟨rfl, rfl⟩
     rintro _ _ ⟨rfl, rfl⟩
     rintro _ _ ⟨rfl, rfl⟩
     refine W_assign rfl rfl rfl ?_
     refine W_end (E_then ?_)
     refine C_seq_join (fun H' M' L' => ∃ n1352 : Int, m_large_divWords_b21 p1_b r134 l1218 l1222 n1224 nx1228 n1352 = some r ∧ H1257.le H' ∧ .row v155 81 (Rep.sz U32) l1218.length xs1217 :: .row v143 81 (Rep.sz U32) l1222.length xs1221 :: .row v149 81 (Rep.sz U32) (slc r134 0 (((p1_b.length : Int) : Int).toNat)).length xs150 :: M = M' ∧ [(4, v155), (8, .int .i64 (r127)), (9, v143), (10, v149), (11, .int .i64 ((p1_b.length : Int))), (12, .int .i64 (n1224)), (14, .int .u64 (n1352))] = L') ?_ (fun J1355 => ?_)
     ·rintro H1353 _ _ ⟨n1352, hm, hle1354, rfl, rfl⟩
      unfold m_large_divWords_b21 at hm
      refine C_seq (C_region ?_)
      refine W_assign rfl rfl rfl ?_
      refine W_assign rfl rfl rfl ?_
      refine W_end (E_then (C_seq (C_seq (C_region ?_))))
      refine W_move rfl rfl rfl ?_
      refine W_move rfl rfl rfl ?_
      refine W_end (E_then (C_block ?_))
      refine C_keep (L' := [(4, v155), (8, .int .i64 (r127)), (9, v143), (10, v149), (11, .int .i64 ((p1_b.length : Int))), (12, .int .i64 (n1224)), (14, .int .u64 (n1352)), (16, .int .i64 (0)), (17, .int .u64 (0)), (142, .int .i64 ((p1_b.length : Int))), (143, .int .i64 (((0 : Nat) : Int)))]) ⟨rfl, rfl, rfl, rfl, rfl, rfl, rfl, rfl, rfl, rfl, rfl, trivial⟩ (List.Perm.swap _ _ _) ?_
      refine C_loop (fun n H' M' L' => ∃ (k1356 : Nat) (zs1414' : Nat), ∃ l1403 : List U32, ∃ n1405 : Int, ∃ n1406 : Int, ∃ xs1402 : List Value, k1356 + zs1414' = ((p1_b.length : Int) : Int).toNat ∧ zs1414' = n ∧ forN (fun k s1409 n => m_large_divWords_b17 p1_b r134 n1224 n1352 k s1409.1 s1409.2.1 s1409.2.2 n) (fun s1409 => idx s1409.1 (IntKind.i64.wrap (n1224 + (p1_b.length : Int))) fun y1435 => idx s1409.1 (IntKind.i64.wrap (n1224 + (p1_b.length : Int))) fun y1439 => if decide ((IntKind.i64.wrap (s1409.2.1 + (IntKind.i64.wrap ((IntKind.i64.wrap (y1435.n)) - (IntKind.i64.wrap (s1409.2.2)))))) < 0) then (forN (fun k s1621 n => m_large_divWords_b20 p1_b r134 n1224 k s1621.1 s1621.2 n) (fun s1621 => idx s1621.1 (IntKind.i64.wrap (n1224 + (p1_b.length : Int))) fun y1649 => idx s1621.1 (IntKind.i64.wrap (n1224 + (p1_b.length : Int))) fun y1653 => m_large_divWords_b19 l1218 n1224 nx1228 (s1621.1.set ((IntKind.i64.wrap (n1224 + (p1_b.length : Int)) : Int).toNat) ⟨IntKind.u32.wrap (y1649.n + (IntKind.u32.wrap (s1621.2)))⟩) (IntKind.u64.wrap (n1352 - 1))) ((p1_b.length : Int) : Int).toNat 0 ((s1409.1.set ((IntKind.i64.wrap (n1224 + (p1_b.length : Int)) : Int).toNat) ⟨IntKind.u32.wrap (IntKind.i64.wrap (s1409.2.1 + (IntKind.i64.wrap ((IntKind.i64.wrap (y1435.n)) - (IntKind.i64.wrap (s1409.2.2))))))⟩), 0)) else (m_large_divWords_b19 l1218 n1224 nx1228 (s1409.1.set ((IntKind.i64.wrap (n1224 + (p1_b.length : Int)) : Int).toNat) ⟨IntKind.u32.wrap (IntKind.i64.wrap (s1409.2.1 + (IntKind.i64.wrap ((IntKind.i64.wrap (y1435.n)) - (IntKind.i64.wrap (s1409.2.2))))))⟩) n1352)) zs1414' k1356 (l1403, n1405, n1406) = some r ∧ Rw H' v143 xs1402 l1403 ∧ H1353.le H' ∧ .row v143 81 (Rep.sz U32) l1403.length xs1402 :: .row v155 81 (Rep.sz U32) l1218.length xs1217 :: .row v149 81 (Rep.sz U32) (slc r134 0 (((p1_b.length : Int) : Int).toNat)).length xs150 :: M = M' ∧ [(4, v155), (8, .int .i64 (r127)), (9, v143), (10, v149), (11, .int .i64 ((p1_b.length : Int))), (12, .int .i64 (n1224)), (14, .int .u64 (n1352)), (16, .int .i64 (n1405)), (17, .int .u64 (n1406)), (142, .int .i64 ((p1_b.length : Int))), (143, .int .i64 ((k1356 : Int)))] = L') _ ⟨0, _, l1222, 0, 0, xs1221, Nat.zero_add _, rfl, hm, (((hr1223.mono hle1246).mono hle1258).mono hle1354), (Hp.le_refl _), rfl, rfl⟩ ?_
      rintro _ H1407 _ _ ⟨k1356, zs1414', l1403, n1405, n1406, xs1402, hd1416, rfl, hm, hr1404, hle1408, rfl, rfl⟩
      refine C_seq (C_region ?_)
      refine W_bin rfl rfl rfl rfl rfl ?_
      refine W_end (E_then (C_seq ?_))
      refine C_cond (b := decide ((k1356 : Int) < (p1_b.length : Int))) rfl (fun hb1418 => ?_) (fun hb1418 => ?_)
      ·obtain ⟨zs1414, rfl, hd1417, hy1415⟩ := rngN_t hd1416 hb1418
       have hm : m_large_divWords_b17 p1_b r134 n1224 n1352 k1356 l1403 n1405 n1406 (forN (fun k s1409 n => m_large_divWords_b17 p1_b r134 n1224 n1352 k s1409.1 s1409.2.1 s1409.2.2 n) (fun s1409 => idx s1409.1 (IntKind.i64.wrap (n1224 + (p1_b.length : Int))) fun y1435 => idx s1409.1 (IntKind.i64.wrap (n1224 + (p1_b.length : Int))) fun y1439 => if decide ((IntKind.i64.wrap (s1409.2.1 + (IntKind.i64.wrap ((IntKind.i64.wrap (y1435.n)) - (IntKind.i64.wrap (s1409.2.2)))))) < 0) then (forN (fun k s1621 n => m_large_divWords_b20 p1_b r134 n1224 k s1621.1 s1621.2 n) (fun s1621 => idx s1621.1 (IntKind.i64.wrap (n1224 + (p1_b.length : Int))) fun y1649 => idx s1621.1 (IntKind.i64.wrap (n1224 + (p1_b.length : Int))) fun y1653 => m_large_divWords_b19 l1218 n1224 nx1228 (s1621.1.set ((IntKind.i64.wrap (n1224 + (p1_b.length : Int)) : Int).toNat) ⟨IntKind.u32.wrap (y1649.n + (IntKind.u32.wrap (s1621.2)))⟩) (IntKind.u64.wrap (n1352 - 1))) ((p1_b.length : Int) : Int).toNat 0 ((s1409.1.set ((IntKind.i64.wrap (n1224 + (p1_b.length : Int)) : Int).toNat) ⟨IntKind.u32.wrap (IntKind.i64.wrap (s1409.2.1 + (IntKind.i64.wrap ((IntKind.i64.wrap (y1435.n)) - (IntKind.i64.wrap (s1409.2.2))))))⟩), 0)) else (m_large_divWords_b19 l1218 n1224 nx1228 (s1409.1.set ((IntKind.i64.wrap (n1224 + (p1_b.length : Int)) : Int).toNat) ⟨IntKind.u32.wrap (IntKind.i64.wrap (s1409.2.1 + (IntKind.i64.wrap ((IntKind.i64.wrap (y1435.n)) - (IntKind.i64.wrap (s1409.2.2))))))⟩) n1352)) zs1414 (k1356 + 1)) = some r := hm
       generalize hn1411 : forN (fun k s1409 n => m_large_divWords_b17 p1_b r134 n1224 n1352 k s1409.1 s1409.2.1 s1409.2.2 n) (fun s1409 => idx s1409.1 (IntKind.i64.wrap (n1224 + (p1_b.length : Int))) fun y1435 => idx s1409.1 (IntKind.i64.wrap (n1224 + (p1_b.length : Int))) fun y1439 => if decide ((IntKind.i64.wrap (s1409.2.1 + (IntKind.i64.wrap ((IntKind.i64.wrap (y1435.n)) - (IntKind.i64.wrap (s1409.2.2)))))) < 0) then (forN (fun k s1621 n => m_large_divWords_b20 p1_b r134 n1224 k s1621.1 s1621.2 n) (fun s1621 => idx s1621.1 (IntKind.i64.wrap (n1224 + (p1_b.length : Int))) fun y1649 => idx s1621.1 (IntKind.i64.wrap (n1224 + (p1_b.length : Int))) fun y1653 => m_large_divWords_b19 l1218 n1224 nx1228 (s1621.1.set ((IntKind.i64.wrap (n1224 + (p1_b.length : Int)) : Int).toNat) ⟨IntKind.u32.wrap (y1649.n + (IntKind.u32.wrap (s1621.2)))⟩) (IntKind.u64.wrap (n1352 - 1))) ((p1_b.length : Int) : Int).toNat 0 ((s1409.1.set ((IntKind.i64.wrap (n1224 + (p1_b.length : Int)) : Int).toNat) ⟨IntKind.u32.wrap (IntKind.i64.wrap (s1409.2.1 + (IntKind.i64.wrap ((IntKind.i64.wrap (y1435.n)) - (IntKind.i64.wrap (s1409.2.2))))))⟩), 0)) else (m_large_divWords_b19 l1218 n1224 nx1228 (s1409.1.set ((IntKind.i64.wrap (n1224 + (p1_b.length : Int)) : Int).toNat) ⟨IntKind.u32.wrap (IntKind.i64.wrap (s1409.2.1 + (IntKind.i64.wrap ((IntKind.i64.wrap (y1435.n)) - (IntKind.i64.wrap (s1409.2.2))))))⟩) n1352)) zs1414 (k1356 + 1) = nx1410 at hm
       unfold m_large_divWords_b17 at hm
       refine C_skip (E_then (C_seq (C_block (C_seq (C_region ?_)))))
       refine W_move rfl rfl rfl ?_
       refine W_assign rfl rfl rfl ?_
       refine W_end (E_then (C_seq (C_region ?_)))
       refine W_move rfl rfl rfl ?_
       refine W_move rfl rfl rfl ?_
       refine W_move rfl rfl rfl ?_
       refine W_move rfl rfl rfl ?_
       obtain ⟨y1419, h1420, he1421, hm⟩ := idx_some hm
       refine W_indexO (List.mem_cons_of_mem _ (List.mem_cons_of_mem _ (List.mem_cons_self ..))) rfl rfl runUnderlying46 sizeOf81 rfl rfl h1420 (List.getElem?_eq_some_iff.1 he1421).1 ?_
       obtain ⟨_, rfl, hg1422⟩ := (hr151).elem he1421
       refine W_load rfl rfl isAgg81 rfl (row_one0 (List.mem_cons_of_mem _ (List.mem_cons_of_mem _ (List.mem_cons_self ..))) hg1422 rfl) ?_
       refine W_convInt rfl rfl runUnderlying81 runUnderlying85 rfl ?_
       refine W_bin rfl rfl rfl rfl rfl ?_
       refine W_bin rfl rfl rfl rfl rfl ?_
       refine W_assign rfl rfl rfl ?_
       refine W_end (E_then (C_seq (C_region ?_)))
       refine W_move rfl rfl rfl ?_
       refine W_move rfl rfl rfl ?_
       refine W_move rfl rfl rfl ?_
       refine W_move rfl rfl rfl ?_
       refine W_bin rfl rfl rfl rfl rfl ?_
       obtain ⟨y1423, h1424, he1425, hm⟩ := idx_some hm
       refine W_indexO (List.mem_cons_self ..) rfl rfl runUnderlying46 sizeOf81 rfl rfl h1424 (List.getElem?_eq_some_iff.1 he1425).1 ?_
       obtain ⟨_, rfl, hg1426⟩ := (hr1404).elem he1425
       refine W_load rfl rfl isAgg81 rfl (row_one0 (List.mem_cons_self ..) hg1426 rfl) ?_
       refine W_convInt rfl rfl runUnderlying81 runUnderlying2 rfl ?_
       refine W_move rfl rfl rfl ?_
       refine W_bin rfl rfl rfl rfl rfl ?_
       refine W_convInt rfl rfl runUnderlying85 runUnderlying2 rfl ?_
       refine W_bin rfl rfl rfl rfl rfl ?_
       refine W_bin rfl rfl rfl rfl rfl ?_
       refine W_assign rfl rfl rfl ?_
       refine W_end (E_then (C_seq (C_region ?_)))
       refine W_move rfl rfl rfl ?_
       refine W_move rfl rfl rfl ?_
       refine W_move rfl rfl rfl ?_
       refine W_bin rfl rfl rfl rfl rfl ?_
       refine W_move rfl rfl rfl ?_
       refine W_convInt rfl rfl runUnderlying2 runUnderlying81 rfl ?_
       obtain ⟨y1427, h1428, he1429, hm⟩ := idx_some hm
       refine W_indexO (List.mem_cons_self ..) rfl rfl runUnderlying46 sizeOf81 rfl rfl h1428 (List.getElem?_eq_some_iff.1 he1429).1 ?_
       obtain ⟨_, rfl, hg1430⟩ := (hr1404).elem he1429
       obtain ⟨hr1431, he1432, hg1433⟩ := Rw.put (cs := [.int .u32 (IntKind.u32.wrap (IntKind.i64.wrap (n1405 + (IntKind.i64.wrap ((IntKind.i64.wrap (y1423.n)) - (IntKind.i64.wrap (IntKind.u64.wrap ((BitVec.ofInt (IntKind.u64).bits (IntKind.u64.wrap (n1406 + (IntKind.u64.wrap (n1352 * (IntKind.u64.wrap (y1419.n)))))) &&& BitVec.ofInt (IntKind.u64).bits 4294967295).toNat))))))))]) (o := 0) (c := [.int .u32 (y1427.n)]) (out := [.int .u32 (IntKind.u32.wrap (IntKind.i64.wrap (n1405 + (IntKind.i64.wrap ((IntKind.i64.wrap (y1423.n)) - (IntKind.i64.wrap (IntKind.u64.wrap ((BitVec.ofInt (IntKind.u64).bits (IntKind.u64.wrap (n1406 + (IntKind.u64.wrap (n1352 * (IntKind.u64.wrap (y1419.n)))))) &&& BitVec.ofInt (IntKind.u64).bits 4294967295).toNat))))))))]) (e2 := ⟨IntKind.u32.wrap (IntKind.i64.wrap (n1405 + (IntKind.i64.wrap ((IntKind.i64.wrap (y1423.n)) - (IntKind.i64.wrap (IntKind.u64.wrap ((BitVec.ofInt (IntKind.u64).bits (IntKind.u64.wrap (n1406 + (IntKind.u64.wrap (n1352 * (IntKind.u64.wrap (y1419.n)))))) &&& BitVec.ofInt (IntKind.u64).bits 4294967295).toNat)))))))⟩) hr1404 he1429 rfl hg1430 rfl rfl rfl
       refine W_storeO2 (i := (IntKind.i64.wrap ((k1356 : Int) + n1224) : Int).toNat * Rep.sz U32 + 0) (cs := [.int .u32 (IntKind.u32.wrap (IntKind.i64.wrap (n1405 + (IntKind.i64.wrap ((IntKind.i64.wrap (y1423.n)) - (IntKind.i64.wrap (IntKind.u64.wrap ((BitVec.ofInt (IntKind.u64).bits (IntKind.u64.wrap (n1406 + (IntKind.u64.wrap (n1352 * (IntKind.u64.wrap (y1419.n)))))) &&& BitVec.ofInt (IntKind.u64).bits 4294967295).toNat))))))))]) rfl sizeOf81 rfl (row_ad0 _ _) rfl rfl rfl (Rw.room hr1404 he1429 rfl) rfl (all_cons rfl all_nil) (n' := (l1403.set ((IntKind.i64.wrap ((k1356 : Int) + n1224) : Int).toNat) ⟨IntKind.u32.wrap (IntKind.i64.wrap (n1405 + (IntKind.i64.wrap ((IntKind.i64.wrap (y1423.n)) - (IntKind.i64.wrap (IntKind.u64.wrap ((BitVec.ofInt (IntKind.u64).bits (IntKind.u64.wrap (n1406 + (IntKind.u64.wrap (n1352 * (IntKind.u64.wrap (y1419.n)))))) &&& BitVec.ofInt (IntKind.u64).bits 4294967295).toNat)))))))⟩).length) List.length_set ?_
       generalize over xs1402 ((IntKind.i64.wrap ((k1356 : Int) + n1224) : Int).toNat * Rep.sz U32 + 0) [.int .u32 (IntKind.u32.wrap (IntKind.i64.wrap (n1405 + (IntKind.i64.wrap ((IntKind.i64.wrap (y1423.n)) - (IntKind.i64.wrap (IntKind.u64.wrap ((BitVec.ofInt (IntKind.u64).bits (IntKind.u64.wrap (n1406 + (IntKind.u64.wrap (n1352 * (IntKind.u64.wrap (y1419.n)))))) &&& BitVec.ofInt (IntKind.u64).bits 4294967295).toNat))))))))] = xs1434 at hr1431 hg1433 ⊢
       refine W_end (E_then (C_seq (C_region ?_)))
       refine W_move rfl rfl rfl ?_
       refine W_shr rfl rfl rfl rfl (by decide) ?_
       refine W_assign rfl rfl rfl ?_
       refine W_end (E_then (C_region ?_))
       refine W_move rfl rfl rfl ?_
       refine W_shr rfl rfl rfl rfl (by decide) ?_
       refine W_assign rfl rfl rfl ?_
       refine W_end (E_normal_block (E_then (C_region ?_)))
       refine W_bin rfl rfl rfl rfl rfl ?_
       refine W_move rfl rfl rfl ?_
       refine W_end ?_
       exact E_keepJ (E_back (Nat.lt_succ_self _) ⟨k1356 + 1, zs1414, (l1403.set ((IntKind.i64.wrap ((k1356 : Int) + n1224) : Int).toNat) ⟨IntKind.u32.wrap (IntKind.i64.wrap (n1405 + (IntKind.i64.wrap ((IntKind.i64.wrap (y1423.n)) - (IntKind.i64.wrap (IntKind.u64.wrap ((BitVec.ofInt (IntKind.u64).bits (IntKind.u64.wrap (n1406 + (IntKind.u64.wrap (n1352 * (IntKind.u64.wrap (y1419.n)))))) &&& BitVec.ofInt (IntKind.u64).bits 4294967295).toNat)))))))⟩), shrV .i64 (IntKind.i64.wrap (n1405 + (IntKind.i64.wrap ((IntKind.i64.wrap (y1423.n)) - (IntKind.i64.wrap (IntKind.u64.wrap ((BitVec.ofInt (IntKind.u64).bits (IntKind.u64.wrap (n1406 + (IntKind.u64.wrap (n1352 * (IntKind.u64.wrap (y1419.n)))))) &&& BitVec.ofInt (IntKind.u64).bits 4294967295).toNat))))))) 32, shrV .u64 (IntKind.u64.wrap (n1406 + (IntKind.u64.wrap (n1352 * (IntKind.u64.wrap (y1419.n)))))) 32, xs1434, hd1417, rfl, (by rw [hn1411]; exact hm), hr1431, hle1408, rfl, rfl⟩) (List.Perm.refl _) ⟨rfl, rfl, rfl, rfl, rfl, rfl, rfl, rfl, rfl, rfl, (congrArg (fun z => some (Value.int .i64 z)) (i64_succN hy1415 (toNat_max (len_max ((((((h1.mono hle153).mono hle1226).mono hle1246).mono hle1258).mono hle1354)).lenMax)))), trivial⟩
      ·obtain rfl := rngN_f hd1416 hb1418
       have hm : (idx l1403 (IntKind.i64.wrap (n1224 + (p1_b.length : Int))) fun y1435 => idx l1403 (IntKind.i64.wrap (n1224 + (p1_b.length : Int))) fun y1439 => if decide ((IntKind.i64.wrap (n1405 + (IntKind.i64.wrap ((IntKind.i64.wrap (y1435.n)) - (IntKind.i64.wrap (n1406)))))) < 0) then (forN (fun k s1621 n => m_large_divWords_b20 p1_b r134 n1224 k s1621.1 s1621.2 n) (fun s1621 => idx s1621.1 (IntKind.i64.wrap (n1224 + (p1_b.length : Int))) fun y1649 => idx s1621.1 (IntKind.i64.wrap (n1224 + (p1_b.length : Int))) fun y1653 => m_large_divWords_b19 l1218 n1224 nx1228 (s1621.1.set ((IntKind.i64.wrap (n1224 + (p1_b.length : Int)) : Int).toNat) ⟨IntKind.u32.wrap (y1649.n + (IntKind.u32.wrap (s1621.2)))⟩) (IntKind.u64.wrap (n1352 - 1))) ((p1_b.length : Int) : Int).toNat 0 ((l1403.set ((IntKind.i64.wrap (n1224 + (p1_b.length : Int)) : Int).toNat) ⟨IntKind.u32.wrap (IntKind.i64.wrap (n1405 + (IntKind.i64.wrap ((IntKind.i64.wrap (y1435.n)) - (IntKind.i64.wrap (n1406))))))⟩), 0)) else (m_large_divWords_b19 l1218 n1224 nx1228 (l1403.set ((IntKind.i64.wrap (n1224 + (p1_b.length : Int)) : Int).toNat) ⟨IntKind.u32.wrap (IntKind.i64.wrap (n1405 + (IntKind.i64.wrap ((IntKind.i64.wrap (y1435.n)) - (IntKind.i64.wrap (n1406))))))⟩) n1352)) = some r := hm
       refine C_exit (E_exit_then (E_exit_then (E_exit_hit (E_then (C_seq (C_region ?_))))))
       refine W_move rfl rfl rfl ?_
       refine W_move rfl rfl rfl ?_
       refine W_move rfl rfl rfl ?_
       refine W_move rfl rfl rfl ?_
       refine W_bin rfl rfl rfl rfl rfl ?_
       obtain ⟨y1435, h1436, he1437, hm⟩ := idx_some hm
       refine W_indexO (List.mem_cons_self ..) rfl rfl runUnderlying46 sizeOf81 rfl rfl h1436 (List.getElem?_eq_some_iff.1 he1437).1 ?_
       obtain ⟨_, rfl, hg1438⟩ := (hr1404).elem he1437
       refine W_load rfl rfl isAgg81 rfl (row_one0 (List.mem_cons_self ..) hg1438 rfl) ?_
       refine W_convInt rfl rfl runUnderlying81 runUnderlying2 rfl ?_
       refine W_move rfl rfl rfl ?_
       refine W_convInt rfl rfl runUnderlying85 runUnderlying2 rfl ?_
       refine W_bin rfl rfl rfl rfl rfl ?_
       refine W_bin rfl rfl rfl rfl rfl ?_
       refine W_assign rfl rfl rfl ?_
       refine W_end (E_then (C_seq (C_region ?_)))
       refine W_move rfl rfl rfl ?_
       refine W_move rfl rfl rfl ?_
       refine W_move rfl rfl rfl ?_
       refine W_bin rfl rfl rfl rfl rfl ?_
       refine W_move rfl rfl rfl ?_
       refine W_convInt rfl rfl runUnderlying2 runUnderlying81 rfl ?_
       obtain ⟨y1439, h1440, he1441, hm⟩ := idx_some hm
       refine W_indexO (List.mem_cons_self ..) rfl rfl runUnderlying46 sizeOf81 rfl rfl h1440 (List.getElem?_eq_some_iff.1 he1441).1 ?_
       obtain ⟨_, rfl, hg1442⟩ := (hr1404).elem he1441
       obtain ⟨hr1443, he1444, hg1445⟩ := Rw.put (cs := [.int .u32 (IntKind.u32.wrap (IntKind.i64.wrap (n1405 + (IntKind.i64.wrap ((IntKind.i64.wrap (y1435.n)) - (IntKind.i64.wrap (n1406)))))))]) (o := 0) (c := [.int .u32 (y1439.n)]) (out := [.int .u32 (IntKind.u32.wrap (IntKind.i64.wrap (n1405 + (IntKind.i64.wrap ((IntKind.i64.wrap (y1435.n)) - (IntKind.i64.wrap (n1406)))))))]) (e2 := ⟨IntKind.u32.wrap (IntKind.i64.wrap (n1405 + (IntKind.i64.wrap ((IntKind.i64.wrap (y1435.n)) - (IntKind.i64.wrap (n1406))))))⟩) hr1404 he1441 rfl hg1442 rfl rfl rfl
       refine W_storeO2 (i := (IntKind.i64.wrap (n1224 + (p1_b.length : Int)) : Int).toNat * Rep.sz U32 + 0) (cs := [.int .u32 (IntKind.u32.wrap (IntKind.i64.wrap (n1405 + (IntKind.i64.wrap ((IntKind.i64.wrap (y1435.n)) - (IntKind.i64.wrap (n1406)))))))]) rfl sizeOf81 rfl (row_ad0 _ _) rfl rfl rfl (Rw.room hr1404 he1441 rfl) rfl (all_cons rfl all_nil) (n' := (l1403.set ((IntKind.i64.wrap (n1224 + (p1_b.length : Int)) : Int).toNat) ⟨IntKind.u32.wrap (IntKind.i64.wrap (n1405 + (IntKind.i64.wrap ((IntKind.i64.wrap (y1435.n)) - (IntKind.i64.wrap (n1406))))))⟩).length) List.length_set ?_
       generalize over xs1402 ((IntKind.i64.wrap (n1224 + (p1_b.length : Int)) : Int).toNat * Rep.sz U32 + 0) [.int .u32 (IntKind.u32.wrap (IntKind.i64.wrap (n1405 + (IntKind.i64.wrap ((IntKind.i64.wrap (y1435.n)) - (IntKind.i64.wrap (n1406)))))))] = xs1446 at hr1443 hg1445 ⊢
       refine W_end (E_then ?_)
       refine C_seq_join (fun H' M' L' => ∃ l1548 : List U32, ∃ n1550 : Int, ∃ xs1547 : List Value, m_large_divWords_b19 l1218 n1224 nx1228 l1548 n1550 = some r ∧ Rw H' v143 xs1547 l1548 ∧ H1407.le H' ∧ .row v143 81 (Rep.sz U32) l1548.length xs1547 :: .row v155 81 (Rep.sz U32) l1218.length xs1217 :: .row v149 81 (Rep.sz U32) (slc r134 0 (((p1_b.length : Int) : Int).toNat)).length xs150 :: M = M' ∧ [(4, v155), (8, .int .i64 (r127)), (9, v143), (10, v149), (11, .int .i64 ((p1_b.length : Int))), (12, .int .i64 (n1224)), (14, .int .u64 (n1550))] = L') ?_ (fun J1553 => ?_)
       ·rintro H1551 _ _ ⟨l1548, n1550, xs1547, hm, hr1549, hle1552, rfl, rfl⟩
        unfold m_large_divWords_b19 at hm
        refine C_region ?_
        refine W_move rfl rfl rfl ?_
        refine W_move rfl rfl rfl ?_
        refine W_move rfl rfl rfl ?_
        refine W_convInt rfl rfl runUnderlying85 runUnderlying81 rfl ?_
        obtain ⟨y1554, h1555, he1556, hm⟩ := idx_some hm
        refine W_indexO (List.mem_cons_of_mem _ (List.mem_cons_self ..)) rfl rfl runUnderlying46 sizeOf81 rfl rfl h1555 (List.getElem?_eq_some_iff.1 he1556).1 ?_
        obtain ⟨_, rfl, hg1557⟩ := (hr1219).elem he1556
        refine W_perm (List.Perm.swap _ _ _) ?_
        obtain ⟨hr1558, he1559, hg1560⟩ := Rw.put (cs := [.int .u32 (IntKind.u32.wrap (n1550))]) (o := 0) (c := [.int .u32 (y1554.n)]) (out := [.int .u32 (IntKind.u32.wrap (n1550))]) (e2 := ⟨IntKind.u32.wrap (n1550)⟩) (((((hr1219.mono hle1246).mono hle1258).mono hle1354).mono hle1408).mono hle1552) he1556 rfl hg1557 rfl rfl rfl
        refine W_storeO2 (i := (n1224 : Int).toNat * Rep.sz U32 + 0) (cs := [.int .u32 (IntKind.u32.wrap (n1550))]) rfl sizeOf81 rfl (row_ad0 _ _) rfl rfl rfl (Rw.room (((((hr1219.mono hle1246).mono hle1258).mono hle1354).mono hle1408).mono hle1552) he1556 rfl) rfl (all_cons rfl all_nil) (n' := (l1218.set ((n1224 : Int).toNat) ⟨IntKind.u32.wrap (n1550)⟩).length) List.length_set ?_
        generalize over xs1217 ((n1224 : Int).toNat * Rep.sz U32 + 0) [.int .u32 (IntKind.u32.wrap (n1550))] = xs1561 at hr1558 hg1560 ⊢
        refine W_end (E_normal_block (E_then (C_region ?_)))
        refine W_move rfl rfl rfl ?_
        refine W_bin rfl rfl rfl rfl rfl ?_
        refine W_assign rfl rfl rfl ?_
        refine W_end ?_
        exact E_keepJ (E_back (Nat.lt_succ_self _) ⟨(l1218.set ((n1224 : Int).toNat) ⟨IntKind.u32.wrap (n1550)⟩), l1548, IntKind.i64.wrap (n1224 - 1), xs1561, xs1547, (by rw [hn1229]; exact hm), hr1558, hr1549, (Hp.le_trans (Hp.le_trans (Hp.le_trans (Hp.le_trans (Hp.le_trans hle1226 hle1246) hle1258) hle1354) hle1408) hle1552), rfl, rfl⟩) (List.Perm.refl _) ⟨rfl, rfl, rfl, rfl, rfl, rfl, trivial⟩
       ·refine C_seq (C_region ?_)
        refine W_move rfl rfl rfl ?_
        refine W_bin rfl rfl rfl rfl rfl ?_
        refine W_end (E_then ?_)
        refine C_cond (b := decide ((IntKind.i64.wrap (n1405 + (IntKind.i64.wrap ((IntKind.i64.wrap (y1435.n)) - (IntKind.i64.wrap (n1406)))))) < 0)) rfl (fun hb1562 => ?_) (fun hb1562 => ?_)
        ·have hm := ite_t' hb1562 hm
         refine C_seq (C_region ?_)
         refine W_move rfl rfl rfl ?_
         refine W_bin rfl rfl rfl rfl rfl ?_
         refine W_assign rfl rfl rfl ?_
         refine W_end (E_then (C_seq (C_region ?_)))
         refine W_assign rfl rfl rfl ?_
         refine W_end (E_then (C_seq (C_seq (C_region ?_))))
         refine W_move rfl rfl rfl ?_
         refine W_move rfl rfl rfl ?_
         refine W_end (E_then (C_block ?_))
         refine C_keep (L' := [(4, v155), (8, .int .i64 (r127)), (9, v143), (10, v149), (11, .int .i64 ((p1_b.length : Int))), (12, .int .i64 (n1224)), (14, .int .u64 (IntKind.u64.wrap (n1352 - 1))), (19, .int .u64 (0)), (203, .int .i64 ((p1_b.length : Int))), (204, .int .i64 (((0 : Nat) : Int)))]) ⟨rfl, rfl, rfl, rfl, rfl, rfl, rfl, rfl, rfl, rfl, trivial⟩ (List.Perm.refl _) ?_
         refine C_loop (fun n H' M' L' => ∃ (k1563 : Nat) (zs1626' : Nat), ∃ l1616 : List U32, ∃ n1618 : Int, ∃ xs1615 : List Value, k1563 + zs1626' = ((p1_b.length : Int) : Int).toNat ∧ zs1626' = n ∧ forN (fun k s1621 n => m_large_divWords_b20 p1_b r134 n1224 k s1621.1 s1621.2 n) (fun s1621 => idx s1621.1 (IntKind.i64.wrap (n1224 + (p1_b.length : Int))) fun y1649 => idx s1621.1 (IntKind.i64.wrap (n1224 + (p1_b.length : Int))) fun y1653 => m_large_divWords_b19 l1218 n1224 nx1228 (s1621.1.set ((IntKind.i64.wrap (n1224 + (p1_b.length : Int)) : Int).toNat) ⟨IntKind.u32.wrap (y1649.n + (IntKind.u32.wrap (s1621.2)))⟩) (IntKind.u64.wrap (n1352 - 1))) zs1626' k1563 (l1616, n1618) = some r ∧ Rw H' v143 xs1615 l1616 ∧ H1407.le H' ∧ .row v143 81 (Rep.sz U32) l1616.length xs1615 :: .row v155 81 (Rep.sz U32) l1218.length xs1217 :: .row v149 81 (Rep.sz U32) (slc r134 0 (((p1_b.length : Int) : Int).toNat)).length xs150 :: M = M' ∧ [(4, v155), (8, .int .i64 (r127)), (9, v143), (10, v149), (11, .int .i64 ((p1_b.length : Int))), (12, .int .i64 (n1224)), (14, .int .u64 (IntKind.u64.wrap (n1352 - 1))), (19, .int .u64 (n1618)), (203, .int .i64 ((p1_b.length : Int))), (204, .int .i64 ((k1563 : Int)))] = L') _ ⟨0, _, (l1403.set ((IntKind.i64.wrap (n1224 + (p1_b.length : Int)) : Int).toNat) ⟨IntKind.u32.wrap (IntKind.i64.wrap (n1405 + (IntKind.i64.wrap ((IntKind.i64.wrap (y1435.n)) - (IntKind.i64.wrap (n1406))))))⟩), 0, xs1446, Nat.zero_add _, rfl, hm, hr1443, (Hp.le_refl _), rfl, rfl⟩ ?_
         rintro _ H1619 _ _ ⟨k1563, zs1626', l1616, n1618, xs1615, hd1628, rfl, hm, hr1617, hle1620, rfl, rfl⟩
         refine C_seq (C_region ?_)
         refine W_bin rfl rfl rfl rfl rfl ?_
         refine W_end (E_then (C_seq ?_))
         refine C_cond (b := decide ((k1563 : Int) < (p1_b.length : Int))) rfl (fun hb1630 => ?_) (fun hb1630 => ?_)
         ·obtain ⟨zs1626, rfl, hd1629, hy1627⟩ := rngN_t hd1628 hb1630
          have hm : m_large_divWords_b20 p1_b r134 n1224 k1563 l1616 n1618 (forN (fun k s1621 n => m_large_divWords_b20 p1_b r134 n1224 k s1621.1 s1621.2 n) (fun s1621 => idx s1621.1 (IntKind.i64.wrap (n1224 + (p1_b.length : Int))) fun y1649 => idx s1621.1 (IntKind.i64.wrap (n1224 + (p1_b.length : Int))) fun y1653 => m_large_divWords_b19 l1218 n1224 nx1228 (s1621.1.set ((IntKind.i64.wrap (n1224 + (p1_b.length : Int)) : Int).toNat) ⟨IntKind.u32.wrap (y1649.n + (IntKind.u32.wrap (s1621.2)))⟩) (IntKind.u64.wrap (n1352 - 1))) zs1626 (k1563 + 1)) = some r := hm
          generalize hn1623 : forN (fun k s1621 n => m_large_divWords_b20 p1_b r134 n1224 k s1621.1 s1621.2 n) (fun s1621 => idx s1621.1 (IntKind.i64.wrap (n1224 + (p1_b.length : Int))) fun y1649 => idx s1621.1 (IntKind.i64.wrap (n1224 + (p1_b.length : Int))) fun y1653 => m_large_divWords_b19 l1218 n1224 nx1228 (s1621.1.set ((IntKind.i64.wrap (n1224 + (p1_b.length : Int)) : Int).toNat) ⟨IntKind.u32.wrap (y1649.n + (IntKind.u32.wrap (s1621.2)))⟩) (IntKind.u64.wrap (n1352 - 1))) zs1626 (k1563 + 1) = nx1622 at hm
          unfold m_large_divWords_b20 at hm
          refine C_skip (E_then (C_seq (C_block (C_seq (C_region ?_)))))
          refine W_move rfl rfl rfl ?_
          refine W_assign rfl rfl rfl ?_
          refine W_end (E_then (C_seq ?_))
          obtain ⟨y1631, h1632, he1633, hm⟩ := idx_some hm
          obtain ⟨_, rfl, hg1634⟩ := (hr1617).elem he1633
          obtain ⟨y1635, h1636, he1637, hm⟩ := idx_some hm
          obtain ⟨_, rfl, hg1638⟩ := (hr151).elem he1637
          refine C_region_tok0 14 (phiT [(fun H rs v => [] = rs ∧ .int .u64 (n1618) = v), (fun H rs v => [] = rs ∧ v143 = v), (fun H rs v => [] = rs ∧ .int .i64 ((k1563 : Int)) = v), (fun H rs v => [] = rs ∧ .int .i64 (n1224) = v), (fun H rs v => [] = rs ∧ .int .i64 (IntKind.i64.wrap ((k1563 : Int) + n1224)) = v), (fun H rs v => [] = rs ∧ .pointer (some ((Value.base (v143)).add ((IntKind.i64.wrap ((k1563 : Int) + n1224) : Int).toNat * Rep.sz U32))) = v), (fun H rs v => [] = rs ∧ .int .u32 (y1631.n) = v), (fun H rs v => [] = rs ∧ .int .u64 (IntKind.u64.wrap (y1631.n)) = v), (fun H rs v => [] = rs ∧ v149 = v), (fun H rs v => [] = rs ∧ .int .i64 ((k1563 : Int)) = v), (fun H rs v => [] = rs ∧ .pointer (some ((Value.base (v149)).add (((k1563 : Int) : Int).toNat * Rep.sz U32))) = v), (fun H rs v => [] = rs ∧ .int .u32 (y1635.n) = v), (fun H rs v => [] = rs ∧ .int .u64 (IntKind.u64.wrap (y1635.n)) = v), (fun H rs v => [] = rs ∧ .int .u64 (IntKind.u64.wrap ((IntKind.u64.wrap (y1631.n)) + (IntKind.u64.wrap (y1635.n)))) = v)]) [[], [], [], [], [], [], [], [], [], [], [], [], [], []] [[], [], [], [], [], [], [], [], [], [], [], [], [], []] [] [0, 1, 2, 3, 4, 5, 6, 7, 8, 9, 10, 11, 12, 13] Facts.mixed (by kernel_rfl) (by rfl) (by rfl) (by rfl) (by kernel_rfl) (phiT_mono ⟨eq_monoT _ _, eq_monoT _ _, eq_monoT _ _, eq_monoT _ _, eq_monoT _ _, eq_monoT _ _, eq_monoT _ _, eq_monoT _ _, eq_monoT _ _, eq_monoT _ _, eq_monoT _ _, eq_monoT _ _, eq_monoT _ _, eq_monoT _ _, trivial⟩) ⟨?_, ?_, ?_, ?_, ?_, ?_, ?_, ?_, ?_, ?_, ?_, ?_, ?_, ?_, trivial⟩ ?_
          ·intro HX hX X Rest hR
           intro hU hUp
           refine W_move rfl rfl rfl ?_
           exact W_end (OneT_end [] (Hp.le_refl _) ⟨rfl, rfl⟩)
          ·intro HX hX X Rest hR
           intro hU hUp
           refine W_move rfl rfl rfl ?_
           exact W_end (OneT_end [] (Hp.le_refl _) ⟨rfl, rfl⟩)
          ·intro HX hX X Rest hR
           intro hU hUp
           refine W_move rfl rfl rfl ?_
           exact W_end (OneT_end [] (Hp.le_refl _) ⟨rfl, rfl⟩)
          ·intro HX hX X Rest hR
           intro hU hUp
           refine W_move rfl rfl rfl ?_
           exact W_end (OneT_end [] (Hp.le_refl _) ⟨rfl, rfl⟩)
          ·intro HX hX X Rest hR
           rintro _ _ ⟨rfl, rfl⟩
           rintro _ _ ⟨rfl, rfl⟩
           intro hU hUp
           refine W_bin rfl rfl rfl rfl rfl ?_
           exact W_end (OneT_end [] (Hp.le_refl _) ⟨rfl, rfl⟩)
          ·intro HX hX X Rest hR
           rintro _ _ ⟨rfl, rfl⟩
           rintro _ _ ⟨rfl, rfl⟩
           intro hU hUp
           refine W_indexO (hR _ (List.mem_cons_self ..)) rfl rfl runUnderlying46 sizeOf81 rfl rfl h1632 (List.getElem?_eq_some_iff.1 he1633).1 ?_
           exact W_end (OneT_end [] (Hp.le_refl _) ⟨rfl, rfl⟩)
          ·intro HX hX X Rest hR
           rintro _ _ ⟨rfl, rfl⟩
           intro hU hUp
           refine W_load rfl rfl isAgg81 rfl (row_one0 (hR _ (List.mem_cons_self ..)) hg1634 rfl) ?_
           exact W_end (OneT_end [] (Hp.le_refl _) ⟨rfl, rfl⟩)
          ·intro HX hX X Rest hR
           rintro _ _ ⟨rfl, rfl⟩
           intro hU hUp
           refine W_convInt rfl rfl runUnderlying81 runUnderlying85 rfl ?_
           exact W_end (OneT_end [] (Hp.le_refl _) ⟨rfl, rfl⟩)
          ·intro HX hX X Rest hR
           intro hU hUp
           refine W_move rfl rfl rfl ?_
           exact W_end (OneT_end [] (Hp.le_refl _) ⟨rfl, rfl⟩)
          ·intro HX hX X Rest hR
           intro hU hUp
           refine W_move rfl rfl rfl ?_
           exact W_end (OneT_end [] (Hp.le_refl _) ⟨rfl, rfl⟩)
          ·intro HX hX X Rest hR
           rintro _ _ ⟨rfl, rfl⟩
           rintro _ _ ⟨rfl, rfl⟩
           intro hU hUp
           refine W_indexO (hR _ (List.mem_cons_of_mem _ (List.mem_cons_of_mem _ (List.mem_cons_self ..)))) rfl rfl runUnderlying46 sizeOf81 rfl rfl h1636 (List.getElem?_eq_some_iff.1 he1637).1 ?_
           exact W_end (OneT_end [] (Hp.le_refl _) ⟨rfl, rfl⟩)
          ·intro HX hX X Rest hR
           rintro _ _ ⟨rfl, rfl⟩
           intro hU hUp
           refine W_load rfl rfl isAgg81 rfl (row_one0 (hR _ (List.mem_cons_of_mem _ (List.mem_cons_of_mem _ (List.mem_cons_self ..)))) hg1638 rfl) ?_
           exact W_end (OneT_end [] (Hp.le_refl _) ⟨rfl, rfl⟩)
          ·intro HX hX X Rest hR
           rintro _ _ ⟨rfl, rfl⟩
           intro hU hUp
           refine W_convInt rfl rfl runUnderlying81 runUnderlying85 rfl ?_
           exact W_end (OneT_end [] (Hp.le_refl _) ⟨rfl, rfl⟩)
          ·intro HX hX X Rest hR
           rintro _ _ ⟨rfl, rfl⟩
           rintro _ _ ⟨rfl, rfl⟩
           intro hU hUp
           refine W_bin rfl rfl rfl rfl rfl ?_
           exact W_end (OneT_end [] (Hp.le_refl _) ⟨rfl, rfl⟩)
          intro H1639 hle1640
          rintro _ _ ⟨rfl, rfl⟩
          rintro _ _ ⟨rfl, rfl⟩
          rintro _ _ ⟨rfl, rfl⟩
          rintro _ _ ⟨rfl, rfl⟩
          rintro _ _ ⟨rfl, rfl⟩
          rintro _ _ ⟨rfl, rfl⟩
          rintro _ _ ⟨rfl, rfl⟩
          rintro _ _ ⟨rfl, rfl⟩
          rintro _ _ ⟨rfl, rfl⟩
          rintro _ _ ⟨rfl, rfl⟩
          rintro _ _ ⟨rfl, rfl⟩
          rintro _ _ ⟨rfl, rfl⟩
          rintro _ _ ⟨rfl, rfl⟩
          rintro _ _ ⟨rfl, rfl⟩
          refine W_bin rfl rfl rfl rfl rfl ?_
          refine W_assign rfl rfl rfl ?_
          refine W_end (E_then (C_seq (C_region ?_)))
          refine W_move rfl rfl rfl ?_
          refine W_move rfl rfl rfl ?_
          refine W_move rfl rfl rfl ?_
          refine W_bin rfl rfl rfl rfl rfl ?_
          refine W_move rfl rfl rfl ?_
          refine W_convInt rfl rfl runUnderlying85 runUnderlying81 rfl ?_
          obtain ⟨y1641, h1642, he1643, hm⟩ := idx_some hm
          refine W_indexO (List.mem_cons_self ..) rfl rfl runUnderlying46 sizeOf81 rfl rfl h1642 (List.getElem?_eq_some_iff.1 he1643).1 ?_
          obtain ⟨_, rfl, hg1644⟩ := (hr1617).elem he1643
          obtain ⟨hr1645, he1646, hg1647⟩ := Rw.put (cs := [.int .u32 (IntKind.u32.wrap (IntKind.u64.wrap (n1618 + (IntKind.u64.wrap ((IntKind.u64.wrap (y1631.n)) + (IntKind.u64.wrap (y1635.n)))))))]) (o := 0) (c := [.int .u32 (y1641.n)]) (out := [.int .u32 (IntKind.u32.wrap (IntKind.u64.wrap (n1618 + (IntKind.u64.wrap ((IntKind.u64.wrap (y1631.n)) + (IntKind.u64.wrap (y1635.n)))))))]) (e2 := ⟨IntKind.u32.wrap (IntKind.u64.wrap (n1618 + (IntKind.u64.wrap ((IntKind.u64.wrap (y1631.n)) + (IntKind.u64.wrap (y1635.n))))))⟩) (hr1617.mono hle1640) he1643 rfl hg1644 rfl rfl rfl
          refine W_storeO2 (i := (IntKind.i64.wrap ((k1563 : Int) + n1224) : Int).toNat * Rep.sz U32 + 0) (cs := [.int .u32 (IntKind.u32.wrap (IntKind.u64.wrap (n1618 + (IntKind.u64.wrap ((IntKind.u64.wrap (y1631.n)) + (IntKind.u64.wrap (y1635.n)))))))]) rfl sizeOf81 rfl (row_ad0 _ _) rfl rfl rfl (Rw.room (hr1617.mono hle1640) he1643 rfl) rfl (all_cons rfl all_nil) (n' := (l1616.set ((IntKind.i64.wrap ((k1563 : Int) + n1224) : Int).toNat) ⟨IntKind.u32.wrap (IntKind.u64.wrap (n1618 + (IntKind.u64.wrap ((IntKind.u64.wrap (y1631.n)) + (IntKind.u64.wrap (y1635.n))))))⟩).length) List.length_set ?_
          generalize over xs1615 ((IntKind.i64.wrap ((k1563 : Int) + n1224) : Int).toNat * Rep.sz U32 + 0) [.int .u32 (IntKind.u32.wrap (IntKind.u64.wrap (n1618 + (IntKind.u64.wrap ((IntKind.u64.wrap (y1631.n)) + (IntKind.u64.wrap (y1635.n)))))))] = xs1648 at hr1645 hg1647 ⊢
          refine W_end (E_then (C_region ?_))
          refine W_move rfl rfl rfl ?_
          refine W_shr rfl rfl rfl rfl (by decide) ?_
          refine W_assign rfl rfl rfl ?_
          refine W_end (E_normal_block (E_then (C_region ?_)))
          refine W_bin rfl rfl rfl rfl rfl ?_
          refine W_move rfl rfl rfl ?_
          refine W_end ?_
          exact E_keepJ (E_back (Nat.lt_succ_self _) ⟨k1563 + 1, zs1626, (l1616.set ((IntKind.i64.wrap ((k1563 : Int) + n1224) : Int).toNat) ⟨IntKind.u32.wrap (IntKind.u64.wrap (n1618 + (IntKind.u64.wrap ((IntKind.u64.wrap (y1631.n)) + (IntKind.u64.wrap (y1635.n))))))⟩), shrV .u64 (IntKind.u64.wrap (n1618 + (IntKind.u64.wrap ((IntKind.u64.wrap (y1631.n)) + (IntKind.u64.wrap (y1635.n)))))) 32, xs1648, hd1629, rfl, (by rw [hn1623]; exact hm), hr1645, (Hp.le_trans hle1620 hle1640), rfl, rfl⟩) (List.Perm.refl _) ⟨rfl, rfl, rfl, rfl, rfl, rfl, rfl, rfl, rfl, (congrArg (fun z => some (Value.int .i64 z)) (i64_succN hy1627 (toNat_max (len_max (((((((h1.mono hle153).mono hle1226).mono hle1246).mono hle1258).mono hle1354).mono hle1408)).lenMax)))), trivial⟩
         ·obtain rfl := rngN_f hd1628 hb1630
          have hm : (idx l1616 (IntKind.i64.wrap (n1224 + (p1_b.length : Int))) fun y1649 => idx l1616 (IntKind.i64.wrap (n1224 + (p1_b.length : Int))) fun y1653 => m_large_divWords_b19 l1218 n1224 nx1228 (l1616.set ((IntKind.i64.wrap (n1224 + (p1_b.length : Int)) : Int).toNat) ⟨IntKind.u32.wrap (y1649.n + (IntKind.u32.wrap (n1618)))⟩) (IntKind.u64.wrap (n1352 - 1))) = some r := hm
          refine C_exit (E_exit_then (E_exit_then (E_exit_hit (E_then (C_region ?_)))))
          refine W_move rfl rfl rfl ?_
          refine W_move rfl rfl rfl ?_
          refine W_move rfl rfl rfl ?_
          refine W_bin rfl rfl rfl rfl rfl ?_
          obtain ⟨y1649, h1650, he1651, hm⟩ := idx_some hm
          refine W_indexO (List.mem_cons_self ..) rfl rfl runUnderlying46 sizeOf81 rfl rfl h1650 (List.getElem?_eq_some_iff.1 he1651).1 ?_
          obtain ⟨_, rfl, hg1652⟩ := (hr1617).elem he1651
          refine W_load rfl rfl isAgg81 rfl (row_one0 (List.mem_cons_self ..) hg1652 rfl) ?_
          refine W_move rfl rfl rfl ?_
          refine W_convInt rfl rfl runUnderlying85 runUnderlying81 rfl ?_
          refine W_bin rfl rfl rfl rfl rfl ?_
          obtain ⟨y1653, h1654, he1655, hm⟩ := idx_some hm
          refine W_indexO (List.mem_cons_self ..) rfl rfl runUnderlying46 sizeOf81 rfl rfl h1654 (List.getElem?_eq_some_iff.1 he1655).1 ?_
          obtain ⟨_, rfl, hg1656⟩ := (hr1617).elem he1655
          obtain ⟨hr1657, he1658, hg1659⟩ := Rw.put (cs := [.int .u32 (IntKind.u32.wrap (y1649.n + (IntKind.u32.wrap (n1618))))]) (o := 0) (c := [.int .u32 (y1653.n)]) (out := [.int .u32 (IntKind.u32.wrap (y1649.n + (IntKind.u32.wrap (n1618))))]) (e2 := ⟨IntKind.u32.wrap (y1649.n + (IntKind.u32.wrap (n1618)))⟩) hr1617 he1655 rfl hg1656 rfl rfl rfl
          refine W_storeO2 (i := (IntKind.i64.wrap (n1224 + (p1_b.length : Int)) : Int).toNat * Rep.sz U32 + 0) (cs := [.int .u32 (IntKind.u32.wrap (y1649.n + (IntKind.u32.wrap (n1618))))]) rfl sizeOf81 rfl (row_ad0 _ _) rfl rfl rfl (Rw.room hr1617 he1655 rfl) rfl (all_cons rfl all_nil) (n' := (l1616.set ((IntKind.i64.wrap (n1224 + (p1_b.length : Int)) : Int).toNat) ⟨IntKind.u32.wrap (y1649.n + (IntKind.u32.wrap (n1618)))⟩).length) List.length_set ?_
          generalize over xs1615 ((IntKind.i64.wrap (n1224 + (p1_b.length : Int)) : Int).toNat * Rep.sz U32 + 0) [.int .u32 (IntKind.u32.wrap (y1649.n + (IntKind.u32.wrap (n1618))))] = xs1660 at hr1657 hg1659 ⊢
          refine W_end ?_
          exact E_keepJ (J1553 _ _ _ ⟨(l1616.set ((IntKind.i64.wrap (n1224 + (p1_b.length : Int)) : Int).toNat) ⟨IntKind.u32.wrap (y1649.n + (IntKind.u32.wrap (n1618)))⟩), IntKind.u64.wrap (n1352 - 1), xs1660, hm, hr1657, hle1620, rfl, rfl⟩) (List.Perm.refl _) ⟨rfl, rfl, rfl, rfl, rfl, rfl, rfl, trivial⟩
        ·have hm := ite_f' hb1562 hm
         refine C_skip ?_
         exact E_keepJ (J1553 _ _ _ ⟨(l1403.set ((IntKind.i64.wrap (n1224 + (p1_b.length : Int)) : Int).toNat) ⟨IntKind.u32.wrap (IntKind.i64.wrap (n1405 + (IntKind.i64.wrap ((IntKind.i64.wrap (y1435.n)) - (IntKind.i64.wrap (n1406))))))⟩), n1352, xs1446, hm, hr1443, (Hp.le_refl _), rfl, rfl⟩) (List.Perm.refl _) ⟨rfl, rfl, rfl, rfl, rfl, rfl, rfl, trivial⟩
     ·refine C_block ?_
      refine C_keep (L' := [(4, v155), (8, .int .i64 (r127)), (9, v143), (10, v149), (11, .int .i64 ((p1_b.length : Int))), (12, .int .i64 (n1224)), (14, .int .u64 (IntKind.u64.wrap (Int.tdiv (IntKind.u64.wrap ((BitVec.ofInt (IntKind.u64).bits (shlV .u64 (IntKind.u64.wrap (y1237.n)) 32) ||| BitVec.ofInt (IntKind.u64).bits (IntKind.u64.wrap (y1241.n))).toNat)) (IntKind.u64.wrap (y1247.n))))), (15, .int .u64 (Int.tmod (IntKind.u64.wrap ((BitVec.ofInt (IntKind.u64).bits (shlV .u64 (IntKind.u64.wrap (y1237.n)) 32) ||| BitVec.ofInt (IntKind.u64).bits (IntKind.u64.wrap (y1241.n))).toNat)) (IntKind.u64.wrap (y1252.n))))]) ⟨rfl, rfl, rfl, rfl, rfl, rfl, rfl, rfl, trivial⟩ (List.Perm.refl _) ?_
      refine C_loop (fun n H' M' L' => ∃ n1717 : Int, ∃ n1718 : Int, loopF (fun s1721 n => m_large_divWords_b22 p1_b r134 l1218 l1222 n1224 nx1228 s1721.1 s1721.2 n) n (n1717, n1718) = some r ∧ H1257.le H' ∧ .row v155 81 (Rep.sz U32) l1218.length xs1217 :: .row v143 81 (Rep.sz U32) l1222.length xs1221 :: .row v149 81 (Rep.sz U32) (slc r134 0 (((p1_b.length : Int) : Int).toNat)).length xs150 :: M = M' ∧ [(4, v155), (8, .int .i64 (r127)), (9, v143), (10, v149), (11, .int .i64 ((p1_b.length : Int))), (12, .int .i64 (n1224)), (14, .int .u64 (n1717)), (15, .int .u64 (n1718))] = L') FUEL ⟨IntKind.u64.wrap (Int.tdiv (IntKind.u64.wrap ((BitVec.ofInt (IntKind.u64).bits (shlV .u64 (IntKind.u64.wrap (y1237.n)) 32) ||| BitVec.ofInt (IntKind.u64).bits (IntKind.u64.wrap (y1241.n))).toNat)) (IntKind.u64.wrap (y1247.n))), Int.tmod (IntKind.u64.wrap ((BitVec.ofInt (IntKind.u64).bits (shlV .u64 (IntKind.u64.wrap (y1237.n)) 32) ||| BitVec.ofInt (IntKind.u64).bits (IntKind.u64.wrap (y1241.n))).toNat)) (IntKind.u64.wrap (y1252.n)), hm, (Hp.le_refl _), rfl, rfl⟩ ?_
      rintro n1724 H1719 _ _ ⟨n1717, n1718, hm, hle1720, rfl, rfl⟩
      cases n1724 with
      | zero => cases hm
      | succ n1724 =>
       have hm : m_large_divWords_b22 p1_b r134 l1218 l1222 n1224 nx1228 n1717 n1718 (loopF (fun s1721 n => m_large_divWords_b22 p1_b r134 l1218 l1222 n1224 nx1228 s1721.1 s1721.2 n) n1724) = some r := hm
       generalize hn1723 : loopF (fun s1721 n => m_large_divWords_b22 p1_b r134 l1218 l1222 n1224 nx1228 s1721.1 s1721.2 n) n1724 = nx1722 at hm
       unfold m_large_divWords_b22 at hm
       refine C_seq (C_seq ?_)
       cases hb1730 : (decide (4294967296 ≤ n1717))
       ·have hm := ite_f' hb1730 hm
        obtain ⟨y1731, h1732, he1733, hm⟩ := idx_some hm
        obtain ⟨_, rfl, hg1734⟩ := (hr151).elem he1733
        obtain ⟨y1735, h1736, he1737, hm⟩ := idx_some hm
        obtain ⟨_, rfl, hg1738⟩ := (hr1223).elem he1737
        refine C_region_tok0 22 (phiT [(fun H rs v => [] = rs ∧ .int .u64 (n1717) = v), (fun H rs v => [] = rs ∧ .bool (false) = v), (fun H rs v => [] = rs ∧ .bool (false) = v), (fun H rs v => [] = rs ∧ .int .u64 (n1717) = v), (fun H rs v => [] = rs ∧ v149 = v), (fun H rs v => [] = rs ∧ .int .i64 ((p1_b.length : Int)) = v), (fun H rs v => [] = rs ∧ .int .i64 (IntKind.i64.wrap ((p1_b.length : Int) - 2)) = v), (fun H rs v => [] = rs ∧ .pointer (some ((Value.base (v149)).add ((IntKind.i64.wrap ((p1_b.length : Int) - 2) : Int).toNat * Rep.sz U32))) = v), (fun H rs v => [] = rs ∧ .int .u32 (y1731.n) = v), (fun H rs v => [] = rs ∧ .int .u64 (IntKind.u64.wrap (y1731.n)) = v), (fun H rs v => [] = rs ∧ .int .u64 (IntKind.u64.wrap (n1717 * (IntKind.u64.wrap (y1731.n)))) = v), (fun H rs v => [] = rs ∧ .int .u64 (n1718) = v), (fun H rs v => [] = rs ∧ .int .u64 (shlV .u64 n1718 32) = v), (fun H rs v => [] = rs ∧ v143 = v), (fun H rs v => [] = rs ∧ .int .i64 (n1224) = v), (fun H rs v => [] = rs ∧ .int .i64 ((p1_b.length : Int)) = v), (fun H rs v => [] = rs ∧ .int .i64 (IntKind.i64.wrap (n1224 + (p1_b.length : Int))) = v), (fun H rs v => [] = rs ∧ .int .i64 (IntKind.i64.wrap ((IntKind.i64.wrap (n1224 + (p1_b.length : Int))) - 2)) = v), (fun H rs v => [] = rs ∧ .pointer (some ((Value.base (v143)).add ((IntKind.i64.wrap ((IntKind.i64.wrap (n1224 + (p1_b.length : Int))) - 2) : Int).toNat * Rep.sz U32))) = v), (fun H rs v => [] = rs ∧ .int .u32 (y1735.n) = v), (fun H rs v => [] = rs ∧ .int .u64 (IntKind.u64.wrap (y1735.n)) = v), (fun H rs v => [] = rs ∧ .int .u64 (IntKind.u64.wrap ((BitVec.ofInt (IntKind.u64).bits (shlV .u64 n1718 32) ||| BitVec.ofInt (IntKind.u64).bits (IntKind.u64.wrap (y1735.n))).toNat)) = v)]) [[], [], [], [], [], [], [], [], [], [], [], [], [], [], [], [], [], [], [], [], [], []] [[], [], [], [], [], [], [], [], [], [], [], [], [], [], [], [], [], [], [], [], [], []] [] [0, 1, 2, 3, 4, 5, 6, 7, 8, 9, 10, 11, 12, 13, 14, 15, 16, 17, 18, 19, 20, 21] Facts.mixed (by kernel_rfl) (by rfl) (by rfl) (by rfl) (by kernel_rfl) (phiT_mono ⟨eq_monoT _ _, eq_monoT _ _, eq_monoT _ _, eq_monoT _ _, eq_monoT _ _, eq_monoT _ _, eq_monoT _ _, eq_monoT _ _, eq_monoT _ _, eq_monoT _ _, eq_monoT _ _, eq_monoT _ _, eq_monoT _ _, eq_monoT _ _, eq_monoT _ _, eq_monoT _ _, eq_monoT _ _, eq_monoT _ _, eq_monoT _ _, eq_monoT _ _, eq_monoT _ _, eq_monoT _ _, trivial⟩) ⟨?_, ?_, ?_, ?_, ?_, ?_, ?_, ?_, ?_, ?_, ?_, ?_, ?_, ?_, ?_, ?_, ?_, ?_, ?_, ?_, ?_, ?_, trivial⟩ ?_
        ·intro HX hX X Rest hR
         intro hU hUp
         refine W_move rfl rfl rfl ?_
         exact W_end (OneT_end [] (Hp.le_refl _) ⟨rfl, rfl⟩)
        ·intro HX hX X Rest hR
         rintro _ _ ⟨rfl, rfl⟩
         intro hU hUp
         refine W_bin rfl rfl rfl rfl rfl ?_
         exact W_end (OneT_end [] (Hp.le_refl _) ⟨rfl, (by first | rfl | (rw [hb1730]; try rfl))⟩)
        ·intro HX hX X Rest hR
         rintro _ _ ⟨rfl, rfl⟩
         intro hU hUp
         refine W_move rfl rfl rfl ?_
         exact W_end (OneT_end [] (Hp.le_refl _) ⟨rfl, rfl⟩)
        ·intro HX hX X Rest hR
         rintro _ _ ⟨rfl, rfl⟩
         intro hU hUp
         refine W_move rfl rfl rfl ?_
         exact W_end (OneT_end [] (Hp.le_refl _) ⟨rfl, rfl⟩)
        ·intro HX hX X Rest hR
         rintro _ _ ⟨rfl, rfl⟩
         intro hU hUp
         refine W_move rfl rfl rfl ?_
         exact W_end (OneT_end [] (Hp.le_refl _) ⟨rfl, rfl⟩)
        ·intro HX hX X Rest hR
         rintro _ _ ⟨rfl, rfl⟩
         intro hU hUp
         refine W_move rfl rfl rfl ?_
         exact W_end (OneT_end [] (Hp.le_refl _) ⟨rfl, rfl⟩)
        ·intro HX hX X Rest hR
         rintro _ _ ⟨rfl, rfl⟩
         rintro _ _ ⟨rfl, rfl⟩
         intro hU hUp
         refine W_bin rfl rfl rfl rfl rfl ?_
         exact W_end (OneT_end [] (Hp.le_refl _) ⟨rfl, rfl⟩)
        ·intro HX hX X Rest hR
         rintro _ _ ⟨rfl, rfl⟩
         rintro _ _ ⟨rfl, rfl⟩
         rintro _ _ ⟨rfl, rfl⟩
         intro hU hUp
         refine W_indexO (hR _ (List.mem_cons_of_mem _ (List.mem_cons_of_mem _ (List.mem_cons_self ..)))) rfl rfl runUnderlying46 sizeOf81 rfl rfl h1732 (List.getElem?_eq_some_iff.1 he1733).1 ?_
         exact W_end (OneT_end [] (Hp.le_refl _) ⟨rfl, rfl⟩)
        ·intro HX hX X Rest hR
         rintro _ _ ⟨rfl, rfl⟩
         rintro _ _ ⟨rfl, rfl⟩
         intro hU hUp
         refine W_load rfl rfl isAgg81 rfl (row_one0 (hR _ (List.mem_cons_of_mem _ (List.mem_cons_of_mem _ (List.mem_cons_self ..)))) hg1734 rfl) ?_
         exact W_end (OneT_end [] (Hp.le_refl _) ⟨rfl, rfl⟩)
        ·intro HX hX X Rest hR
         rintro _ _ ⟨rfl, rfl⟩
         rintro _ _ ⟨rfl, rfl⟩
         intro hU hUp
         refine W_convInt rfl rfl runUnderlying81 runUnderlying85 rfl ?_
         exact W_end (OneT_end [] (Hp.le_refl _) ⟨rfl, rfl⟩)
        ·intro HX hX X Rest hR
         rintro _ _ ⟨rfl, rfl⟩
         rintro _ _ ⟨rfl, rfl⟩
         rintro _ _ ⟨rfl, rfl⟩
         intro hU hUp
         refine W_bin rfl rfl rfl rfl rfl ?_
         exact W_end (OneT_end [] (Hp.le_refl _) ⟨rfl, rfl⟩)
        ·intro HX hX X Rest hR
         rintro _ _ ⟨rfl, rfl⟩
         intro hU hUp
         refine W_move rfl rfl rfl ?_
         exact W_end (OneT_end [] (Hp.le_refl _) ⟨rfl, rfl⟩)
        ·intro HX hX X Rest hR
         rintro _ _ ⟨rfl, rfl⟩
         rintro _ _ ⟨rfl, rfl⟩
         intro hU hUp
         refine W_shl rfl rfl rfl rfl (by decide) ?_
         exact W_end (OneT_end [] (Hp.le_refl _) ⟨rfl, rfl⟩)
        ·intro HX hX X Rest hR
         rintro _ _ ⟨rfl, rfl⟩
         intro hU hUp
         refine W_move rfl rfl rfl ?_
         exact W_end (OneT_end [] (Hp.le_refl _) ⟨rfl, rfl⟩)
        ·intro HX hX X Rest hR
         rintro _ _ ⟨rfl, rfl⟩
         intro hU hUp
         refine W_move rfl rfl rfl ?_
         exact W_end (OneT_end [] (Hp.le_refl _) ⟨rfl, rfl⟩)
        ·intro HX hX X Rest hR
         rintro _ _ ⟨rfl, rfl⟩
         intro hU hUp
         refine W_move rfl rfl rfl ?_
         exact W_end (OneT_end [] (Hp.le_refl _) ⟨rfl, rfl⟩)
        ·intro HX hX X Rest hR
         rintro _ _ ⟨rfl, rfl⟩
         rintro _ _ ⟨rfl, rfl⟩
         rintro _ _ ⟨rfl, rfl⟩
         intro hU hUp
         refine W_bin rfl rfl rfl rfl rfl ?_
         exact W_end (OneT_end [] (Hp.le_refl _) ⟨rfl, rfl⟩)
        ·intro HX hX X Rest hR
         rintro _ _ ⟨rfl, rfl⟩
         rintro _ _ ⟨rfl, rfl⟩
         intro hU hUp
         refine W_bin rfl rfl rfl rfl rfl ?_
         exact W_end (OneT_end [] (Hp.le_refl _) ⟨rfl, rfl⟩)
        ·intro HX hX X Rest hR
         rintro _ _ ⟨rfl, rfl⟩
         rintro _ _ ⟨rfl, rfl⟩
         rintro _ _ ⟨rfl, rfl⟩
         intro hU hUp
         refine W_indexO (hR _ (List.mem_cons_of_mem _ (List.mem_cons_self ..))) rfl rfl runUnderlying46 sizeOf81 rfl rfl h1736 (List.getElem?_eq_some_iff.1 he1737).1 ?_
         exact W_end (OneT_end [] (Hp.le_refl _) ⟨rfl, rfl⟩)
        ·intro HX hX X Rest hR
         rintro _ _ ⟨rfl, rfl⟩
         rintro _ _ ⟨rfl, rfl⟩
         intro hU hUp
         refine W_load rfl rfl isAgg81 rfl (row_one0 (hR _ (List.mem_cons_of_mem _ (List.mem_cons_self ..))) hg1738 rfl) ?_
         exact W_end (OneT_end [] (Hp.le_refl _) ⟨rfl, rfl⟩)
        ·intro HX hX X Rest hR
         rintro _ _ ⟨rfl, rfl⟩
         rintro _ _ ⟨rfl, rfl⟩
         intro hU hUp
         refine W_convInt rfl rfl runUnderlying81 runUnderlying85 rfl ?_
         exact W_end (OneT_end [] (Hp.le_refl _) ⟨rfl, rfl⟩)
        ·intro HX hX X Rest hR
         rintro _ _ ⟨rfl, rfl⟩
         rintro _ _ ⟨rfl, rfl⟩
         rintro _ _ ⟨rfl, rfl⟩
         intro hU hUp
         refine W_bin rfl rfl rfl rfl rfl ?_
         exact W_end (OneT_end [] (Hp.le_refl _) ⟨rfl, rfl⟩)
        intro H1739 hle1740
        rintro _ _ ⟨rfl, rfl⟩
        rintro _ _ ⟨rfl, rfl⟩
        rintro _ _ ⟨rfl, rfl⟩
        rintro _ _ ⟨rfl, rfl⟩
        rintro _ _ ⟨rfl, rfl⟩
        rintro _ _ ⟨rfl, rfl⟩
        rintro _ _ ⟨rfl, rfl⟩
        rintro _ _ ⟨rfl, rfl⟩
        rintro _ _ ⟨rfl, rfl⟩
        rintro _ _ ⟨rfl, rfl⟩
        rintro _ _ ⟨rfl, rfl⟩
        rintro _ _ ⟨rfl, rfl⟩
        rintro _ _ ⟨rfl, rfl⟩
        rintro _ _ ⟨rfl, rfl⟩
        rintro _ _ ⟨rfl, rfl⟩
        rintro _ _ ⟨rfl, rfl⟩
        rintro _ _ ⟨rfl, rfl⟩
        rintro _ _ ⟨rfl, rfl⟩
        rintro _ _ ⟨rfl, rfl⟩
        rintro _ _ ⟨rfl, rfl⟩
        rintro _ _ ⟨rfl, rfl⟩
        rintro _ _ ⟨rfl, rfl⟩
        refine W_bin rfl rfl rfl rfl rfl ?_
        refine W_pick rfl rfl rfl rfl ?_
        refine W_end (E_then ?_)
        refine C_cond (b := decide ((IntKind.u64.wrap ((BitVec.ofInt (IntKind.u64).bits (shlV .u64 n1718 32) ||| BitVec.ofInt (IntKind.u64).bits (IntKind.u64.wrap (y1735.n))).toNat)) < (IntKind.u64.wrap (n1717 * (IntKind.u64.wrap (y1731.n)))))) rfl (fun hb1741 => ?_) (fun hb1741 => ?_)
        ·have hm := ite_t' hb1741 hm
         refine C_skip (E_then (C_block (C_seq (C_region ?_))))
         refine W_move rfl rfl rfl ?_
         refine W_bin rfl rfl rfl rfl rfl ?_
         refine W_assign rfl rfl rfl ?_
         refine W_end (E_then (C_seq (C_region ?_)))
         refine W_move rfl rfl rfl ?_
         refine W_move rfl rfl rfl ?_
         refine W_move rfl rfl rfl ?_
         refine W_bin rfl rfl rfl rfl rfl ?_
         obtain ⟨y1742, h1743, he1744, hm⟩ := idx_some hm
         refine W_indexO (List.mem_cons_of_mem _ (List.mem_cons_of_mem _ (List.mem_cons_self ..))) rfl rfl runUnderlying46 sizeOf81 rfl rfl h1743 (List.getElem?_eq_some_iff.1 he1744).1 ?_
         obtain ⟨_, rfl, hg1745⟩ := (hr151).elem he1744
         refine W_load rfl rfl isAgg81 rfl (row_one0 (List.mem_cons_of_mem _ (List.mem_cons_of_mem _ (List.mem_cons_self ..))) hg1745 rfl) ?_
         refine W_convInt rfl rfl runUnderlying81 runUnderlying85 rfl ?_
         refine W_bin rfl rfl rfl rfl rfl ?_
         refine W_assign rfl rfl rfl ?_
         refine W_end (E_then (C_seq (C_region ?_)))
         refine W_move rfl rfl rfl ?_
         refine W_bin rfl rfl rfl rfl rfl ?_
         refine W_end (E_then ?_)
         refine C_cond (b := decide (4294967296 ≤ (IntKind.u64.wrap (n1718 + (IntKind.u64.wrap (y1742.n)))))) rfl (fun hb1746 => ?_) (fun hb1746 => ?_)
         ·have hm := ite_t' hb1746 hm
          refine C_exit ?_
          refine E_exit_miss rfl ?_
          refine E_exit_then (E_exit_hit ?_)
          exact E_keepJ (J1355 _ _ _ ⟨IntKind.u64.wrap (n1717 - 1), hm, (Hp.le_trans hle1720 hle1740), rfl, rfl⟩) (List.Perm.refl _) ⟨rfl, rfl, rfl, rfl, rfl, rfl, rfl, trivial⟩
         ·have hm := ite_f' hb1746 hm
          refine C_skip (E_normal_block ?_)
          exact E_keepJ (E_back (Nat.lt_succ_self _) ⟨IntKind.u64.wrap (n1717 - 1), IntKind.u64.wrap (n1718 + (IntKind.u64.wrap (y1742.n))), (by rw [hn1723]; exact hm), (Hp.le_trans hle1720 hle1740), rfl, rfl⟩) (List.Perm.refl _) ⟨rfl, rfl, rfl, rfl, rfl, rfl, rfl, rfl, trivial⟩
        ·have hm := ite_f' hb1741 hm
         refine C_exit (E_exit_then (E_exit_then (E_exit_hit ?_)))
         exact E_keepJ (J1355 _ _ _ ⟨n1717, hm, (Hp.le_trans hle1720 hle1740), rfl, rfl⟩) (List.Perm.refl _) ⟨rfl, rfl, rfl, rfl, rfl, rfl, rfl, trivial⟩
       ·have hm := ite_t' hb1730 hm
        refine C_region_tok0 22 (phiT [(fun H rs v => [] = rs ∧ .int .u64 (n1717) = v), (fun H rs v => [] = rs ∧ .bool (true) = v), (fun H rs v => [] = rs ∧ .bool (true) = v), (fun H rs v => [] = rs ∧ undef = v), (fun H rs v => [] = rs ∧ undef = v), (fun H rs v => [] = rs ∧ undef = v), (fun H rs v => [] = rs ∧ undef = v), (fun H rs v => [] = rs ∧ undef = v), (fun H rs v => [] = rs ∧ undef = v), (fun H rs v => [] = rs ∧ undef = v), (fun H rs v => [] = rs ∧ undef = v), (fun H rs v => [] = rs ∧ undef = v), (fun H rs v => [] = rs ∧ undef = v), (fun H rs v => [] = rs ∧ undef = v), (fun H rs v => [] = rs ∧ undef = v), (fun H rs v => [] = rs ∧ undef = v), (fun H rs v => [] = rs ∧ undef = v), (fun H rs v => [] = rs ∧ undef = v), (fun H rs v => [] = rs ∧ undef = v), (fun H rs v => [] = rs ∧ undef = v), (fun H rs v => [] = rs ∧ undef = v), (fun H rs v => [] = rs ∧ undef = v)]) [[], [], [], [], [], [], [], [], [], [], [], [], [], [], [], [], [], [], [], [], [], []] [[], [], [], [], [], [], [], [], [], [], [], [], [], [], [], [], [], [], [], [], [], []] [] [0, 1, 2, 3, 4, 5, 6, 7, 8, 9, 10, 11, 12, 13, 14, 15, 16, 17, 18, 19, 20, 21] Facts.mixed (by kernel_rfl) (by rfl) (by rfl) (by rfl) (by kernel_rfl) (phiT_mono ⟨eq_monoT _ _, eq_monoT _ _, eq_monoT _ _, eq_monoT _ _, eq_monoT _ _, eq_monoT _ _, eq_monoT _ _, eq_monoT _ _, eq_monoT _ _, eq_monoT _ _, eq_monoT _ _, eq_monoT _ _, eq_monoT _ _, eq_monoT _ _, eq_monoT _ _, eq_monoT _ _, eq_monoT _ _, eq_monoT _ _, eq_monoT _ _, eq_monoT _ _, eq_monoT _ _, eq_monoT _ _, trivial⟩) ⟨?_, ?_, ?_, ?_, ?_, ?_, ?_, ?_, ?_, ?_, ?_, ?_, ?_, ?_, ?_, ?_, ?_, ?_, ?_, ?_, ?_, ?_, trivial⟩ ?_
        ·intro HX hX X Rest hR
         intro hU hUp
         refine W_move rfl rfl rfl ?_
         exact W_end (OneT_end [] (Hp.le_refl _) ⟨rfl, rfl⟩)
        ·intro HX hX X Rest hR
         rintro _ _ ⟨rfl, rfl⟩
         intro hU hUp
         refine W_bin rfl rfl rfl rfl rfl ?_
         exact W_end (OneT_end [] (Hp.le_refl _) ⟨rfl, (by first | rfl | (rw [hb1730]; try rfl))⟩)
        ·intro HX hX X Rest hR
         rintro _ _ ⟨rfl, rfl⟩
         intro hU hUp
         refine W_move rfl rfl rfl ?_
         exact W_end (OneT_end [] (Hp.le_refl _) ⟨rfl, rfl⟩)
        ·intro HX hX X Rest hR
         rintro _ _ ⟨rfl, rfl⟩
         intro hU hUp
         refine W_no rfl rfl rfl ?_
         exact W_end (OneT_end [] (Hp.le_refl _) ⟨rfl, rfl⟩)
        ·intro HX hX X Rest hR
         rintro _ _ ⟨rfl, rfl⟩
         intro hU hUp
         refine W_no rfl rfl rfl ?_
         exact W_end (OneT_end [] (Hp.le_refl _) ⟨rfl, rfl⟩)
        ·intro HX hX X Rest hR
         rintro _ _ ⟨rfl, rfl⟩
         intro hU hUp
         refine W_no rfl rfl rfl ?_
         exact W_end (OneT_end [] (Hp.le_refl _) ⟨rfl, rfl⟩)
        ·intro HX hX X Rest hR
         rintro _ _ ⟨rfl, rfl⟩
         rintro _ _ ⟨rfl, rfl⟩
         intro hU hUp
         refine W_no rfl rfl rfl ?_
         exact W_end (OneT_end [] (Hp.le_refl _) ⟨rfl, rfl⟩)
        ·intro HX hX X Rest hR
         rintro _ _ ⟨rfl, rfl⟩
         rintro _ _ ⟨rfl, rfl⟩
         rintro _ _ ⟨rfl, rfl⟩
         intro hU hUp
         refine W_no rfl rfl rfl ?_
         exact W_end (OneT_end [] (Hp.le_refl _) ⟨rfl, rfl⟩)
        ·intro HX hX X Rest hR
         rintro _ _ ⟨rfl, rfl⟩
         rintro _ _ ⟨rfl, rfl⟩
         intro hU hUp
         refine W_no rfl rfl rfl ?_
         exact W_end (OneT_end [] (Hp.le_refl _) ⟨rfl, rfl⟩)
        ·intro HX hX X Rest hR
         rintro _ _ ⟨rfl, rfl⟩
         rintro _ _ ⟨rfl, rfl⟩
         intro hU hUp
         refine W_no rfl rfl rfl ?_
         exact W_end (OneT_end [] (Hp.le_refl _) ⟨rfl, rfl⟩)
        ·intro HX hX X Rest hR
         rintro _ _ ⟨rfl, rfl⟩
         rintro _ _ ⟨rfl, rfl⟩
         rintro _ _ ⟨rfl, rfl⟩
         intro hU hUp
         refine W_no rfl rfl rfl ?_
         exact W_end (OneT_end [] (Hp.le_refl _) ⟨rfl, rfl⟩)
        ·intro HX hX X Rest hR
         rintro _ _ ⟨rfl, rfl⟩
         intro hU hUp
         refine W_no rfl rfl rfl ?_
         exact W_end (OneT_end [] (Hp.le_refl _) ⟨rfl, rfl⟩)
        ·intro HX hX X Rest hR
         rintro _ _ ⟨rfl, rfl⟩
         rintro _ _ ⟨rfl, rfl⟩
         intro hU hUp
         refine W_no rfl rfl rfl ?_
         exact W_end (OneT_end [] (Hp.le_refl _) ⟨rfl, rfl⟩)
        ·intro HX hX X Rest hR
         rintro _ _ ⟨rfl, rfl⟩
         intro hU hUp
         refine W_no rfl rfl rfl ?_
         exact W_end (OneT_end [] (Hp.le_refl _) ⟨rfl, rfl⟩)
        ·intro HX hX X Rest hR
         rintro _ _ ⟨rfl, rfl⟩
         intro hU hUp
         refine W_no rfl rfl rfl ?_
         exact W_end (OneT_end [] (Hp.le_refl _) ⟨rfl, rfl⟩)
        ·intro HX hX X Rest hR
         rintro _ _ ⟨rfl, rfl⟩
         intro hU hUp
         refine W_no rfl rfl rfl ?_
         exact W_end (OneT_end [] (Hp.le_refl _) ⟨rfl, rfl⟩)
        ·intro HX hX X Rest hR
         rintro _ _ ⟨rfl, rfl⟩
         rintro _ _ ⟨rfl, rfl⟩
         rintro _ _ ⟨rfl, rfl⟩
         intro hU hUp
         refine W_no rfl rfl rfl ?_
         exact W_end (OneT_end [] (Hp.le_refl _) ⟨rfl, rfl⟩)
        ·intro HX hX X Rest hR
         rintro _ _ ⟨rfl, rfl⟩
         rintro _ _ ⟨rfl, rfl⟩
         intro hU hUp
         refine W_no rfl rfl rfl ?_
         exact W_end (OneT_end [] (Hp.le_refl _) ⟨rfl, rfl⟩)
        ·intro HX hX X Rest hR
         rintro _ _ ⟨rfl, rfl⟩
         rintro _ _ ⟨rfl, rfl⟩
         rintro _ _ ⟨rfl, rfl⟩
         intro hU hUp
         refine W_no rfl rfl rfl ?_
         exact W_end (OneT_end [] (Hp.le_refl _) ⟨rfl, rfl⟩)
        ·intro HX hX X Rest hR
         rintro _ _ ⟨rfl, rfl⟩
         rintro _ _ ⟨rfl, rfl⟩
         intro hU hUp
         refine W_no rfl rfl rfl ?_
         exact W_end (OneT_end [] (Hp.le_refl _) ⟨rfl, rfl⟩)
        ·intro HX hX X Rest hR
         rintro _ _ ⟨rfl, rfl⟩
         rintro _ _ ⟨rfl, rfl⟩
         intro hU hUp
         refine W_no rfl rfl rfl ?_
         exact W_end (OneT_end [] (Hp.le_refl _) ⟨rfl, rfl⟩)
        ·intro HX hX X Rest hR
         rintro _ _ ⟨rfl, rfl⟩
         rintro _ _ ⟨rfl, rfl⟩
         rintro _ _ ⟨rfl, rfl⟩
         intro hU hUp
         refine W_no rfl rfl rfl ?_
         exact W_end (OneT_end [] (Hp.le_refl _) ⟨rfl, rfl⟩)
        intro H1747 hle1748
        rintro _ _ ⟨rfl, rfl⟩
        rintro _ _ ⟨rfl, rfl⟩
        rintro _ _ ⟨rfl, rfl⟩
        rintro _ _ ⟨rfl, rfl⟩
        rintro _ _ ⟨rfl, rfl⟩
        rintro _ _ ⟨rfl, rfl⟩
        rintro _ _ ⟨rfl, rfl⟩
        rintro _ _ ⟨rfl, rfl⟩
        rintro _ _ ⟨rfl, rfl⟩
        rintro _ _ ⟨rfl, rfl⟩
        rintro _ _ ⟨rfl, rfl⟩
        rintro _ _ ⟨rfl, rfl⟩
        rintro _ _ ⟨rfl, rfl⟩
        rintro _ _ ⟨rfl, rfl⟩
        rintro _ _ ⟨rfl, rfl⟩
        rintro _ _ ⟨rfl, rfl⟩
        rintro _ _ ⟨rfl, rfl⟩
        rintro _ _ ⟨rfl, rfl⟩
        rintro _ _ ⟨rfl, rfl⟩
        rintro _ _ ⟨rfl, rfl⟩
        rintro _ _ ⟨rfl, rfl⟩
        rintro _ _ ⟨rfl, rfl⟩
        refine W_no rfl rfl rfl ?_
        refine W_pick rfl rfl rfl rfl ?_
        refine W_end (E_then ?_)
        refine C_cond (b := true) rfl (fun _ => ?_) (fun hb => Bool.noConfusion hb)
        refine C_skip (E_then (C_block (C_seq (C_region ?_))))
        refine W_move rfl rfl rfl ?_
        refine W_bin rfl rfl rfl rfl rfl ?_
        refine W_assign rfl rfl rfl ?_
        refine W_end (E_then (C_seq (C_region ?_)))
        refine W_move rfl rfl rfl ?_
        refine W_move rfl rfl rfl ?_
        refine W_move rfl rfl rfl ?_
        refine W_bin rfl rfl rfl rfl rfl ?_
        obtain ⟨y1749, h1750, he1751, hm⟩ := idx_some hm
        refine W_indexO (List.mem_cons_of_mem _ (List.mem_cons_of_mem _ (List.mem_cons_self ..))) rfl rfl runUnderlying46 sizeOf81 rfl rfl h1750 (List.getElem?_eq_some_iff.1 he1751).1 ?_
        obtain ⟨_, rfl, hg1752⟩ := (hr151).elem he1751
        refine W_load rfl rfl isAgg81 rfl (row_one0 (List.mem_cons_of_mem _ (List.mem_cons_of_mem _ (List.mem_cons_self ..))) hg1752 rfl) ?_
        refine W_convInt rfl rfl runUnderlying81 runUnderlying85 rfl ?_
        refine W_bin rfl rfl rfl rfl rfl ?_
        refine W_assign rfl rfl rfl ?_
        refine W_end (E_then (C_seq (C_region ?_)))
        refine W_move rfl rfl rfl ?_
        refine W_bin rfl rfl rfl rfl rfl ?_
        refine W_end (E_then ?_)
        refine C_cond (b := decide (4294967296 ≤ (IntKind.u64.wrap (n1718 + (IntKind.u64.wrap (y1749.n)))))) rfl (fun hb1753 => ?_) (fun hb1753 => ?_)
        ·have hm := ite_t' hb1753 hm
         refine C_exit ?_
         refine E_exit_miss rfl ?_
         refine E_exit_then (E_exit_hit ?_)
         exact E_keepJ (J1355 _ _ _ ⟨IntKind.u64.wrap (n1717 - 1), hm, (Hp.le_trans hle1720 hle1748), rfl, rfl⟩) (List.Perm.refl _) ⟨rfl, rfl, rfl, rfl, rfl, rfl, rfl, trivial⟩
        ·have hm := ite_f' hb1753 hm
         refine C_skip (E_normal_block ?_)
         exact E_keepJ (E_back (Nat.lt_succ_self _) ⟨IntKind.u64.wrap (n1717 - 1), IntKind.u64.wrap (n1718 + (IntKind.u64.wrap (y1749.n))), (by rw [hn1723]; exact hm), (Hp.le_trans hle1720 hle1748), rfl, rfl⟩) (List.Perm.refl _) ⟨rfl, rfl, rfl, rfl, rfl, rfl, rfl, rfl, trivial⟩
    ·have hm := ite_f' hb1236 hm
     refine C_exit (E_exit_then (E_exit_then (E_exit_hit (E_then (C_seq (C_region ?_))))))
     refine W_move rfl rfl rfl ?_
     obtain ⟨hz1754, hm⟩ := need_some hm
     refine W_makeSlice (α := U32) (zs := [.int .u32 (0)]) (ze := ⟨0⟩) rfl rfl underlying46 ⟨_, rfl, rfl, rfl, rfl⟩ rfl rfl rfl rfl rfl rfl hz1754.1 hz1754.2 ?_
     intro v1755 xs1756 hr1757
     refine W_assign rfl rfl rfl ?_
     refine W_end (E_then (C_seq (C_seq (C_region ?_))))
     refine W_move rfl rfl rfl ?_
     refine W_move rfl rfl rfl ?_
     refine W_end (E_then (C_block ?_))
     refine C_drop (List.Sublist.cons_cons _ (List.Sublist.cons_cons _ (List.Sublist.cons_cons _ (List.Sublist.cons _ (List.Sublist.refl _))))) ?_
     refine C_keep (L' := [(4, v155), (5, v1755), (8, .int .i64 (r127)), (9, v143), (249, .int .i64 ((p1_b.length : Int))), (250, .int .i64 (((0 : Nat) : Int)))]) ⟨rfl, rfl, rfl, rfl, rfl, rfl, trivial⟩ (List.Perm.refl _) ?_
     refine C_loop (fun n H' M' L' => ∃ (k1758 : Nat) (zs1820' : Nat), ∃ l1811 : List U32, ∃ xs1810 : List Value, k1758 + zs1820' = ((p1_b.length : Int) : Int).toNat ∧ zs1820' = n ∧ forN (fun k s1815 n => m_large_divWords_b23 r127 l1222 k s1815 n) (fun s1815 => some (l1218, s1815)) zs1820' k1758 l1811 = some r ∧ Rw H' v1755 xs1810 l1811 ∧ H1225.le H' ∧ .row v1755 81 (Rep.sz U32) l1811.length xs1810 :: .row v155 81 (Rep.sz U32) l1218.length xs1217 :: .row v143 81 (Rep.sz U32) l1222.length xs1221 :: M = M' ∧ [(4, v155), (5, v1755), (8, .int .i64 (r127)), (9, v143), (249, .int .i64 ((p1_b.length : Int))), (250, .int .i64 ((k1758 : Int)))] = L') _ ⟨0, _, (List.replicate ((p1_b.length : Int) : Int).toNat (⟨0⟩ : U32)), xs1756, Nat.zero_add _, rfl, hm, hr1757, (Hp.le_refl _), rfl, rfl⟩ ?_
     rintro _ H1813 _ _ ⟨k1758, zs1820', l1811, xs1810, hd1822, rfl, hm, hr1812, hle1814, rfl, rfl⟩
     refine C_seq (C_region ?_)
     refine W_bin rfl rfl rfl rfl rfl ?_
     refine W_end (E_then (C_seq ?_))
     refine C_cond (b := decide ((k1758 : Int) < (p1_b.length : Int))) rfl (fun hb1824 => ?_) (fun hb1824 => ?_)
     ·obtain ⟨zs1820, rfl, hd1823, hy1821⟩ := rngN_t hd1822 hb1824
      have hm : m_large_divWords_b23 r127 l1222 k1758 l1811 (forN (fun k s1815 n => m_large_divWords_b23 r127 l1222 k s1815 n) (fun s1815 => some (l1218, s1815)) zs1820 (k1758 + 1)) = some r := hm
      generalize hn1817 : forN (fun k s1815 n => m_large_divWords_b23 r127 l1222 k s1815 n) (fun s1815 => some (l1218, s1815)) zs1820 (k1758 + 1) = nx1816 at hm
      unfold m_large_divWords_b23 at hm
      refine C_skip (E_then (C_seq (C_block (C_seq (C_region ?_)))))
      refine W_move rfl rfl rfl ?_
      refine W_assign rfl rfl rfl ?_
      refine W_end (E_then ?_)
      obtain ⟨y1825, h1826, he1827, hm⟩ := idx_some hm
      obtain ⟨_, rfl, hg1828⟩ := (hr1223).elem he1827
      obtain ⟨y1829, h1830, he1831, hm⟩ := idx_some hm
      obtain ⟨_, rfl, hg1832⟩ := (hr1223).elem he1831
      obtain ⟨hq1833, hm⟩ := need_some hm
      refine C_region_tok0 18 (phiT [(fun H rs v => [] = rs ∧ v1755 = v), (fun H rs v => [] = rs ∧ .int .i64 ((k1758 : Int)) = v), (fun H rs v => [] = rs ∧ v143 = v), (fun H rs v => [] = rs ∧ .int .i64 ((k1758 : Int)) = v), (fun H rs v => [] = rs ∧ .int .i64 (IntKind.i64.wrap ((k1758 : Int) + 1)) = v), (fun H rs v => [] = rs ∧ .pointer (some ((Value.base (v143)).add ((IntKind.i64.wrap ((k1758 : Int) + 1) : Int).toNat * Rep.sz U32))) = v), (fun H rs v => [] = rs ∧ .int .u32 (y1825.n) = v), (fun H rs v => [] = rs ∧ .int .u64 (IntKind.u64.wrap (y1825.n)) = v), (fun H rs v => [] = rs ∧ .int .u64 (shlV .u64 (IntKind.u64.wrap (y1825.n)) 32) = v), (fun H rs v => [] = rs ∧ v143 = v), (fun H rs v => [] = rs ∧ .int .i64 ((k1758 : Int)) = v), (fun H rs v => [] = rs ∧ .pointer (some ((Value.base (v143)).add (((k1758 : Int) : Int).toNat * Rep.sz U32))) = v), (fun H rs v => [] = rs ∧ .int .u32 (y1829.n) = v), (fun H rs v => [] = rs ∧ .int .u64 (IntKind.u64.wrap (y1829.n)) = v), (fun H rs v => [] = rs ∧ .int .u64 (IntKind.u64.wrap ((BitVec.ofInt (IntKind.u64).bits (shlV .u64 (IntKind.u64.wrap (y1825.n)) 32) ||| BitVec.ofInt (IntKind.u64).bits (IntKind.u64.wrap (y1829.n))).toNat)) = v), (fun H rs v => [] = rs ∧ .int .i64 (r127) = v), (fun H rs v => [] = rs ∧ .int .u64 (shrV .u64 (IntKind.u64.wrap ((BitVec.ofInt (IntKind.u64).bits (shlV .u64 (IntKind.u64.wrap (y1825.n)) 32) ||| BitVec.ofInt (IntKind.u64).bits (IntKind.u64.wrap (y1829.n))).toNat)) r127) = v), (fun H rs v => [] = rs ∧ .int .u32 (IntKind.u32.wrap (shrV .u64 (IntKind.u64.wrap ((BitVec.ofInt (IntKind.u64).bits (shlV .u64 (IntKind.u64.wrap (y1825.n)) 32) ||| BitVec.ofInt (IntKind.u64).bits (IntKind.u64.wrap (y1829.n))).toNat)) r127)) = v)]) [[], [], [], [], [], [], [], [], [], [], [], [], [], [], [], [], [], []] [[], [], [], [], [], [], [], [], [], [], [], [], [], [], [], [], [], []] [] [0, 1, 2, 3, 4, 5, 6, 7, 8, 9, 10, 11, 12, 13, 14, 15, 16, 17] Facts.mixed (by kernel_rfl) (by rfl) (by rfl) (by rfl) (by kernel_rfl) (phiT_mono ⟨eq_monoT _ _, eq_monoT _ _, eq_monoT _ _, eq_monoT _ _, eq_monoT _ _, eq_monoT _ _, eq_monoT _ _, eq_monoT _ _, eq_monoT _ _, eq_monoT _ _, eq_monoT _ _, eq_monoT _ _, eq_monoT _ _, eq_monoT _ _, eq_monoT _ _, eq_monoT _ _, eq_monoT _ _, eq_monoT _ _, trivial⟩) ⟨?_, ?_, ?_, ?_, ?_, ?_, ?_, ?_, ?_, ?_, ?_, ?_, ?_, ?_, ?_, ?_, ?_, ?_, trivial⟩ ?_
      ·intro HX hX X Rest hR
       intro hU hUp
       refine W_move rfl rfl rfl ?_
       exact W_end (OneT_end [] (Hp.le_refl _) ⟨rfl, rfl⟩)
      ·intro HX hX X Rest hR
       intro hU hUp
       refine W_move rfl rfl rfl ?_
       exact W_end (OneT_end [] (Hp.le_refl _) ⟨rfl, rfl⟩)
      ·intro HX hX X Rest hR
       intro hU hUp
       refine W_move rfl rfl rfl ?_
       exact W_end (OneT_end [] (Hp.le_refl _) ⟨rfl, rfl⟩)
      ·intro HX hX X Rest hR
       intro hU hUp
       refine W_move rfl rfl rfl ?_
       exact W_end (OneT_end [] (Hp.le_refl _) ⟨rfl, rfl⟩)
      ·intro HX hX X Rest hR
       rintro _ _ ⟨rfl, rfl⟩
       intro hU hUp
       refine W_bin rfl rfl rfl rfl rfl ?_
       exact W_end (OneT_end [] (Hp.le_refl _) ⟨rfl, rfl⟩)
      ·intro HX hX X Rest hR
       rintro _ _ ⟨rfl, rfl⟩
       rintro _ _ ⟨rfl, rfl⟩
       intro hU hUp
       refine W_indexO (hR _ (List.mem_cons_of_mem _ (List.mem_cons_of_mem _ (List.mem_cons_self ..)))) rfl rfl runUnderlying46 sizeOf81 rfl rfl h1826 (List.getElem?_eq_some_iff.1 he1827).1 ?_
       exact W_end (OneT_end [] (Hp.le_refl _) ⟨rfl, rfl⟩)
      ·intro HX hX X Rest hR
       rintro _ _ ⟨rfl, rfl⟩
       intro hU hUp
       refine W_load rfl rfl isAgg81 rfl (row_one0 (hR _ (List.mem_cons_of_mem _ (List.mem_cons_of_mem _ (List.mem_cons_self ..)))) hg1828 rfl) ?_
       exact W_end (OneT_end [] (Hp.le_refl _) ⟨rfl, rfl⟩)
      ·intro HX hX X Rest hR
       rintro _ _ ⟨rfl, rfl⟩
       intro hU hUp
       refine W_convInt rfl rfl runUnderlying81 runUnderlying85 rfl ?_
       exact W_end (OneT_end [] (Hp.le_refl _) ⟨rfl, rfl⟩)
      ·intro HX hX X Rest hR
       rintro _ _ ⟨rfl, rfl⟩
       intro hU hUp
       refine W_shl rfl rfl rfl rfl (by decide) ?_
       exact W_end (OneT_end [] (Hp.le_refl _) ⟨rfl, rfl⟩)
      ·intro HX hX X Rest hR
       intro hU hUp
       refine W_move rfl rfl rfl ?_
       exact W_end (OneT_end [] (Hp.le_refl _) ⟨rfl, rfl⟩)
      ·intro HX hX X Rest hR
       intro hU hUp
       refine W_move rfl rfl rfl ?_
       exact W_end (OneT_end [] (Hp.le_refl _) ⟨rfl, rfl⟩)
      ·intro HX hX X Rest hR
       rintro _ _ ⟨rfl, rfl⟩
       rintro _ _ ⟨rfl, rfl⟩
       intro hU hUp
       refine W_indexO (hR _ (List.mem_cons_of_mem _ (List.mem_cons_of_mem _ (List.mem_cons_self ..)))) rfl rfl runUnderlying46 sizeOf81 rfl rfl h1830 (List.getElem?_eq_some_iff.1 he1831).1 ?_
       exact W_end (OneT_end [] (Hp.le_refl _) ⟨rfl, rfl⟩)
      ·intro HX hX X Rest hR
       rintro _ _ ⟨rfl, rfl⟩
       intro hU hUp
       refine W_load rfl rfl isAgg81 rfl (row_one0 (hR _ (List.mem_cons_of_mem _ (List.mem_cons_of_mem _ (List.mem_cons_self ..)))) hg1832 rfl) ?_
       exact W_end (OneT_end [] (Hp.le_refl _) ⟨rfl, rfl⟩)
      ·intro HX hX X Rest hR
       rintro _ _ ⟨rfl, rfl⟩
       intro hU hUp
       refine W_convInt rfl rfl runUnderlying81 runUnderlying85 rfl ?_
       exact W_end (OneT_end [] (Hp.le_refl _) ⟨rfl, rfl⟩)
      ·intro HX hX X Rest hR
       rintro _ _ ⟨rfl, rfl⟩
       rintro _ _ ⟨rfl, rfl⟩
       intro hU hUp
       refine W_bin rfl rfl rfl rfl rfl ?_
       exact W_end (OneT_end [] (Hp.le_refl _) ⟨rfl, rfl⟩)
      ·intro HX hX X Rest hR
       intro hU hUp
       refine W_move rfl rfl rfl ?_
       exact W_end (OneT_end [] (Hp.le_refl _) ⟨rfl, rfl⟩)
      ·intro HX hX X Rest hR
       rintro _ _ ⟨rfl, rfl⟩
       rintro _ _ ⟨rfl, rfl⟩
       intro hU hUp
       refine W_shr rfl rfl rfl rfl hq1833 ?_
       exact W_end (OneT_end [] (Hp.le_refl _) ⟨rfl, rfl⟩)
      ·intro HX hX X Rest hR
       rintro _ _ ⟨rfl, rfl⟩
       intro hU hUp
       refine W_convInt rfl rfl runUnderlying85 runUnderlying81 rfl ?_
       exact W_end (OneT_end [] (Hp.le_refl _) ⟨rfl, rfl⟩)
      intro H1834 hle1835
      rintro _ _ ⟨rfl, rfl⟩
      rintro _ _ ⟨rfl, rfl⟩
      rintro _ _ ⟨rfl, rfl⟩
      rintro _ _ ⟨rfl, rfl⟩
      rintro _ _ ⟨rfl, rfl⟩
      rintro _ _ ⟨rfl, rfl⟩
      rintro _ _ ⟨rfl, rfl⟩
      rintro _ _ ⟨rfl, rfl⟩
      rintro _ _ ⟨rfl, rfl⟩
      rintro _ _ ⟨rfl, rfl⟩
      rintro _ _ ⟨rfl, rfl⟩
      rintro _ _ ⟨rfl, rfl⟩
      rintro _ _ ⟨rfl, rfl⟩
      rintro _ _ ⟨rfl, rfl⟩
      rintro _ _ ⟨rfl, rfl⟩
      rintro _ _ ⟨rfl, rfl⟩
      rintro _ _ ⟨rfl, rfl⟩
      rintro _ _ ⟨rfl, rfl⟩
      obtain ⟨y1836, h1837, he1838, hm⟩ := idx_some hm
      refine W_indexO (List.mem_cons_self ..) rfl rfl runUnderlying46 sizeOf81 rfl rfl h1837 (List.getElem?_eq_some_iff.1 he1838).1 ?_
      obtain ⟨_, rfl, hg1839⟩ := (hr1812).elem he1838
      obtain ⟨hr1840, he1841, hg1842⟩ := Rw.put (cs := [.int .u32 (IntKind.u32.wrap (shrV .u64 (IntKind.u64.wrap ((BitVec.ofInt (IntKind.u64).bits (shlV .u64 (IntKind.u64.wrap (y1825.n)) 32) ||| BitVec.ofInt (IntKind.u64).bits (IntKind.u64.wrap (y1829.n))).toNat)) r127))]) (o := 0) (c := [.int .u32 (y1836.n)]) (out := [.int .u32 (IntKind.u32.wrap (shrV .u64 (IntKind.u64.wrap ((BitVec.ofInt (IntKind.u64).bits (shlV .u64 (IntKind.u64.wrap (y1825.n)) 32) ||| BitVec.ofInt (IntKind.u64).bits (IntKind.u64.wrap (y1829.n))).toNat)) r127))]) (e2 := ⟨IntKind.u32.wrap (shrV .u64 (IntKind.u64.wrap ((BitVec.ofInt (IntKind.u64).bits (shlV .u64 (IntKind.u64.wrap (y1825.n)) 32) ||| BitVec.ofInt (IntKind.u64).bits (IntKind.u64.wrap (y1829.n))).toNat)) r127)⟩) (hr1812.mono hle1835) he1838 rfl hg1839 rfl rfl rfl
      refine W_storeO2 (i := ((k1758 : Int) : Int).toNat * Rep.sz U32 + 0) (cs := [.int .u32 (IntKind.u32.wrap (shrV .u64 (IntKind.u64.wrap ((BitVec.ofInt (IntKind.u64).bits (shlV .u64 (IntKind.u64.wrap (y1825.n)) 32) ||| BitVec.ofInt (IntKind.u64).bits (IntKind.u64.wrap (y1829.n))).toNat)) r127))]) rfl sizeOf81 rfl (row_ad0 _ _) rfl rfl rfl (Rw.room (hr1812.mono hle1835) he1838 rfl) rfl (all_cons rfl all_nil) (n' := (l1811.set (((k1758 : Int) : Int).toNat) ⟨IntKind.u32.wrap (shrV .u64 (IntKind.u64.wrap ((BitVec.ofInt (IntKind.u64).bits (shlV .u64 (IntKind.u64.wrap (y1825.n)) 32) ||| BitVec.ofInt (IntKind.u64).bits (IntKind.u64.wrap (y1829.n))).toNat)) r127)⟩).length) List.length_set ?_
      generalize over xs1810 (((k1758 : Int) : Int).toNat * Rep.sz U32 + 0) [.int .u32 (IntKind.u32.wrap (shrV .u64 (IntKind.u64.wrap ((BitVec.ofInt (IntKind.u64).bits (shlV .u64 (IntKind.u64.wrap (y1825.n)) 32) ||| BitVec.ofInt (IntKind.u64).bits (IntKind.u64.wrap (y1829.n))).toNat)) r127))] = xs1843 at hr1840 hg1842 ⊢
      refine W_end (E_normal_block (E_then (C_region ?_)))
      refine W_bin rfl rfl rfl rfl rfl ?_
      refine W_move rfl rfl rfl ?_
      refine W_end ?_
      exact E_keepJ (E_back (Nat.lt_succ_self _) ⟨k1758 + 1, zs1820, (l1811.set (((k1758 : Int) : Int).toNat) ⟨IntKind.u32.wrap (shrV .u64 (IntKind.u64.wrap ((BitVec.ofInt (IntKind.u64).bits (shlV .u64 (IntKind.u64.wrap (y1825.n)) 32) ||| BitVec.ofInt (IntKind.u64).bits (IntKind.u64.wrap (y1829.n))).toNat)) r127)⟩), xs1843, hd1823, rfl, (by rw [hn1817]; exact hm), hr1840, (Hp.le_trans hle1814 hle1835), rfl, rfl⟩) (List.Perm.refl _) ⟨rfl, rfl, rfl, rfl, rfl, (congrArg (fun z => some (Value.int .i64 z)) (i64_succN hy1821 (toNat_max (len_max (((h1.mono hle153).mono hle1226)).lenMax)))), trivial⟩
     ·obtain rfl := rngN_f hd1822 hb1824
      have hm : (some (l1218, l1811)) = some r := hm
      refine C_exit (E_exit_then (E_exit_then (E_exit_hit (E_then (C_seq (C_region ?_))))))
      refine W_move rfl rfl rfl ?_
      refine W_move rfl rfl rfl ?_
      refine W_assign rfl rfl rfl ?_
      refine W_assign rfl rfl rfl ?_
      refine W_end (E_then (C_ret ?_))
      refine E_perm (List.Perm.swap _ _ _) ?_
      refine E_freeze ((hr1219.mono hle1814)).rd rfl (fun H1844 hle1845 h1846 => ?_)
      refine E_freeze ((hr1812.mono hle1845)).rd rfl (fun H1847 hle1848 h1849 => ?_)
      obtain rfl := Option.some.inj hm
      refine E_drop (List.Sublist.cons _ (List.Sublist.refl _)) ?_
      exact end2 rfl rfl rfl ⟨(Hp.le_trans (Hp.le_trans (Hp.le_trans (Hp.le_trans hle153 hle1226) hle1814) hle1845) hle1848), v155, v1755, rfl, rfl, (h1846.mono hle1848), h1849⟩

theorem clone73_c {B : Nat} {w0 w : World} {H : Hp} {M : List Res} {s : List U32} {v0 : Value} (h0 : RdS H v0 s) (hz : s.length * 4 ≤ 140737488355328) (ht : St B w0 H M w) :
  Calls prog 73 [v0].toArray w (Ret B w0 fun H' M' v => H = H' ∧ ∃ (v' : Value) (xs' : List Value), .row v' 81 (Rep.sz U32) s.length xs' :: M = M' ∧ v' = v ∧ RwF v' xs' s) := by
 refine enter func73 rfl rfl rfl ht ?_
 obtain ⟨o, n, c, rfl⟩ := h0.shape
 refine C_seq (C_region ?_)
 refine W_assign rfl rfl rfl ?_
 refine W_end (E_then (C_seq (C_seq (C_region ?_))))
 refine W_move rfl rfl rfl ?_
 refine W_eqNil rfl rfl runUnderlying46 rfl rfl ?_
 refine W_end (E_then ?_)
 cases o with
 | none =>
  refine C_cond (b := true) rfl (fun _ => ?_) (fun hb => Bool.noConfusion hb)
  obtain rfl := h0.isNil
  refine C_seq (C_region ?_)
  refine W_assign rfl rfl rfl ?_
  refine W_end (E_then ?_)
  refine C_ret (E_ret_then ?_)
  refine E_nilRow 81 (Rep.sz U32) ?_
  exact end1 rfl rfl ⟨rfl, .slice none 0 0, [], rfl, rfl, (Rw.nil (H := H)).toF⟩
 | some a =>
  refine C_cond (b := false) rfl (fun hb => Bool.noConfusion hb) (fun _ => ?_)
  refine C_skip (E_then (C_seq (C_region ?_)))
  refine W_build0 U32 rfl rfl runUnderlying46 sizeOf81 ?_
  intro v1 xs1 h1
  refine W_move rfl rfl rfl ?_
  refine W_appendO (α := U32) (l := []) (ys := s) (bytes := 4) rfl rfl underlying46 ⟨_, rfl, rfl, rfl, rfl⟩ rfl rfl rfl rfl rfl h1 h0 (by simpa using hz) ?_
  intro v2 xs2 h2
  refine W_assign rfl rfl rfl ?_
  refine W_end (E_then (C_ret ?_))
  exact end1 rfl rfl ⟨rfl, v2, xs2, rfl, rfl, h2.toF⟩

theorem m_large_Gcd_c {B : Nat} {w0 w : World} [Tabs B w0] {H : Hp} {M : List Res} {p0_a : S_large_Int} {p1_b : S_large_Int} {v0 : Value} {v1 : Value} {r : S_large_Int} (hm : m_large_Gcd p0_a p1_b = some r) (h0 : RdS H v0 p0_a.words) (h1 : RdS H v1 p1_b.words) (ht : St B w0 H (M) w) :
  Calls prog 53 [.agg [.bool (p0_a.minus), v0].toArray, .agg [.bool (p1_b.minus), v1].toArray].toArray w (Ret B w0 fun H' M' v => H.le H' ∧ ∃ qv0 : Value, M = M' ∧ .agg [.bool (r.minus), qv0].toArray = v ∧ RdS H' qv0 r.words) := by
 unfold m_large_Gcd at hm
 refine enter func53 rfl rfl rfl ht ?_
 refine C_seq (C_region ?_)
 refine W_box (cs := [.bool (p0_a.minus), v0]) rfl rfl rfl rfl (fun b101 => ?_)
 refine W_box (cs := [.bool (p1_b.minus), v1]) rfl rfl rfl rfl (fun b102 => ?_)
 refine W_alloc (cs := [.bool (false), .slice none 0 0]) rfl rfl zeroValue48 rfl (fun b103 => ?_)
 refine W_end (E_then (C_seq (C_region ?_)))
 refine W_field (o := 0) rfl rfl runUnderlying48 rfl sizeOf4 rfl rfl rfl ?_
 refine W_perm (List.Perm.trans (List.Perm.cons _ (List.Perm.swap _ _ _)) (List.Perm.swap _ _ _)) ?_
 refine W_store (cs := [.bool (false)]) (out := [.bool (false), v0]) rfl sizeOf4 rfl rfl rfl rfl rfl (all_cons rfl all_nil) rfl ?_
 refine W_field (o := 0) rfl rfl runUnderlying48 rfl sizeOf4 rfl rfl rfl ?_
 refine W_perm (List.Perm.trans (List.Perm.cons _ (List.Perm.swap _ _ _)) (List.Perm.swap _ _ _)) ?_
 refine W_store (cs := [.bool (false)]) (out := [.bool (false), v1]) rfl sizeOf4 rfl rfl rfl rfl rfl (all_cons rfl all_nil) rfl ?_
 refine W_end (E_then ?_)
 refine C_seq_join (fun H' M' L' => ∃ c288 : Bool, ∃ l290 : (List U32), ∃ v289 : Value, m_large_Gcd_b2 c288 l290 = some r ∧ RdS H' v289 l290 ∧ H.le H' ∧ .obj b101 (.cells [.bool (c288), v289].toArray 48 (0, 0)) :: .obj b103 (.cells ([.bool (false), .slice none 0 0] : List Value).toArray 48 (0, 0)) :: M = M' ∧ [(2, .pointer (some ⟨b101, 0, none⟩)), (4, .pointer (some ⟨b103, 0, none⟩))] = L') ?_ (fun J294 => ?_)
 ·rintro H292 _ _ ⟨c288, l290, v289, hm, h291, hle293, rfl, rfl⟩
  unfold m_large_Gcd_b2 at hm
  refine C_seq (C_region ?_)
  refine W_loadAgg rfl rfl isAgg48 sizeOf48 rfl (own_all (List.mem_cons_self ..)) rfl ?_
  refine W_perm (List.Perm.swap _ _ _) ?_
  refine W_store (cs := [.bool (c288), v289]) (out := [.bool (c288), v289]) rfl sizeOf48 rfl rfl rfl rfl rfl (all_cons rfl (all_cons (RdS.one1 h291) all_nil)) (over_all rfl) ?_
  refine W_end (E_then (C_ret ?_))
  obtain rfl := Option.some.inj hm
  exact endC1 (Hp.le_refl _) rfl (ResV.agg rfl isAgg48 sizeOf48 (List.mem_cons_self ..) rfl) (List.Sublist.cons _ (List.Sublist.cons _ (List.Sublist.refl _))) (List.Perm.refl _) ⟨hle293, v289, rfl, rfl, h291⟩
 ·refine C_block ?_
  refine C_keep (L' := [(2, .pointer (some ⟨b101, 0, none⟩)), (3, .pointer (some ⟨b102, 0, none⟩)), (4, .pointer (some ⟨b103, 0, none⟩))]) ⟨rfl, rfl, rfl, trivial⟩ (List.Perm.refl _) ?_
  refine C_loop (fun n H' M' L' => ∃ c426 : Bool, ∃ l428 : (List U32), ∃ c430 : Bool, ∃ l432 : (List U32), ∃ v427 : Value, ∃ v431 : Value, loopF (fun s436 n => m_large_Gcd_b3 s436.1 s436.2.1 s436.2.2.1 s436.2.2.2 n) n (c426, l428, c430, l432) = some r ∧ RdS H' v427 l428 ∧ RdS H' v431 l432 ∧ H.le H' ∧ .obj b102 (.cells [.bool (c426), v427].toArray 48 (0, 0)) :: .obj b101 (.cells [.bool (c430), v431].toArray 48 (0, 0)) :: .obj b103 (.cells ([.bool (false), .slice none 0 0] : List Value).toArray 48 (0, 0)) :: M = M' ∧ [(2, .pointer (some ⟨b101, 0, none⟩)), (3, .pointer (some ⟨b102, 0, none⟩)), (4, .pointer (some ⟨b103, 0, none⟩))] = L') FUEL ⟨false, p1_b.words, false, p0_a.words, v1, v0, hm, h1, h0, (Hp.le_refl _), rfl, rfl⟩ ?_
  rintro n439 H434 _ _ ⟨c426, l428, c430, l432, v427, v431, hm, h429, h433, hle435, rfl, rfl⟩
  cases n439 with
  | zero => cases hm
  | succ n439 =>
   have hm : m_large_Gcd_b3 c426 l428 c430 l432 (loopF (fun s436 n => m_large_Gcd_b3 s436.1 s436.2.1 s436.2.2.1 s436.2.2.2 n) n439) = some r := hm
   generalize hn438 : loopF (fun s436 n => m_large_Gcd_b3 s436.1 s436.2.1 s436.2.2.1 s436.2.2.2 n) n439 = nx437 at hm
   unfold m_large_Gcd_b3 at hm
   refine C_seq (C_seq (C_region ?_))
   refine W_loadAgg rfl rfl isAgg48 sizeOf48 rfl (own_all (List.mem_cons_self ..)) rfl ?_
   refine W_call call67 rfl rfl rfl (fun w ht => by have h := m_large_Int_Sign_c (hm := (rfl : m_large_Int_Sign (S_large_Int.mk c426 l428) = _)) h429 ht; exact h) ?_
   rintro _ _ _ ⟨rfl, rfl, rfl⟩
   refine W_bin rfl rfl rfl rfl rfl ?_
   refine W_end (E_then ?_)
   refine C_cond (b := !decide ((m_large_Int_Sign (S_large_Int.mk c426 l428)) = 0)) rfl (fun hb445 => ?_) (fun hb445 => ?_)
   ·have hm := ite_t' hb445 hm
    refine C_skip (E_then (C_block (C_seq (C_region ?_))))
    refine W_field (o := 1) rfl rfl runUnderlying48 rfl sizeOf46 rfl rfl rfl ?_
    refine W_load rfl rfl isAgg46 rfl (own_at (List.mem_cons_of_mem _ (List.mem_cons_self ..)) rfl) ?_
    refine W_field (o := 1) rfl rfl runUnderlying48 rfl sizeOf46 rfl rfl rfl ?_
    refine W_load rfl rfl isAgg46 rfl (own_at (List.mem_cons_self ..) rfl) ?_
    obtain ⟨r446, hc447, hm⟩ := bind_some hm
    refine W_call call72 rfl rfl rfl (fun w ht => by have h := m_large_divWords_c (hm := hc447) h433 h429 ht; exact h) ?_
    rintro _ H452 _ ⟨hle453, v448, v450, rfl, rfl, h449, h451⟩
    refine W_move rfl rfl rfl ?_
    refine W_extract rfl rfl rfl rfl ?_
    refine W_extract rfl rfl rfl rfl ?_
    refine W_assign rfl rfl rfl ?_
    refine W_assign rfl rfl rfl ?_
    refine W_end (E_then ?_)
    obtain ⟨hz454, hm⟩ := need_some hm
    obtain ⟨r461, hc462, hm⟩ := bind_some hm
    refine C_region_tok0 4 (phiT [(fun H rs v => [] = rs ∧ .agg [.bool (c426), v427].toArray = v), (fun H rs v => [] = rs ∧ v450 = v), (fun H rs v => ∃ v467 : Value, ∃ xs468 : List Value, [.row v467 81 (Rep.sz U32) r446.2.length xs468] = rs ∧ v467 = v ∧ Rw H v467 xs468 r446.2), (fun H rs v => ∃ v467 : Value, ∃ xs468 : List Value, ∃ v473 : Value, [] = rs ∧ .agg [.bool (r461.minus), v473].toArray = v ∧ Rw H v467 xs468 r446.2 ∧ RdS H v467 r446.2 ∧ RdS H v473 r461.words)]) [[], [], [], [2]] [[], [], [], []] [] [0, 1, 3] Facts.mixed (by kernel_rfl) (by rfl) (by rfl) (by rfl) (by kernel_rfl) (phiT_mono ⟨eq_monoT _ _, eq_monoT _ _, (by rintro H1 H2 rs v hle ⟨v467, xs468, rfl, rfl, hr469⟩; exact ⟨v467, xs468, rfl, rfl, (hr469.mono hle)⟩), (by rintro H1 H2 rs v hle ⟨v467, xs468, v473, rfl, rfl, hr469, h472, h474⟩; exact ⟨v467, xs468, v473, rfl, rfl, (hr469.mono hle), (h472.mono hle), (h474.mono hle)⟩), trivial⟩) ⟨?_, ?_, ?_, ?_, trivial⟩ ?_
    ·intro HX hX X Rest hR
     intro hU hUp
     refine W_loadAgg rfl rfl isAgg48 sizeOf48 rfl (own_all (hR _ (List.mem_cons_self ..))) rfl ?_
     exact W_end (OneT_end [] (Hp.le_refl _) ⟨rfl, rfl⟩)
    ·intro HX hX X Rest hR
     intro hU hUp
     refine W_move rfl rfl rfl ?_
     exact W_end (OneT_end [] (Hp.le_refl _) ⟨rfl, rfl⟩)
    ·intro HX hX X Rest hR
     rintro _ _ ⟨rfl, rfl⟩
     intro hU hUp
     refine W_call call73 rfl rfl rfl (fun w ht => by have h := clone73_c (s := r446.2) (h451.mono hX) hz454 ht; exact h) ?_
     rintro _ _ _ ⟨rfl, v467, xs468, rfl, rfl, hr469⟩
     have hr469 := hr469 HX
     exact W_end (OneT_end [.row v467 81 (Rep.sz U32) r446.2.length xs468] (Hp.le_refl _) ⟨v467, xs468, rfl, rfl, (hr469)⟩)
    ·intro HX hX X Rest hR
     rintro _ _ ⟨v467, xs468, rfl, rfl, hr469⟩
     rintro _ _ ⟨v467, xs468, rfl, rfl, hr469⟩
     intro hU hUp
     refine W_as (M' := .row v467 81 (Rep.sz U32) r446.2.length xs468 :: Rest) rfl ?_
     refine W_freeze (hr469).rd rfl (fun H470 hle471 h472 => ?_)
     refine W_call call55 rfl rfl rfl (fun w ht => by have h := m_large_norm_c (hm := hc462) h472 ht; exact h) ?_
     rintro _ H475 _ ⟨hle476, v473, rfl, rfl, h474⟩
     exact W_end (OneT_end [] (Hp.le_trans hle471 hle476) ⟨v467, xs468, v473, rfl, rfl, (hr469.mono (Hp.le_trans hle471 hle476)), ((h472.mono hle476)), (h474)⟩)
    intro H477 hle478
    rintro _ _ ⟨rfl, rfl⟩
    rintro _ _ ⟨rfl, rfl⟩
    rintro _ _ ⟨v467, xs468, rfl, rfl, hr469⟩
    rintro _ _ ⟨v467, xs468, v473, rfl, rfl, hr469, h472, h474⟩
    refine W_perm (List.Perm.swap _ _ _) ?_
    refine W_store (cs := [.bool (c426), v427]) (out := [.bool (c426), v427]) rfl sizeOf48 rfl rfl rfl rfl rfl (all_cons rfl (all_cons (RdS.one1 ((h429.mono hle453).mono hle478)) all_nil)) (over_all rfl) ?_
    refine W_perm (List.Perm.swap _ _ _) ?_
    refine W_store (cs := [.bool (r461.minus), v473]) (out := [.bool (r461.minus), v473]) rfl sizeOf48 rfl rfl rfl rfl rfl (all_cons rfl (all_cons (RdS.one1 h474) all_nil)) (over_all rfl) ?_
    refine W_end (E_normal_block ?_)
    exact E_keepJ (E_back (Nat.lt_succ_self _) ⟨r461.minus, r461.words, c426, l428, v473, v427, (by rw [hn438]; exact hm), h474, ((h429.mono hle453).mono hle478), (Hp.le_trans (Hp.le_trans hle435 hle453) hle478), rfl, rfl⟩) (List.Perm.refl _) ⟨rfl, rfl, rfl, trivial⟩
   ·have hm := ite_f' hb445 hm
    refine C_exit (E_exit_then (E_exit_then (E_exit_hit ?_)))
    refine E_drop (List.Sublist.cons _ (List.Sublist.refl _)) ?_
    exact E_keepJ (J294 _ _ _ ⟨c430, l432, v431, hm, h433, hle435, rfl, rfl⟩) (List.Perm.refl _) ⟨rfl, rfl, trivial⟩

theorem m_large_addWords_c {B : Nat} {w0 w : World} [Tabs B w0] {H : Hp} {M : List Res} {p0_a : (List U32)} {p1_b : (List U32)} {v0 : Value} {v1 : Value} {r : (List U32)} (hm : m_large_addWords p0_a p1_b = some r) (h0 : RdS H v0 p0_a) (h1 : RdS H v1 p1_b) (ht : St B w0 H (M) w) :
  Calls prog 57 [v0, v1].toArray w (Ret B w0 fun H' M' v => H = H' ∧ ∃ qv0 : Value, ∃ qxs0 : List Value, .row qv0 81 (Rep.sz U32) r.length qxs0 :: M = M' ∧ qv0 = v ∧ RwF qv0 qxs0 r) := by
 unfold m_large_addWords at hm
 refine enter func57 rfl rfl rfl ht ?_
 refine C_seq (C_region ?_)
 refine W_assign rfl rfl rfl ?_
 refine W_end (E_then ?_)
 refine C_seq_join (fun H' M' L' => ∃ l103 : (List U32), ∃ l106 : (List U32), ∃ v102 : Value, ∃ v105 : Value, m_large_addWords_b5 l103 l106 = some r ∧ RdS H' v102 l103 ∧ RdS H' v105 l106 ∧ H = H' ∧ M = M' ∧ [(0, v102), (1, v105)] = L') ?_ (fun J108 => ?_)
 ·rintro _ _ _ ⟨l103, l106, v102, v105, hm, h104, h107, rfl, rfl, rfl⟩
  unfold m_large_addWords_b5 at hm
  refine C_seq (C_region ?_)
  refine W_move rfl rfl rfl ?_
  refine W_lenR rfl rfl runUnderlying46 rfl h104 ?_
  refine W_bin rfl rfl rfl rfl rfl ?_
  obtain ⟨hz109, hm⟩ := need_some hm
  refine W_makeSlice (α := U32) (zs := [.int .u32 (0)]) (ze := ⟨0⟩) rfl rfl underlying46 ⟨_, rfl, rfl, rfl, rfl⟩ rfl rfl rfl rfl rfl rfl hz109.1 hz109.2 ?_
  intro v110 xs111 hr112
  refine W_assign rfl rfl rfl ?_
  refine W_end (E_then (C_seq (C_region ?_)))
  refine W_assign rfl rfl rfl ?_
  refine W_end (E_then (C_seq (C_seq (C_region ?_))))
  refine W_move rfl rfl rfl ?_
  refine W_lenR rfl rfl runUnderlying46 rfl h104 ?_
  refine W_move rfl rfl rfl ?_
  refine W_end (E_then (C_block ?_))
  refine C_keep (L' := [(0, v102), (1, v105), (5, v110), (6, .int .u64 (0)), (20, .int .i64 ((l103.length : Int))), (21, .int .i64 (((0 : Nat) : Int)))]) ⟨rfl, rfl, rfl, rfl, rfl, rfl, trivial⟩ (List.Perm.refl _) ?_
  refine C_loop (fun n H' M' L' => ∃ (k113 : Nat) (zs184' : Nat), ∃ l174 : List U32, ∃ n176 : Int, ∃ xs173 : List Value, k113 + zs184' = ((l103.length : Int) : Int).toNat ∧ zs184' = n ∧ forN (fun k s179 n => m_large_addWords_b3 l103 l106 k s179.1 s179.2 n) (fun s179 => idx s179.1 (l103.length : Int) fun y213 => some (s179.1.set (((l103.length : Int) : Int).toNat) ⟨IntKind.u32.wrap (s179.2)⟩)) zs184' k113 (l174, n176) = some r ∧ Rw H' v110 xs173 l174 ∧ H.le H' ∧ .row v110 81 (Rep.sz U32) l174.length xs173 :: M = M' ∧ [(0, v102), (1, v105), (5, v110), (6, .int .u64 (n176)), (20, .int .i64 ((l103.length : Int))), (21, .int .i64 ((k113 : Int)))] = L') _ ⟨0, _, (List.replicate (IntKind.i64.wrap ((l103.length : Int) + 1) : Int).toNat (⟨0⟩ : U32)), 0, xs111, Nat.zero_add _, rfl, hm, hr112, (Hp.le_refl _), rfl, rfl⟩ ?_
  rintro _ H177 _ _ ⟨k113, zs184', l174, n176, xs173, hd186, rfl, hm, hr175, hle178, rfl, rfl⟩
  refine C_seq (C_region ?_)
  refine W_bin rfl rfl rfl rfl rfl ?_
  refine W_end (E_then (C_seq ?_))
  refine C_cond (b := decide ((k113 : Int) < (l103.length : Int))) rfl (fun hb188 => ?_) (fun hb188 => ?_)
  ·obtain ⟨zs184, rfl, hd187, hy185⟩ := rngN_t hd186 hb188
   have hm : m_large_addWords_b3 l103 l106 k113 l174 n176 (forN (fun k s179 n => m_large_addWords_b3 l103 l106 k s179.1 s179.2 n) (fun s179 => idx s179.1 (l103.length : Int) fun y213 => some (s179.1.set (((l103.length : Int) : Int).toNat) ⟨IntKind.u32.wrap (s179.2)⟩)) zs184 (k113 + 1)) = some r := hm
   generalize hn181 : forN (fun k s179 n => m_large_addWords_b3 l103 l106 k s179.1 s179.2 n) (fun s179 => idx s179.1 (l103.length : Int) fun y213 => some (s179.1.set (((l103.length : Int) : Int).toNat) ⟨IntKind.u32.wrap (s179.2)⟩)) zs184 (k113 + 1) = nx180 at hm
   unfold m_large_addWords_b3 at hm
   refine C_skip (E_then (C_seq (C_block (C_seq (C_region ?_)))))
   refine W_move rfl rfl rfl ?_
   refine W_assign rfl rfl rfl ?_
   refine W_end (E_then (C_seq (C_region ?_)))
   refine W_move rfl rfl rfl ?_
   refine W_move rfl rfl rfl ?_
   refine W_move rfl rfl rfl ?_
   obtain ⟨y189, h190, he191, hm⟩ := idx_some hm
   obtain ⟨_, rfl, hc192⟩ := (h104).elem he191
   refine W_indexS rfl rfl runUnderlying46 sizeOf81 rfl (h104.mono hle178) rfl h190 he191 ?_
   refine W_load rfl rfl isAgg81 rfl (HCells.one (hc192.mono hle178) 0 rfl).at ?_
   refine W_convInt rfl rfl runUnderlying81 runUnderlying85 rfl ?_
   refine W_bin rfl rfl rfl rfl rfl ?_
   refine W_assign rfl rfl rfl ?_
   refine W_end (E_then ?_)
   refine C_seq_join (fun H' M' L' => ∃ n198 : Int, m_large_addWords_b4 l174 nx180 k113 n198 = some r ∧ H177 = H' ∧ .row v110 81 (Rep.sz U32) l174.length xs173 :: M = M' ∧ [(0, v102), (1, v105), (5, v110), (6, .int .u64 (n198)), (7, .int .i64 ((k113 : Int))), (20, .int .i64 ((l103.length : Int))), (21, .int .i64 ((k113 : Int)))] = L') ?_ (fun J199 => ?_)
   ·rintro _ _ _ ⟨n198, hm, rfl, rfl, rfl⟩
    unfold m_large_addWords_b4 at hm
    refine C_seq (C_region ?_)
    refine W_move rfl rfl rfl ?_
    refine W_move rfl rfl rfl ?_
    refine W_move rfl rfl rfl ?_
    refine W_convInt rfl rfl runUnderlying85 runUnderlying81 rfl ?_
    obtain ⟨y200, h201, he202, hm⟩ := idx_some hm
    refine W_indexO (List.mem_cons_self ..) rfl rfl runUnderlying46 sizeOf81 rfl rfl h201 (List.getElem?_eq_some_iff.1 he202).1 ?_
    obtain ⟨_, rfl, hg203⟩ := (hr175).elem he202
    obtain ⟨hr204, he205, hg206⟩ := Rw.put (cs := [.int .u32 (IntKind.u32.wrap (n198))]) (o := 0) (c := [.int .u32 (y200.n)]) (out := [.int .u32 (IntKind.u32.wrap (n198))]) (e2 := ⟨IntKind.u32.wrap (n198)⟩) hr175 he202 rfl hg203 rfl rfl rfl
    refine W_storeO2 (i := ((k113 : Int) : Int).toNat * Rep.sz U32 + 0) (cs := [.int .u32 (IntKind.u32.wrap (n198))]) rfl sizeOf81 rfl (row_ad0 _ _) rfl rfl rfl (Rw.room hr175 he202 rfl) rfl (all_cons rfl all_nil) (n' := (l174.set (((k113 : Int) : Int).toNat) ⟨IntKind.u32.wrap (n198)⟩).length) List.length_set ?_
    generalize over xs173 (((k113 : Int) : Int).toNat * Rep.sz U32 + 0) [.int .u32 (IntKind.u32.wrap (n198))] = xs207 at hr204 hg206 ⊢
    refine W_end (E_then (C_region ?_))
    refine W_move rfl rfl rfl ?_
    refine W_shr rfl rfl rfl rfl (by decide) ?_
    refine W_assign rfl rfl rfl ?_
    refine W_end (E_normal_block (E_then (C_region ?_)))
    refine W_bin rfl rfl rfl rfl rfl ?_
    refine W_move rfl rfl rfl ?_
    refine W_end ?_
    exact E_keepJ (E_back (Nat.lt_succ_self _) ⟨k113 + 1, zs184, (l174.set (((k113 : Int) : Int).toNat) ⟨IntKind.u32.wrap (n198)⟩), shrV .u64 n198 32, xs207, hd187, rfl, (by rw [hn181]; exact hm), hr204, hle178, rfl, rfl⟩) (List.Perm.refl _) ⟨rfl, rfl, rfl, rfl, rfl, (congrArg (fun z => some (Value.int .i64 z)) (i64_succN hy185 (toNat_max (len_max (h104).lenMax)))), trivial⟩
   ·refine C_seq (C_region ?_)
    refine W_move rfl rfl rfl ?_
    refine W_move rfl rfl rfl ?_
    refine W_lenR rfl rfl runUnderlying46 rfl (h107.mono hle178) ?_
    refine W_bin rfl rfl rfl rfl rfl ?_
    refine W_end (E_then ?_)
    refine C_cond (b := decide ((k113 : Int) < (l106.length : Int))) rfl (fun hb208 => ?_) (fun hb208 => ?_)
    ·have hm := ite_t' hb208 hm
     refine C_region ?_
     refine W_move rfl rfl rfl ?_
     refine W_move rfl rfl rfl ?_
     refine W_move rfl rfl rfl ?_
     obtain ⟨y209, h210, he211, hm⟩ := idx_some hm
     obtain ⟨_, rfl, hc212⟩ := (h107).elem he211
     refine W_indexS rfl rfl runUnderlying46 sizeOf81 rfl (h107.mono hle178) rfl h210 he211 ?_
     refine W_load rfl rfl isAgg81 rfl (HCells.one (hc212.mono hle178) 0 rfl).at ?_
     refine W_convInt rfl rfl runUnderlying81 runUnderlying85 rfl ?_
     refine W_bin rfl rfl rfl rfl rfl ?_
     refine W_assign rfl rfl rfl ?_
     refine W_end ?_
     exact E_keepJ (J199 _ _ _ ⟨IntKind.u64.wrap ((IntKind.u64.wrap (n176 + (IntKind.u64.wrap (y189.n)))) + (IntKind.u64.wrap (y209.n))), hm, rfl, rfl, rfl⟩) (List.Perm.refl _) ⟨rfl, rfl, rfl, rfl, rfl, rfl, rfl, trivial⟩
    ·have hm := ite_f' hb208 hm
     refine C_skip ?_
     exact E_keepJ (J199 _ _ _ ⟨IntKind.u64.wrap (n176 + (IntKind.u64.wrap (y189.n))), hm, rfl, rfl, rfl⟩) (List.Perm.refl _) ⟨rfl, rfl, rfl, rfl, rfl, rfl, rfl, trivial⟩
  ·obtain rfl := rngN_f hd186 hb188
   have hm : (idx l174 (l103.length : Int) fun y213 => some (l174.set (((l103.length : Int) : Int).toNat) ⟨IntKind.u32.wrap (n176)⟩)) = some r := hm
   refine C_exit (E_exit_then (E_exit_then (E_exit_hit (E_then (C_seq (C_region ?_))))))
   refine W_move rfl rfl rfl ?_
   refine W_move rfl rfl rfl ?_
   refine W_lenR rfl rfl runUnderlying46 rfl (h104.mono hle178) ?_
   refine W_move rfl rfl rfl ?_
   refine W_convInt rfl rfl runUnderlying85 runUnderlying81 rfl ?_
   obtain ⟨y213, h214, he215, hm⟩ := idx_some hm
   refine W_indexO (List.mem_cons_self ..) rfl rfl runUnderlying46 sizeOf81 rfl rfl h214 (List.getElem?_eq_some_iff.1 he215).1 ?_
   obtain ⟨_, rfl, hg216⟩ := (hr175).elem he215
   obtain ⟨hr217, he218, hg219⟩ := Rw.put (cs := [.int .u32 (IntKind.u32.wrap (n176))]) (o := 0) (c := [.int .u32 (y213.n)]) (out := [.int .u32 (IntKind.u32.wrap (n176))]) (e2 := ⟨IntKind.u32.wrap (n176)⟩) hr175 he215 rfl hg216 rfl rfl rfl
   refine W_storeO2 (i := ((l103.length : Int) : Int).toNat * Rep.sz U32 + 0) (cs := [.int .u32 (IntKind.u32.wrap (n176))]) rfl sizeOf81 rfl (row_ad0 _ _) rfl rfl rfl (Rw.room hr175 he215 rfl) rfl (all_cons rfl all_nil) (n' := (l174.set (((l103.length : Int) : Int).toNat) ⟨IntKind.u32.wrap (n176)⟩).length) List.length_set ?_
   generalize over xs173 (((l103.length : Int) : Int).toNat * Rep.sz U32 + 0) [.int .u32 (IntKind.u32.wrap (n176))] = xs220 at hr217 hg219 ⊢
   refine W_end (E_then (C_seq (C_region ?_)))
   refine W_move rfl rfl rfl ?_
   refine W_assign rfl rfl rfl ?_
   refine W_end (E_then (C_ret ?_))
   obtain rfl := Option.some.inj hm
   refine E_weak hle178 ?_
   exact end1 rfl rfl ⟨rfl, v110, xs220, rfl, rfl, (hr217).toF⟩
 ·refine C_seq (C_region ?_)
  refine W_move rfl rfl rfl ?_
  refine W_lenR rfl rfl runUnderlying46 rfl h0 ?_
  refine W_move rfl rfl rfl ?_
  refine W_lenR rfl rfl runUnderlying46 rfl h1 ?_
  refine W_bin rfl rfl rfl rfl rfl ?_
  refine W_end (E_then ?_)
  refine C_cond (b := decide ((p0_a.length : Int) < (p1_b.length : Int))) rfl (fun hb221 => ?_) (fun hb221 => ?_)
  ·have hm := ite_t' hb221 hm
   refine C_region ?_
   refine W_move rfl rfl rfl ?_
   refine W_move rfl rfl rfl ?_
   refine W_assign rfl rfl rfl ?_
   refine W_assign rfl rfl rfl ?_
   refine W_end ?_
   exact E_keepJ (J108 _ _ _ ⟨p1_b, p0_a, v1, v0, hm, h1, h0, rfl, rfl, rfl⟩) (List.Perm.refl _) ⟨rfl, rfl, trivial⟩
  ·have hm := ite_f' hb221 hm
   refine C_skip ?_
   exact E_keepJ (J108 _ _ _ ⟨p0_a, p1_b, v0, v1, hm, h0, h1, rfl, rfl, rfl⟩) (List.Perm.refl _) ⟨rfl, rfl, trivial⟩

theorem m_large_subWords_c {B : Nat} {w0 w : World} [Tabs B w0] {H : Hp} {M : List Res} {p0_a : (List U32)} {p1_b : (List U32)} {v0 : Value} {v1 : Value} {r : (List U32)} (hm : m_large_subWords p0_a p1_b = some r) (h0 : RdS H v0 p0_a) (h1 : RdS H v1 p1_b) (ht : St B w0 H (M) w) :
  Calls prog 59 [v0, v1].toArray w (Ret B w0 fun H' M' v => H = H' ∧ ∃ qv0 : Value, ∃ qxs0 : List Value, .row qv0 81 (Rep.sz U32) r.length qxs0 :: M = M' ∧ qv0 = v ∧ RwF qv0 qxs0 r) := by
 unfold m_large_subWords at hm
 refine enter func59 rfl rfl rfl ht ?_
 refine C_seq (C_region ?_)
 refine W_assign rfl rfl rfl ?_
 refine W_end (E_then (C_seq (C_region ?_)))
 refine W_move rfl rfl rfl ?_
 refine W_lenR rfl rfl runUnderlying46 rfl h0 ?_
 obtain ⟨hz101, hm⟩ := need_some hm
 refine W_makeSlice (α := U32) (zs := [.int .u32 (0)]) (ze := ⟨0⟩) rfl rfl underlying46 ⟨_, rfl, rfl, rfl, rfl⟩ rfl rfl rfl rfl rfl rfl hz101.1 hz101.2 ?_
 intro v102 xs103 hr104
 refine W_assign rfl rfl rfl ?_
 refine W_end (E_then (C_seq (C_region ?_)))
 refine W_assign rfl rfl rfl ?_
 refine W_end (E_then (C_seq (C_seq (C_region ?_))))
 refine W_move rfl rfl rfl ?_
 refine W_lenR rfl rfl runUnderlying46 rfl h0 ?_
 refine W_move rfl rfl rfl ?_
 refine W_end (E_then (C_block ?_))
 refine C_keep (L' := [(0, v0), (1, v1), (5, v102), (6, .int .i64 (0)), (12, .int .i64 ((p0_a.length : Int))), (13, .int .i64 (((0 : Nat) : Int)))]) ⟨rfl, rfl, rfl, rfl, rfl, rfl, trivial⟩ (List.Perm.refl _) ?_
 refine C_loop (fun n H' M' L' => ∃ (k105 : Nat) (zs176' : Nat), ∃ l166 : List U32, ∃ n168 : Int, ∃ xs165 : List Value, k105 + zs176' = ((p0_a.length : Int) : Int).toNat ∧ zs176' = n ∧ forN (fun k s171 n => m_large_subWords_b3 p0_a p1_b k s171.1 s171.2 n) (fun s171 => some s171.1) zs176' k105 (l166, n168) = some r ∧ Rw H' v102 xs165 l166 ∧ H.le H' ∧ .row v102 81 (Rep.sz U32) l166.length xs165 :: M = M' ∧ [(0, v0), (1, v1), (5, v102), (6, .int .i64 (n168)), (12, .int .i64 ((p0_a.length : Int))), (13, .int .i64 ((k105 : Int)))] = L') _ ⟨0, _, (List.replicate ((p0_a.length : Int) : Int).toNat (⟨0⟩ : U32)), 0, xs103, Nat.zero_add _, rfl, hm, hr104, (Hp.le_refl _), rfl, rfl⟩ ?_
 rintro _ H169 _ _ ⟨k105, zs176', l166, n168, xs165, hd178, rfl, hm, hr167, hle170, rfl, rfl⟩
 refine C_seq (C_region ?_)
 refine W_bin rfl rfl rfl rfl rfl ?_
 refine W_end (E_then (C_seq ?_))
 refine C_cond (b := decide ((k105 : Int) < (p0_a.length : Int))) rfl (fun hb180 => ?_) (fun hb180 => ?_)
 ·obtain ⟨zs176, rfl, hd179, hy177⟩ := rngN_t hd178 hb180
  have hm : m_large_subWords_b3 p0_a p1_b k105 l166 n168 (forN (fun k s171 n => m_large_subWords_b3 p0_a p1_b k s171.1 s171.2 n) (fun s171 => some s171.1) zs176 (k105 + 1)) = some r := hm
  generalize hn173 : forN (fun k s171 n => m_large_subWords_b3 p0_a p1_b k s171.1 s171.2 n) (fun s171 => some s171.1) zs176 (k105 + 1) = nx172 at hm
  unfold m_large_subWords_b3 at hm
  refine C_skip (E_then (C_seq (C_block (C_seq (C_region ?_)))))
  refine W_move rfl rfl rfl ?_
  refine W_assign rfl rfl rfl ?_
  refine W_end (E_then (C_seq (C_region ?_)))
  refine W_move rfl rfl rfl ?_
  refine W_move rfl rfl rfl ?_
  refine W_move rfl rfl rfl ?_
  obtain ⟨y181, h182, he183, hm⟩ := idx_some hm
  obtain ⟨_, rfl, hc184⟩ := (h0).elem he183
  refine W_indexS rfl rfl runUnderlying46 sizeOf81 rfl (h0.mono hle170) rfl h182 he183 ?_
  refine W_load rfl rfl isAgg81 rfl (HCells.one (hc184.mono hle170) 0 rfl).at ?_
  refine W_convInt rfl rfl runUnderlying81 runUnderlying2 rfl ?_
  refine W_bin rfl rfl rfl rfl rfl ?_
  refine W_assign rfl rfl rfl ?_
  refine W_end (E_then ?_)
  refine C_seq_join (fun H' M' L' => ∃ n190 : Int, m_large_subWords_b4 l166 nx172 k105 n190 = some r ∧ H169 = H' ∧ .row v102 81 (Rep.sz U32) l166.length xs165 :: M = M' ∧ [(0, v0), (1, v1), (5, v102), (6, .int .i64 (n190)), (7, .int .i64 ((k105 : Int))), (12, .int .i64 ((p0_a.length : Int))), (13, .int .i64 ((k105 : Int)))] = L') ?_ (fun J191 => ?_)
  ·rintro _ _ _ ⟨n190, hm, rfl, rfl, rfl⟩
   unfold m_large_subWords_b4 at hm
   refine C_seq (C_region ?_)
   refine W_move rfl rfl rfl ?_
   refine W_move rfl rfl rfl ?_
   refine W_move rfl rfl rfl ?_
   refine W_convInt rfl rfl runUnderlying2 runUnderlying81 rfl ?_
   obtain ⟨y192, h193, he194, hm⟩ := idx_some hm
   refine W_indexO (List.mem_cons_self ..) rfl rfl runUnderlying46 sizeOf81 rfl rfl h193 (List.getElem?_eq_some_iff.1 he194).1 ?_
   obtain ⟨_, rfl, hg195⟩ := (hr167).elem he194
   obtain ⟨hr196, he197, hg198⟩ := Rw.put (cs := [.int .u32 (IntKind.u32.wrap (n190))]) (o := 0) (c := [.int .u32 (y192.n)]) (out := [.int .u32 (IntKind.u32.wrap (n190))]) (e2 := ⟨IntKind.u32.wrap (n190)⟩) hr167 he194 rfl hg195 rfl rfl rfl
   refine W_storeO2 (i := ((k105 : Int) : Int).toNat * Rep.sz U32 + 0) (cs := [.int .u32 (IntKind.u32.wrap (n190))]) rfl sizeOf81 rfl (row_ad0 _ _) rfl rfl rfl (Rw.room hr167 he194 rfl) rfl (all_cons rfl all_nil) (n' := (l166.set (((k105 : Int) : Int).toNat) ⟨IntKind.u32.wrap (n190)⟩).length) List.length_set ?_
   generalize over xs165 (((k105 : Int) : Int).toNat * Rep.sz U32 + 0) [.int .u32 (IntKind.u32.wrap (n190))] = xs199 at hr196 hg198 ⊢
   refine W_end (E_then (C_region ?_))
   refine W_move rfl rfl rfl ?_
   refine W_shr rfl rfl rfl rfl (by decide) ?_
   refine W_assign rfl rfl rfl ?_
   refine W_end (E_normal_block (E_then (C_region ?_)))
   refine W_bin rfl rfl rfl rfl rfl ?_
   refine W_move rfl rfl rfl ?_
   refine W_end ?_
   exact E_keepJ (E_back (Nat.lt_succ_self _) ⟨k105 + 1, zs176, (l166.set (((k105 : Int) : Int).toNat) ⟨IntKind.u32.wrap (n190)⟩), shrV .i64 n190 32, xs199, hd179, rfl, (by rw [hn173]; exact hm), hr196, hle170, rfl, rfl⟩) (List.Perm.refl _) ⟨rfl, rfl, rfl, rfl, rfl, (congrArg (fun z => some (Value.int .i64 z)) (i64_succN hy177 (toNat_max (len_max (h0).lenMax)))), trivial⟩
  ·refine C_seq (C_region ?_)
   refine W_move rfl rfl rfl ?_
   refine W_move rfl rfl rfl ?_
   refine W_lenR rfl rfl runUnderlying46 rfl (h1.mono hle170) ?_
   refine W_bin rfl rfl rfl rfl rfl ?_
   refine W_end (E_then ?_)
   refine C_cond (b := decide ((k105 : Int) < (p1_b.length : Int))) rfl (fun hb200 => ?_) (fun hb200 => ?_)
   ·have hm := ite_t' hb200 hm
    refine C_region ?_
    refine W_move rfl rfl rfl ?_
    refine W_move rfl rfl rfl ?_
    refine W_move rfl rfl rfl ?_
    obtain ⟨y201, h202, he203, hm⟩ := idx_some hm
    obtain ⟨_, rfl, hc204⟩ := (h1).elem he203
    refine W_indexS rfl rfl runUnderlying46 sizeOf81 rfl (h1.mono hle170) rfl h202 he203 ?_
    refine W_load rfl rfl isAgg81 rfl (HCells.one (hc204.mono hle170) 0 rfl).at ?_
    refine W_convInt rfl rfl runUnderlying81 runUnderlying2 rfl ?_
    refine W_bin rfl rfl rfl rfl rfl ?_
    refine W_assign rfl rfl rfl ?_
    refine W_end ?_
    exact E_keepJ (J191 _ _ _ ⟨IntKind.i64.wrap ((IntKind.i64.wrap (n168 + (IntKind.i64.wrap (y181.n)))) - (IntKind.i64.wrap (y201.n))), hm, rfl, rfl, rfl⟩) (List.Perm.refl _) ⟨rfl, rfl, rfl, rfl, rfl, rfl, rfl, trivial⟩
   ·have hm := ite_f' hb200 hm
    refine C_skip ?_
    exact E_keepJ (J191 _ _ _ ⟨IntKind.i64.wrap (n168 + (IntKind.i64.wrap (y181.n))), hm, rfl, rfl, rfl⟩) (List.Perm.refl _) ⟨rfl, rfl, rfl, rfl, rfl, rfl, rfl, trivial⟩
 ·obtain rfl := rngN_f hd178 hb180
  have hm : (some l166) = some r := hm
  refine C_exit (E_exit_then (E_exit_then (E_exit_hit (E_then (C_seq (C_region ?_))))))
  refine W_move rfl rfl rfl ?_
  refine W_assign rfl rfl rfl ?_
  refine W_end (E_then (C_ret ?_))
  obtain rfl := Option.some.inj hm
  refine E_weak hle170 ?_
  exact end1 rfl rfl ⟨rfl, v102, xs165, rfl, rfl, (hr167).toF⟩

theorem m_large_Int_Add_c {B : Nat} {w0 w : World} [Tabs B w0] {H : Hp} {M : List Res} {p0_a : S_large_Int} {p1_b : S_large_Int} {v0 : Value} {v1 : Value} {r : S_large_Int} (hm : m_large_Int_Add p0_a p1_b = some r) (h0 : RdS H v0 p0_a.words) (h1 : RdS H v1 p1_b.words) (ht : St B w0 H (M) w) :
  Calls prog 45 [.agg [.bool (p0_a.minus), v0].toArray, .agg [.bool (p1_b.minus), v1].toArray].toArray w (Ret B w0 fun H' M' v => H.le H' ∧ ∃ qv0 : Value, M = M' ∧ .agg [.bool (r.minus), qv0].toArray = v ∧ RdS H' qv0 r.words) := by
 unfold m_large_Int_Add at hm
 refine enter func45 rfl rfl rfl ht ?_
 refine C_seq (C_region ?_)
 refine W_box (cs := [.bool (p0_a.minus), v0]) rfl rfl rfl rfl (fun b101 => ?_)
 refine W_box (cs := [.bool (p1_b.minus), v1]) rfl rfl rfl rfl (fun b102 => ?_)
 refine W_alloc (cs := [.bool (false), .slice none 0 0]) rfl rfl zeroValue48 rfl (fun b103 => ?_)
 refine W_end (E_then (C_seq (C_seq (C_region ?_))))
 refine W_field (o := 0) rfl rfl runUnderlying48 rfl sizeOf4 rfl rfl rfl ?_
 refine W_load rfl rfl isAgg4 rfl (own_at (List.mem_cons_of_mem _ (List.mem_cons_of_mem _ (List.mem_cons_self ..))) rfl) ?_
 refine W_field (o := 0) rfl rfl runUnderlying48 rfl sizeOf4 rfl rfl rfl ?_
 refine W_load rfl rfl isAgg4 rfl (own_at (List.mem_cons_of_mem _ (List.mem_cons_self ..)) rfl) ?_
 refine W_eqBool rfl rfl runUnderlying4 rfl rfl ?_
 refine W_end (E_then ?_)
 refine C_cond (b := decide (p0_a.minus = p1_b.minus)) rfl (fun hb104 => ?_) (fun hb104 => ?_)
 ·have hm := ite_t' hb104 hm
  refine C_seq ?_
  obtain ⟨r105, hc106, hm⟩ := bind_some hm
  refine C_region_tok0 7 (phiT [(fun H rs v => [] = rs ∧ .pointer (some ⟨b101, 0, none⟩) = v), (fun H rs v => [] = rs ∧ .bool (p0_a.minus) = v), (fun H rs v => [] = rs ∧ .pointer (some ⟨b101, 1, none⟩) = v), (fun H rs v => [] = rs ∧ v0 = v), (fun H rs v => [] = rs ∧ .pointer (some ⟨b102, 1, none⟩) = v), (fun H rs v => [] = rs ∧ v1 = v), (fun H rs v => ∃ v110 : Value, ∃ xs111 : List Value, [.row v110 81 (Rep.sz U32) r105.length xs111] = rs ∧ v110 = v ∧ Rw H v110 xs111 r105)]) [[], [], [], [], [], [], []] [[], [], [], [], [], [], []] [] [0, 1, 2, 3, 4, 5, 6] Facts.mixed (by kernel_rfl) (by rfl) (by rfl) (by rfl) (by kernel_rfl) (phiT_mono ⟨eq_monoT _ _, eq_monoT _ _, eq_monoT _ _, eq_monoT _ _, eq_monoT _ _, eq_monoT _ _, (by rintro H1 H2 rs v hle ⟨v110, xs111, rfl, rfl, h112⟩; exact ⟨v110, xs111, rfl, rfl, (h112.mono hle)⟩), trivial⟩) ⟨?_, ?_, ?_, ?_, ?_, ?_, ?_, trivial⟩ ?_
  ·intro HX hX X Rest hR
   intro hU hUp
   refine W_field (o := 0) rfl rfl runUnderlying48 rfl sizeOf4 rfl rfl rfl ?_
   exact W_end (OneT_end [] (Hp.le_refl _) ⟨rfl, rfl⟩)
  ·intro HX hX X Rest hR
   rintro _ _ ⟨rfl, rfl⟩
   intro hU hUp
   refine W_load rfl rfl isAgg4 rfl (own_at (hR _ (List.mem_cons_of_mem _ (List.mem_cons_of_mem _ (List.mem_cons_self ..)))) rfl) ?_
   exact W_end (OneT_end [] (Hp.le_refl _) ⟨rfl, rfl⟩)
  ·intro HX hX X Rest hR
   intro hU hUp
   refine W_field (o := 1) rfl rfl runUnderlying48 rfl sizeOf46 rfl rfl rfl ?_
   exact W_end (OneT_end [] (Hp.le_refl _) ⟨rfl, rfl⟩)
  ·intro HX hX X Rest hR
   rintro _ _ ⟨rfl, rfl⟩
   intro hU hUp
   refine W_load rfl rfl isAgg46 rfl (own_at (hR _ (List.mem_cons_of_mem _ (List.mem_cons_of_mem _ (List.mem_cons_self ..)))) rfl) ?_
   exact W_end (OneT_end [] (Hp.le_refl _) ⟨rfl, rfl⟩)
  ·intro HX hX X Rest hR
   intro hU hUp
   refine W_field (o := 1) rfl rfl runUnderlying48 rfl sizeOf46 rfl rfl rfl ?_
   exact W_end (OneT_end [] (Hp.le_refl _) ⟨rfl, rfl⟩)
  ·intro HX hX X Rest hR
   rintro _ _ ⟨rfl, rfl⟩
   intro hU hUp
   refine W_load rfl rfl isAgg46 rfl (own_at (hR _ (List.mem_cons_of_mem _ (List.mem_cons_self ..))) rfl) ?_
   exact W_end (OneT_end [] (Hp.le_refl _) ⟨rfl, rfl⟩)
  ·intro HX hX X Rest hR
   rintro _ _ ⟨rfl, rfl⟩
   rintro _ _ ⟨rfl, rfl⟩
   intro hU hUp
   refine W_call call57 rfl rfl rfl (fun w ht => by have h := m_large_addWords_c (hm := hc106) (h0.mono hX) (h1.mono hX) ht; exact h) ?_
   rintro _ _ _ ⟨rfl, v110, xs111, rfl, rfl, h112⟩
   have h112 := h112 HX
   exact W_end (OneT_end [.row v110 81 (Rep.sz U32) r105.length xs111] (Hp.le_refl _) ⟨v110, xs111, rfl, rfl, (h112)⟩)
  intro H113 hle114
  rintro _ _ ⟨rfl, rfl⟩
  rintro _ _ ⟨rfl, rfl⟩
  rintro _ _ ⟨rfl, rfl⟩
  rintro _ _ ⟨rfl, rfl⟩
  rintro _ _ ⟨rfl, rfl⟩
  rintro _ _ ⟨rfl, rfl⟩
  rintro _ _ ⟨v110, xs111, rfl, rfl, h112⟩
  refine W_as (M' := .row v110 81 (Rep.sz U32) r105.length xs111 :: .obj b103 (.cells ([.bool (false), .slice none 0 0] : List Value).toArray 48 (0, 0)) :: .obj b102 (.cells [.bool (p1_b.minus), v1].toArray 48 (0, 0)) :: .obj b101 (.cells [.bool (p0_a.minus), v0].toArray 48 (0, 0)) :: M) rfl ?_
  refine W_freeze (h112).rd rfl (fun H115 hle116 h117 => ?_)
  obtain ⟨r118, hc119, hm⟩ := bind_some hm
  refine W_call call55 rfl rfl rfl (fun w ht => by have h := m_large_norm_c (hm := hc119) h117 ht; exact h) ?_
  rintro _ H122 _ ⟨hle123, v120, rfl, rfl, h121⟩
  refine W_store (cs := [.bool (r118.minus), v120]) (out := [.bool (r118.minus), v120]) rfl sizeOf48 rfl rfl rfl rfl rfl (all_cons rfl (all_cons (RdS.one1 h121) all_nil)) (over_all rfl) ?_
  refine W_end (E_then (C_ret (E_ret_then ?_)))
  obtain rfl := Option.some.inj hm
  exact endC1 (Hp.le_refl _) rfl (ResV.agg rfl isAgg48 sizeOf48 (List.mem_cons_self ..) rfl) (List.Sublist.cons _ (List.Sublist.cons _ (List.Sublist.cons _ (List.Sublist.refl _)))) (List.Perm.refl _) ⟨(Hp.le_trans (Hp.le_trans hle114 hle116) hle123), v120, rfl, rfl, h121⟩
 ·have hm := ite_f' hb104 hm
  refine C_skip (E_then (C_seq (C_seq (C_region ?_))))
  refine W_field (o := 1) rfl rfl runUnderlying48 rfl sizeOf46 rfl rfl rfl ?_
  refine W_load rfl rfl isAgg46 rfl (own_at (List.mem_cons_of_mem _ (List.mem_cons_of_mem _ (List.mem_cons_self ..))) rfl) ?_
  refine W_field (o := 1) rfl rfl runUnderlying48 rfl sizeOf46 rfl rfl rfl ?_
  refine W_load rfl rfl isAgg46 rfl (own_at (List.mem_cons_of_mem _ (List.mem_cons_self ..)) rfl) ?_
  obtain ⟨r124, hc125, hm⟩ := bind_some hm
  refine W_call call58 rfl rfl rfl (fun w ht => by have h := m_large_cmpWords_c (hm := hc125) h0 h1 ht; exact h) ?_
  rintro _ _ _ ⟨rfl, rfl, rfl⟩
  refine W_bin rfl rfl rfl rfl rfl ?_
  refine W_end (E_then ?_)
  refine C_cond (b := decide (0 ≤ r124)) rfl (fun hb126 => ?_) (fun hb126 => ?_)
  ·have hm := ite_t' hb126 hm
   refine C_seq ?_
   obtain ⟨r127, hc128, hm⟩ := bind_some hm
   refine C_region_tok0 7 (phiT [(fun H rs v => [] = rs ∧ .pointer (some ⟨b101, 0, none⟩) = v), (fun H rs v => [] = rs ∧ .bool (p0_a.minus) = v), (fun H rs v => [] = rs ∧ .pointer (some ⟨b101, 1, none⟩) = v), (fun H rs v => [] = rs ∧ v0 = v), (fun H rs v => [] = rs ∧ .pointer (some ⟨b102, 1, none⟩) = v), (fun H rs v => [] = rs ∧ v1 = v), (fun H rs v => ∃ v132 : Value, ∃ xs133 : List Value, [.row v132 81 (Rep.sz U32) r127.length xs133] = rs ∧ v132 = v ∧ Rw H v132 xs133 r127)]) [[], [], [], [], [], [], []] [[], [], [], [], [], [], []] [] [0, 1, 2, 3, 4, 5, 6] Facts.mixed (by kernel_rfl) (by rfl) (by rfl) (by rfl) (by kernel_rfl) (phiT_mono ⟨eq_monoT _ _, eq_monoT _ _, eq_monoT _ _, eq_monoT _ _, eq_monoT _ _, eq_monoT _ _, (by rintro H1 H2 rs v hle ⟨v132, xs133, rfl, rfl, h134⟩; exact ⟨v132, xs133, rfl, rfl, (h134.mono hle)⟩), trivial⟩) ⟨?_, ?_, ?_, ?_, ?_, ?_, ?_, trivial⟩ ?_
   ·intro HX hX X Rest hR
    intro hU hUp
    refine W_field (o := 0) rfl rfl runUnderlying48 rfl sizeOf4 rfl rfl rfl ?_
    exact W_end (OneT_end [] (Hp.le_refl _) ⟨rfl, rfl⟩)
   ·intro HX hX X Rest hR
    rintro _ _ ⟨rfl, rfl⟩
    intro hU hUp
    refine W_load rfl rfl isAgg4 rfl (own_at (hR _ (List.mem_cons_of_mem _ (List.mem_cons_of_mem _ (List.mem_cons_self ..)))) rfl) ?_
    exact W_end (OneT_end [] (Hp.le_refl _) ⟨rfl, rfl⟩)
   ·intro HX hX X Rest hR
    intro hU hUp
    refine W_field (o := 1) rfl rfl runUnderlying48 rfl sizeOf46 rfl rfl rfl ?_
    exact W_end (OneT_end [] (Hp.le_refl _) ⟨rfl, rfl⟩)
   ·intro HX hX X Rest hR
    rintro _ _ ⟨rfl, rfl⟩
    intro hU hUp
    refine W_load rfl rfl isAgg46 rfl (own_at (hR _ (List.mem_cons_of_mem _ (List.mem_cons_of_mem _ (List.mem_cons_self ..)))) rfl) ?_
    exact W_end (OneT_end [] (Hp.le_refl _) ⟨rfl, rfl⟩)
   ·intro HX hX X Rest hR
    intro hU hUp
    refine W_field (o := 1) rfl rfl runUnderlying48 rfl sizeOf46 rfl rfl rfl ?_
    exact W_end (OneT_end [] (Hp.le_refl _) ⟨rfl, rfl⟩)
   ·intro HX hX X Rest hR
    rintro _ _ ⟨rfl, rfl⟩
    intro hU hUp
    refine W_load rfl rfl isAgg46 rfl (own_at (hR _ (List.mem_cons_of_mem _ (List.mem_cons_self ..))) rfl) ?_
    exact W_end (OneT_end [] (Hp.le_refl _) ⟨rfl, rfl⟩)
   ·intro HX hX X Rest hR
    rintro _ _ ⟨rfl, rfl⟩
    rintro _ _ ⟨rfl, rfl⟩
    intro hU hUp
    refine W_call call59 rfl rfl rfl (fun w ht => by have h := m_large_subWords_c (hm := hc128) (h0.mono hX) (h1.mono hX) ht; exact h) ?_
    rintro _ _ _ ⟨rfl, v132, xs133, rfl, rfl, h134⟩
    have h134 := h134 HX
    exact W_end (OneT_end [.row v132 81 (Rep.sz U32) r127.length xs133] (Hp.le_refl _) ⟨v132, xs133, rfl, rfl, (h134)⟩)
   intro H135 hle136
   rintro _ _ ⟨rfl, rfl⟩
   rintro _ _ ⟨rfl, rfl⟩
   rintro _ _ ⟨rfl, rfl⟩
   rintro _ _ ⟨rfl, rfl⟩
   rintro _ _ ⟨rfl, rfl⟩
   rintro _ _ ⟨rfl, rfl⟩
   rintro _ _ ⟨v132, xs133, rfl, rfl, h134⟩
   refine W_as (M' := .row v132 81 (Rep.sz U32) r127.length xs133 :: .obj b103 (.cells ([.bool (false), .slice none 0 0] : List Value).toArray 48 (0, 0)) :: .obj b102 (.cells [.bool (p1_b.minus), v1].toArray 48 (0, 0)) :: .obj b101 (.cells [.bool (p0_a.minus), v0].toArray 48 (0, 0)) :: M) rfl ?_
   refine W_freeze (h134).rd rfl (fun H137 hle138 h139 => ?_)
   obtain ⟨r140, hc141, hm⟩ := bind_some hm
   refine W_call call55 rfl rfl rfl (fun w ht => by have h := m_large_norm_c (hm := hc141) h139 ht; exact h) ?_
   rintro _ H144 _ ⟨hle145, v142, rfl, rfl, h143⟩
   refine W_store (cs := [.bool (r140.minus), v142]) (out := [.bool (r140.minus), v142]) rfl sizeOf48 rfl rfl rfl rfl rfl (all_cons rfl (all_cons (RdS.one1 h143) all_nil)) (over_all rfl) ?_
   refine W_end (E_then (C_ret (E_ret_then ?_)))
   obtain rfl := Option.some.inj hm
   exact endC1 (Hp.le_refl _) rfl (ResV.agg rfl isAgg48 sizeOf48 (List.mem_cons_self ..) rfl) (List.Sublist.cons _ (List.Sublist.cons _ (List.Sublist.cons _ (List.Sublist.refl _)))) (List.Perm.refl _) ⟨(Hp.le_trans (Hp.le_trans hle136 hle138) hle145), v142, rfl, rfl, h143⟩
  ·have hm := ite_f' hb126 hm
   refine C_skip (E_then (C_seq ?_))
   obtain ⟨r146, hc147, hm⟩ := bind_some hm
   refine C_region_tok0 7 (phiT [(fun H rs v => [] = rs ∧ .pointer (some ⟨b102, 0, none⟩) = v), (fun H rs v => [] = rs ∧ .bool (p1_b.minus) = v), (fun H rs v => [] = rs ∧ .pointer (some ⟨b102, 1, none⟩) = v), (fun H rs v => [] = rs ∧ v1 = v), (fun H rs v => [] = rs ∧ .pointer (some ⟨b101, 1, none⟩) = v), (fun H rs v => [] = rs ∧ v0 = v), (fun H rs v => ∃ v151 : Value, ∃ xs152 : List Value, [.row v151 81 (Rep.sz U32) r146.length xs152] = rs ∧ v151 = v ∧ Rw H v151 xs152 r146)]) [[], [], [], [], [], [], []] [[], [], [], [], [], [], []] [] [0, 1, 2, 3, 4, 5, 6] Facts.mixed (by kernel_rfl) (by rfl) (by rfl) (by rfl) (by kernel_rfl) (phiT_mono ⟨eq_monoT _ _, eq_monoT _ _, eq_monoT _ _, eq_monoT _ _, eq_monoT _ _, eq_monoT _ _, (by rintro H1 H2 rs v hle ⟨v151, xs152, rfl, rfl, h153⟩; exact ⟨v151, xs152, rfl, rfl, (h153.mono hle)⟩), trivial⟩) ⟨?_, ?_, ?_, ?_, ?_, ?_, ?_, trivial⟩ ?_
   ·intro HX hX X Rest hR
    intro hU hUp
    refine W_field (o := 0) rfl rfl runUnderlying48 rfl sizeOf4 rfl rfl rfl ?_
    exact W_end (OneT_end [] (Hp.le_refl _) ⟨rfl, rfl⟩)
   ·intro HX hX X Rest hR
    rintro _ _ ⟨rfl, rfl⟩
    intro hU hUp
    refine W_load rfl rfl isAgg4 rfl (own_at (hR _ (List.mem_cons_of_mem _ (List.mem_cons_self ..))) rfl) ?_
    exact W_end (OneT_end [] (Hp.le_refl _) ⟨rfl, rfl⟩)
   ·intro HX hX X Rest hR
    intro hU hUp
    refine W_field (o := 1) rfl rfl runUnderlying48 rfl sizeOf46 rfl rfl rfl ?_
    exact W_end (OneT_end [] (Hp.le_refl _) ⟨rfl, rfl⟩)
   ·intro HX hX X Rest hR
    rintro _ _ ⟨rfl, rfl⟩
    intro hU hUp
    refine W_load rfl rfl isAgg46 rfl (own_at (hR _ (List.mem_cons_of_mem _ (List.mem_cons_self ..))) rfl) ?_
    exact W_end (OneT_end [] (Hp.le_refl _) ⟨rfl, rfl⟩)
   ·intro HX hX X Rest hR
    intro hU hUp
    refine W_field (o := 1) rfl rfl runUnderlying48 rfl sizeOf46 rfl rfl rfl ?_
    exact W_end (OneT_end [] (Hp.le_refl _) ⟨rfl, rfl⟩)
   ·intro HX hX X Rest hR
    rintro _ _ ⟨rfl, rfl⟩
    intro hU hUp
    refine W_load rfl rfl isAgg46 rfl (own_at (hR _ (List.mem_cons_of_mem _ (List.mem_cons_of_mem _ (List.mem_cons_self ..)))) rfl) ?_
    exact W_end (OneT_end [] (Hp.le_refl _) ⟨rfl, rfl⟩)
   ·intro HX hX X Rest hR
    rintro _ _ ⟨rfl, rfl⟩
    rintro _ _ ⟨rfl, rfl⟩
    intro hU hUp
    refine W_call call59 rfl rfl rfl (fun w ht => by have h := m_large_subWords_c (hm := hc147) (h1.mono hX) (h0.mono hX) ht; exact h) ?_
    rintro _ _ _ ⟨rfl, v151, xs152, rfl, rfl, h153⟩
    have h153 := h153 HX
    exact W_end (OneT_end [.row v151 81 (Rep.sz U32) r146.length xs152] (Hp.le_refl _) ⟨v151, xs152, rfl, rfl, (h153)⟩)
   intro H154 hle155
   rintro _ _ ⟨rfl, rfl⟩
   rintro _ _ ⟨rfl, rfl⟩
   rintro _ _ ⟨rfl, rfl⟩
   rintro _ _ ⟨rfl, rfl⟩
   rintro _ _ ⟨rfl, rfl⟩
   rintro _ _ ⟨rfl, rfl⟩
   rintro _ _ ⟨v151, xs152, rfl, rfl, h153⟩
   refine W_as (M' := .row v151 81 (Rep.sz U32) r146.length xs152 :: .obj b103 (.cells ([.bool (false), .slice none 0 0] : List Value).toArray 48 (0, 0)) :: .obj b102 (.cells [.bool (p1_b.minus), v1].toArray 48 (0, 0)) :: .obj b101 (.cells [.bool (p0_a.minus), v0].toArray 48 (0, 0)) :: M) rfl ?_
   refine W_freeze (h153).rd rfl (fun H156 hle157 h158 => ?_)
   obtain ⟨r159, hc160, hm⟩ := bind_some hm
   refine W_call call55 rfl rfl rfl (fun w ht => by have h := m_large_norm_c (hm := hc160) h158 ht; exact h) ?_
   rintro _ H163 _ ⟨hle164, v161, rfl, rfl, h162⟩
   refine W_store (cs := [.bool (r159.minus), v161]) (out := [.bool (r159.minus), v161]) rfl sizeOf48 rfl rfl rfl rfl rfl (all_cons rfl (all_cons (RdS.one1 h162) all_nil)) (over_all rfl) ?_
   refine W_end (E_then (C_ret ?_))
   obtain rfl := Option.some.inj hm
   exact endC1 (Hp.le_refl _) rfl (ResV.agg rfl isAgg48 sizeOf48 (List.mem_cons_self ..) rfl) (List.Sublist.cons _ (List.Sublist.cons _ (List.Sublist.cons _ (List.Sublist.refl _)))) (List.Perm.refl _) ⟨(Hp.le_trans (Hp.le_trans hle155 hle157) hle164), v161, rfl, rfl, h162⟩

theorem m_large_Int_Sub_c {B : Nat} {w0 w : World} [Tabs B w0] {H : Hp} {M : List Res} {p0_a : S_large_Int} {p1_b : S_large_Int} {v0 : Value} {v1 : Value} {r : S_large_Int} (hm : m_large_Int_Sub p0_a p1_b = some r) (h0 : RdS H v0 p0_a.words) (h1 : RdS H v1 p1_b.words) (ht : St B w0 H (M) w) :
  Calls prog 66 [.agg [.bool (p0_a.minus), v0].toArray, .agg [.bool (p1_b.minus), v1].toArray].toArray w (Ret B w0 fun H' M' v => H.le H' ∧ ∃ qv0 : Value, M = M' ∧ .agg [.bool (r.minus), qv0].toArray = v ∧ RdS H' qv0 r.words) := by
 unfold m_large_Int_Sub at hm
 refine enter func66 rfl rfl rfl ht ?_
 refine C_seq (C_region ?_)
 refine W_box (cs := [.bool (p0_a.minus), v0]) rfl rfl rfl rfl (fun b101 => ?_)
 refine W_box (cs := [.bool (p1_b.minus), v1]) rfl rfl rfl rfl (fun b102 => ?_)
 refine W_alloc (cs := [.bool (false), .slice none 0 0]) rfl rfl zeroValue48 rfl (fun b103 => ?_)
 refine W_end (E_then (C_seq ?_))
 obtain ⟨r104, hc105, hm⟩ := bind_some hm
 refine C_region_tok0 3 (phiT [(fun H rs v => [] = rs ∧ .agg [.bool (p0_a.minus), v0].toArray = v), (fun H rs v => [] = rs ∧ .agg [.bool (p1_b.minus), v1].toArray = v), (fun H rs v => ∃ v110 : Value, [] = rs ∧ .agg [.bool (r104.minus), v110].toArray = v ∧ RdS H v110 r104.words)]) [[], [], []] [[], [], []] [] [0, 1, 2] Facts.mixed (by kernel_rfl) (by rfl) (by rfl) (by rfl) (by kernel_rfl) (phiT_mono ⟨eq_monoT _ _, eq_monoT _ _, (by rintro H1 H2 rs v hle ⟨v110, rfl, rfl, h111⟩; exact ⟨v110, rfl, rfl, (h111.mono hle)⟩), trivial⟩) ⟨?_, ?_, ?_, trivial⟩ ?_
 ·intro HX hX X Rest hR
  intro hU hUp
  refine W_loadAgg rfl rfl isAgg48 sizeOf48 rfl (own_all (hR _ (List.mem_cons_of_mem _ (List.mem_cons_of_mem _ (List.mem_cons_self ..))))) rfl ?_
  exact W_end (OneT_end [] (Hp.le_refl _) ⟨rfl, rfl⟩)
 ·intro HX hX X Rest hR
  intro hU hUp
  refine W_loadAgg rfl rfl isAgg48 sizeOf48 rfl (own_all (hR _ (List.mem_cons_of_mem _ (List.mem_cons_self ..)))) rfl ?_
  exact W_end (OneT_end [] (Hp.le_refl _) ⟨rfl, rfl⟩)
 ·intro HX hX X Rest hR
  rintro _ _ ⟨rfl, rfl⟩
  intro hU hUp
  refine W_call call52 rfl rfl rfl (fun w ht => by have h := m_large_Int_Neg_c (hm := hc105) (h1.mono hX) ht; exact h) ?_
  rintro _ H112 _ ⟨hle113, v110, rfl, rfl, h111⟩
  exact W_end (OneT_end [] hle113 ⟨v110, rfl, rfl, (h111)⟩)
 intro H114 hle115
 rintro _ _ ⟨rfl, rfl⟩
 rintro _ _ ⟨rfl, rfl⟩
 rintro _ _ ⟨v110, rfl, rfl, h111⟩
 obtain ⟨r116, hc117, hm⟩ := bind_some hm
 refine W_call call45 rfl rfl rfl (fun w ht => by have h := m_large_Int_Add_c (hm := hc117) (h0.mono hle115) h111 ht; exact h) ?_
 rintro _ H120 _ ⟨hle121, v118, rfl, rfl, h119⟩
 refine W_store (cs := [.bool (r116.minus), v118]) (out := [.bool (r116.minus), v118]) rfl sizeOf48 rfl rfl rfl rfl rfl (all_cons rfl (all_cons (RdS.one1 h119) all_nil)) (over_all rfl) ?_
 refine W_end (E_then (C_ret ?_))
 obtain rfl := Option.some.inj hm
 exact endC1 (Hp.le_refl _) rfl (ResV.agg rfl isAgg48 sizeOf48 (List.mem_cons_self ..) rfl) (List.Sublist.cons _ (List.Sublist.cons _ (List.Sublist.cons _ (List.Sublist.refl _)))) (List.Perm.refl _) ⟨(Hp.le_trans hle115 hle121), v118, rfl, rfl, h119⟩
end Go.Sim
