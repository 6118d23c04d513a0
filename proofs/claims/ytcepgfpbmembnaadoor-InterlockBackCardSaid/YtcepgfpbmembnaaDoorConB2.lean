/-
  Printed by a program: each Go function computes its model.
-/
import Derived.Test.YtcepgfpbmembnaaDoorConB1
namespace Go.Sim
open Go
set_option linter.unusedVariables false
set_option linter.unusedSimpArgs false
set_option maxRecDepth 100000
theorem m_interlock_Check_c {B : Nat} {w0 w : World} {H : Hp} {M : List Res} {p0_l : (List S_api_InterlockRule)} {v0 : Value} {r : Int} (hm : m_interlock_Check p0_l = some r) (h0 : RdS H v0 p0_l) (ht : St B w0 H (M) w) :
    Calls Proofs.Tryd.prog 8 [v0].toArray w (Ret B w0 fun H' M' v => H = H' ∧ M = M' ∧ .int .i64 (r) = v) := by
  unfold m_interlock_Check at hm
  refine enter Proofs.Tryd.func8 rfl rfl rfl ht ?_
  refine C_seq ?_
  refine C_region ?_
  refine W_assign rfl rfl rfl ?_
  refine W_end ?_
  refine E_then ?_
  refine C_seq ?_
  refine C_seq ?_
  refine C_region ?_
  refine W_move rfl rfl rfl ?_
  refine W_lenR rfl rfl Proofs.Tryd.runUnderlying22 rfl h0 ?_
  refine W_bin rfl rfl rfl rfl rfl ?_
  refine W_end ?_
  refine E_then ?_
  refine C_cond (b := decide (24 < (p0_l.length : Int))) rfl (fun hb101 => ?_) (fun hb101 => ?_)
  · have hm := ite_t' hb101 hm
    refine C_seq ?_
    refine C_region ?_
    refine W_assign rfl rfl rfl ?_
    refine W_end ?_
    refine E_then ?_
    refine C_ret ?_
    refine E_ret_then ?_
    obtain rfl := Option.some.inj hm
    refine E_weak (Hp.le_refl _) ?_
    exact end1 rfl rfl ⟨rfl, rfl, rfl⟩
  · have hm := ite_f' hb101 hm
    refine C_skip ?_
    refine E_then ?_
    refine C_seq ?_
    refine C_seq ?_
    refine C_region ?_
    refine W_move rfl rfl rfl ?_
    refine W_lenR rfl rfl Proofs.Tryd.runUnderlying22 rfl h0 ?_
    refine W_move rfl rfl rfl ?_
    refine W_end ?_
    refine E_then ?_
    refine C_block ?_
    refine C_keep (L' := [(9, v0), (10, .int .i64 ((p0_l.length : Int))), (11, .int .i64 (((0 : Nat) : Int)))]) ⟨rfl, rfl, rfl, trivial⟩ (List.Perm.refl _) ?_
    refine C_loop (fun n H' M' L' => ∃ (k102 : Nat) (zs130' : List S_api_InterlockRule), (p0_l).drop k102 = zs130' ∧ zs130'.length = n ∧ forI (fun k y s125 n => m_interlock_Check_b1 k y n) (fun _ => some 0) k102 zs130' () = some r ∧ H.le H' ∧ M = M' ∧ [(9, v0), (10, .int .i64 ((p0_l.length : Int))), (11, .int .i64 ((k102 : Int)))] = L') _ ⟨0, _, rfl, rfl, hm, (Hp.le_refl _), rfl, rfl⟩ ?_
    rintro _ H123 _ _ ⟨k102, zs130', hd132, rfl, hm, hle124, rfl, rfl⟩
    refine C_seq ?_
    refine C_region ?_
    refine W_bin rfl rfl rfl rfl rfl ?_
    refine W_end (E_then ?_)
    refine C_seq ?_
    refine C_cond (b := decide ((k102 : Int) < (p0_l.length : Int))) rfl (fun hb134 => ?_) (fun hb134 => ?_)
    · obtain ⟨y129, zs130, rfl, hy131, hd133⟩ := rng_t hd132 hb134
      have hm : m_interlock_Check_b1 k102 y129 (forI (fun k y s125 n => m_interlock_Check_b1 k y n) (fun _ => some 0) (k102 + 1) zs130) = some r := hm
      generalize hn127 : forI (fun k y s125 n => m_interlock_Check_b1 k y n) (fun _ => some 0) (k102 + 1) zs130 = nx126 at hm
      unfold m_interlock_Check_b1 at hm
      refine C_skip (E_then ?_)
      refine C_seq ?_
      refine C_block ?_
      refine C_seq ?_
      refine C_region ?_
      obtain ⟨_, ⟨v136, rfl, h137⟩, hc135⟩ := (h0).elem hy131
      refine W_indexS rfl rfl Proofs.Tryd.runUnderlying22 Proofs.Tryd.sizeOf34 rfl (h0.mono hle124) rfl (Int.natCast_nonneg _) hy131 ?_
      refine W_loadAgg rfl rfl Proofs.Tryd.isAgg34 Proofs.Tryd.sizeOf34 rfl (hc135.mono hle124).at rfl ?_
      refine W_alloc (cs := [.bool (false), .string (⟨#[]⟩), .slice none 0 0]) rfl rfl Proofs.Tryd.zeroValue34 rfl (fun b138 => ?_)
      refine W_store (cs := [.bool (y129.Close), .string (y129.Switch), v136]) (out := [.bool (y129.Close), .string (y129.Switch), v136]) rfl Proofs.Tryd.sizeOf34 rfl rfl rfl rfl rfl (all_cons rfl (all_cons rfl (all_cons (RdS.one1 (h137.mono hle124)) all_nil))) (over_all rfl) ?_
      refine W_end ?_
      refine E_then ?_
      refine C_seq ?_
      refine C_seq ?_
      refine C_region ?_
      refine W_field (o := 1) rfl rfl Proofs.Tryd.runUnderlying34 rfl Proofs.Tryd.sizeOf9 rfl rfl rfl ?_
      refine W_load rfl rfl Proofs.Tryd.isAgg9 rfl (own_at (List.mem_cons_self ..) rfl) ?_
      obtain ⟨r139, hc140, hm⟩ := bind_some hm
      refine W_call Proofs.Tryd.call21 rfl rfl rfl (fun w ht => by have h := m_netmodel_Name_c (hm := hc140)  ht; exact h) ?_
      rintro _ _ _ ⟨rfl, rfl, rfl⟩
      refine W_un rfl rfl rfl rfl ?_
      refine W_end ?_
      refine E_then ?_
      refine C_cond (b := !r139) rfl (fun hb141 => ?_) (fun hb141 => ?_)
      · have hm := ite_t' hb141 hm
        refine C_seq ?_
        refine C_region ?_
        refine W_assign rfl rfl rfl ?_
        refine W_end ?_
        refine E_then ?_
        refine C_ret ?_
        refine E_ret_then ?_
        refine E_ret_block ?_
        refine E_ret_then ?_
        refine E_ret_then ?_
        refine E_ret_block ?_
        refine E_ret_then ?_
        obtain rfl := Option.some.inj hm
        refine E_drop (List.Sublist.cons _ (List.Sublist.refl _)) ?_
        refine E_weak hle124 ?_
        exact end1 rfl rfl ⟨rfl, rfl, rfl⟩
      · have hm := ite_f' hb141 hm
        refine C_skip ?_
        refine E_then ?_
        refine C_seq ?_
        refine C_region ?_
        refine W_field (o := 2) rfl rfl Proofs.Tryd.runUnderlying34 rfl Proofs.Tryd.sizeOf32 rfl rfl rfl ?_
        refine W_load rfl rfl Proofs.Tryd.isAgg32 rfl (own_at (List.mem_cons_self ..) rfl) ?_
        obtain ⟨r142, hc143, hm⟩ := bind_some hm
        refine W_call Proofs.Tryd.call22 rfl rfl rfl (fun w ht => by have h := m_interlock_condition_c (hm := hc143) (h137.mono hle124) ht; exact h) ?_
        rintro _ _ _ ⟨rfl, rfl, rfl⟩
        refine W_assign rfl rfl rfl ?_
        refine W_end ?_
        refine E_then ?_
        refine C_seq ?_
        refine C_region ?_
        refine W_move rfl rfl rfl ?_
        refine W_bin rfl rfl rfl rfl rfl ?_
        refine W_end ?_
        refine E_then ?_
        refine C_cond (b := !decide (r142 = 0)) rfl (fun hb144 => ?_) (fun hb144 => ?_)
        · have hm := ite_t' hb144 hm
          refine C_seq ?_
          refine C_region ?_
          refine W_move rfl rfl rfl ?_
          refine W_assign rfl rfl rfl ?_
          refine W_end ?_
          refine E_then ?_
          refine C_ret ?_
          refine E_ret_block ?_
          refine E_ret_then ?_
          refine E_ret_then ?_
          refine E_ret_block ?_
          refine E_ret_then ?_
          obtain rfl := Option.some.inj hm
          refine E_drop (List.Sublist.cons _ (List.Sublist.refl _)) ?_
          refine E_weak hle124 ?_
          exact end1 rfl rfl ⟨rfl, rfl, rfl⟩
        · have hm := ite_f' hb144 hm
          refine C_skip ?_
          refine E_normal_block ?_
          refine E_then ?_
          refine C_region ?_
          refine W_bin rfl rfl rfl rfl rfl ?_
          refine W_move rfl rfl rfl ?_
          refine W_end ?_
          refine E_drop (List.Sublist.cons _ (List.Sublist.refl _)) ?_
          exact E_keepJ (E_back (Nat.lt_succ_self _) ⟨k102 + 1, zs130, hd133, rfl, (by rw [hn127]; exact hm), hle124, rfl, rfl⟩) (List.Perm.refl _) ⟨rfl, rfl, (congrArg (fun z => some (Value.int .i64 z)) (i64_succ hy131 ((h0.mono hle124)).lenMax)), trivial⟩
    · obtain rfl := rng_f hd132 hb134
      have hm : (some 0) = some r := hm
      refine C_exit (E_exit_then ?_)
      refine E_exit_then ?_
      refine E_exit_hit ?_
      refine E_then ?_
      refine C_seq ?_
      refine C_region ?_
      refine W_assign rfl rfl rfl ?_
      refine W_end ?_
      refine E_then ?_
      refine C_ret ?_
      obtain rfl := Option.some.inj hm
      refine E_weak hle124 ?_
      exact end1 rfl rfl ⟨rfl, rfl, rfl⟩

theorem m_slices_Index_int_int_c {B : Nat} {w0 w : World} {H : Hp} {M : List Res} {p0_s : (List Int)} {p1_v : Int} {v0 : Value} {r : Int} (hm : m_slices_Index_int_int p0_s p1_v = some r) (h0 : RdS H v0 p0_s) (ht : St B w0 H (M) w) :
    Calls Proofs.Tryd.prog 33 [v0, .int .i64 (p1_v)].toArray w (Ret B w0 fun H' M' v => H = H' ∧ M = M' ∧ .int .i64 (r) = v) := by
  unfold m_slices_Index_int_int at hm
  refine enter Proofs.Tryd.func33 rfl rfl rfl ht ?_
  refine C_seq ?_
  refine C_region ?_
  refine W_assign rfl rfl rfl ?_
  refine W_end ?_
  refine E_then ?_
  refine C_seq ?_
  refine C_seq ?_
  refine C_region ?_
  refine W_move rfl rfl rfl ?_
  refine W_lenR rfl rfl Proofs.Tryd.runUnderlying51 rfl h0 ?_
  refine W_move rfl rfl rfl ?_
  refine W_end ?_
  refine E_then ?_
  refine C_block ?_
  refine C_keep (L' := [(0, v0), (1, .int .i64 (p1_v)), (7, .int .i64 ((p0_s.length : Int))), (8, .int .i64 (((0 : Nat) : Int)))]) ⟨rfl, rfl, rfl, rfl, trivial⟩ (List.Perm.refl _) ?_
  refine C_loop (fun n H' M' L' => ∃ (k101 : Nat) (zs119' : Nat), k101 + zs119' = ((p0_s.length : Int) : Int).toNat ∧ zs119' = n ∧ forN (fun k s114 n => m_slices_Index_int_int_b1 p0_s p1_v k n) (fun _ => some (-1)) zs119' k101 () = some r ∧ H.le H' ∧ M = M' ∧ [(0, v0), (1, .int .i64 (p1_v)), (7, .int .i64 ((p0_s.length : Int))), (8, .int .i64 ((k101 : Int)))] = L') _ ⟨0, _, Nat.zero_add _, rfl, hm, (Hp.le_refl _), rfl, rfl⟩ ?_
  rintro _ H112 _ _ ⟨k101, zs119', hd121, rfl, hm, hle113, rfl, rfl⟩
  refine C_seq ?_
  refine C_region ?_
  refine W_bin rfl rfl rfl rfl rfl ?_
  refine W_end (E_then ?_)
  refine C_seq ?_
  refine C_cond (b := decide ((k101 : Int) < (p0_s.length : Int))) rfl (fun hb123 => ?_) (fun hb123 => ?_)
  · obtain ⟨zs119, rfl, hd122, hy120⟩ := rngN_t hd121 hb123
    have hm : m_slices_Index_int_int_b1 p0_s p1_v k101 (forN (fun k s114 n => m_slices_Index_int_int_b1 p0_s p1_v k n) (fun _ => some (-1)) zs119 (k101 + 1)) = some r := hm
    generalize hn116 : forN (fun k s114 n => m_slices_Index_int_int_b1 p0_s p1_v k n) (fun _ => some (-1)) zs119 (k101 + 1) = nx115 at hm
    unfold m_slices_Index_int_int_b1 at hm
    refine C_skip (E_then ?_)
    refine C_seq ?_
    refine C_block ?_
    refine C_seq ?_
    refine C_region ?_
    refine W_move rfl rfl rfl ?_
    refine W_assign rfl rfl rfl ?_
    refine W_end ?_
    refine E_then ?_
    refine C_seq ?_
    refine C_region ?_
    refine W_move rfl rfl rfl ?_
    refine W_move rfl rfl rfl ?_
    refine W_move rfl rfl rfl ?_
    obtain ⟨y124, h125, he126, hm⟩ := idx_some hm
    obtain ⟨_, rfl, hc127⟩ := (h0).elem he126
    refine W_indexS rfl rfl Proofs.Tryd.runUnderlying51 Proofs.Tryd.sizeOf3 rfl (h0.mono hle113) rfl h125 he126 ?_
    refine W_load rfl rfl Proofs.Tryd.isAgg3 rfl (HCells.one (hc127.mono hle113) 0 rfl).at ?_
    refine W_bin rfl rfl rfl rfl rfl ?_
    refine W_end ?_
    refine E_then ?_
    refine C_cond (b := decide (p1_v = y124)) rfl (fun hb128 => ?_) (fun hb128 => ?_)
    · have hm := ite_t' hb128 hm
      refine C_seq ?_
      refine C_region ?_
      refine W_move rfl rfl rfl ?_
      refine W_assign rfl rfl rfl ?_
      refine W_end ?_
      refine E_then ?_
      refine C_ret ?_
      refine E_ret_block ?_
      refine E_ret_then ?_
      refine E_ret_then ?_
      refine E_ret_block ?_
      refine E_ret_then ?_
      obtain rfl := Option.some.inj hm
      refine E_weak hle113 ?_
      exact end1 rfl rfl ⟨rfl, rfl, rfl⟩
    · have hm := ite_f' hb128 hm
      refine C_skip ?_
      refine E_normal_block ?_
      refine E_then ?_
      refine C_region ?_
      refine W_bin rfl rfl rfl rfl rfl ?_
      refine W_move rfl rfl rfl ?_
      refine W_end ?_
      exact E_keepJ (E_back (Nat.lt_succ_self _) ⟨k101 + 1, zs119, hd122, rfl, (by rw [hn116]; exact hm), hle113, rfl, rfl⟩) (List.Perm.refl _) ⟨rfl, rfl, rfl, (congrArg (fun z => some (Value.int .i64 z)) (i64_succN hy120 (toNat_max (len_max (h0).lenMax)))), trivial⟩
  · obtain rfl := rngN_f hd121 hb123
    have hm : (some (-1)) = some r := hm
    refine C_exit (E_exit_then ?_)
    refine E_exit_then ?_
    refine E_exit_hit ?_
    refine E_then ?_
    refine C_seq ?_
    refine C_region ?_
    refine W_assign rfl rfl rfl ?_
    refine W_end ?_
    refine E_then ?_
    refine C_ret ?_
    obtain rfl := Option.some.inj hm
    refine E_weak hle113 ?_
    exact end1 rfl rfl ⟨rfl, rfl, rfl⟩

theorem m_slices_Contains_int_int_c {B : Nat} {w0 w : World} {H : Hp} {M : List Res} {p0_s : (List Int)} {p1_v : Int} {v0 : Value} {r : Bool} (hm : m_slices_Contains_int_int p0_s p1_v = some r) (h0 : RdS H v0 p0_s) (ht : St B w0 H (M) w) :
    Calls Proofs.Tryd.prog 24 [v0, .int .i64 (p1_v)].toArray w (Ret B w0 fun H' M' v => H = H' ∧ M = M' ∧ .bool (r) = v) := by
  unfold m_slices_Contains_int_int at hm
  refine enter Proofs.Tryd.func24 rfl rfl rfl ht ?_
  refine C_seq ?_
  refine C_region ?_
  refine W_assign rfl rfl rfl ?_
  refine W_end ?_
  refine E_then ?_
  refine C_seq ?_
  refine C_region ?_
  refine W_move rfl rfl rfl ?_
  refine W_move rfl rfl rfl ?_
  obtain ⟨r101, hc102, hm⟩ := bind_some hm
  refine W_call Proofs.Tryd.call33 rfl rfl rfl (fun w ht => by have h := m_slices_Index_int_int_c (hm := hc102) h0 ht; exact h) ?_
  rintro _ _ _ ⟨rfl, rfl, rfl⟩
  refine W_bin rfl rfl rfl rfl rfl ?_
  refine W_assign rfl rfl rfl ?_
  refine W_end ?_
  refine E_then ?_
  refine C_ret ?_
  obtain rfl := Option.some.inj hm
  refine E_weak (Hp.le_refl _) ?_
  exact end1 rfl rfl ⟨rfl, rfl, rfl⟩

theorem m_interlock_text_1_c {self : (List S_api_InterlockNode) → Int → Option (ByteArray)} (ih : ∀ {B : Nat} {w0 w : World} {H : Hp} {M : List Res} {p0_l : (List S_api_InterlockNode)} {p1_at : Int} {v0 : Value} {r : ByteArray} (hm : self p0_l p1_at = some r) (h0 : RdS H v0 p0_l) (ht : St B w0 H (M) w), Calls Proofs.Tryd.prog 9 [v0, .int .i64 (p1_at)].toArray w (Ret B w0 fun H' M' v => H = H' ∧ M = M' ∧ .string (r) = v)) {B : Nat} {w0 w : World} {H : Hp} {M : List Res} {p0_k : Int} {kinds : (List Int)} {p2_c2 : (List S_api_InterlockNode)} {v0 : Value} {b0 : Nat} {v1 : Value} {r : ByteArray} (hm : m_interlock_text_1 self p0_k kinds p2_c2 = some r) (h0 : RdS H v0 kinds) (h1 : RdS H v1 p2_c2) (ht : St B w0 H (.obj b0 (.cells [v1].toArray 32 (0, 0)) :: M) w) :
    Calls Proofs.Tryd.prog 23 [.int .i64 (p0_k), v0, .pointer (some ⟨b0, 0, none⟩)].toArray w (Ret B w0 fun H' M' v => H = H' ∧ .obj b0 (.cells [v1].toArray 32 (0, 0)) :: M = M' ∧ .string (r) = v) := by
  unfold m_interlock_text_1 at hm
  refine enter Proofs.Tryd.func23 rfl rfl rfl ht ?_
  refine C_seq ?_
  refine C_region ?_
  refine W_assign rfl rfl rfl ?_
  refine W_end ?_
  refine E_then ?_
  refine C_seq ?_
  refine C_region ?_
  refine W_load rfl rfl Proofs.Tryd.isAgg32 rfl (own_at (List.mem_cons_self ..) rfl) ?_
  refine W_move rfl rfl rfl ?_
  obtain ⟨r101, hc102, hm⟩ := bind_some hm
  refine W_call Proofs.Tryd.call9 rfl rfl rfl (fun w ht => by have h := ih (hm := hc102) h1 ht; exact h) ?_
  rintro _ _ _ ⟨rfl, rfl, rfl⟩
  refine W_assign rfl rfl rfl ?_
  refine W_end ?_
  refine E_then ?_
  refine C_seq ?_
  refine C_seq ?_
  refine C_region ?_
  refine W_move rfl rfl rfl ?_
  refine W_load rfl rfl Proofs.Tryd.isAgg32 rfl (own_at (List.mem_cons_self ..) rfl) ?_
  refine W_move rfl rfl rfl ?_
  obtain ⟨y103, h104, he105, hm⟩ := idx_some hm
  obtain ⟨_, ⟨rfl⟩, hc106⟩ := (h1).elem he105
  refine W_indexS rfl rfl Proofs.Tryd.runUnderlying32 Proofs.Tryd.sizeOf49 rfl h1 rfl h104 he105 ?_
  refine W_field (o := 0) rfl rfl Proofs.Tryd.runUnderlying49 rfl Proofs.Tryd.sizeOf3 rfl rfl rfl ?_
  refine W_load rfl rfl Proofs.Tryd.isAgg3 rfl (HCells.one hc106 0 rfl).at ?_
  obtain ⟨r107, hc108, hm⟩ := bind_some hm
  refine W_call Proofs.Tryd.call24 rfl rfl rfl (fun w ht => by have h := m_slices_Contains_int_int_c (hm := hc108) h0 ht; exact h) ?_
  rintro _ _ _ ⟨rfl, rfl, rfl⟩
  refine W_end ?_
  refine E_then ?_
  refine C_cond (b := r107) rfl (fun hb109 => ?_) (fun hb109 => ?_)
  · have hm := ite_t' hb109 hm
    refine C_seq ?_
    refine C_region ?_
    refine W_move rfl rfl rfl ?_
    obtain ⟨hq110, hm⟩ := need_some hm
    refine W_addStr rfl rfl rfl rfl hq110 ?_
    obtain ⟨hq111, hm⟩ := need_some hm
    refine W_addStr rfl rfl rfl rfl hq111 ?_
    refine W_assign rfl rfl rfl ?_
    refine W_end ?_
    refine E_then ?_
    refine C_ret ?_
    refine E_ret_then ?_
    obtain rfl := Option.some.inj hm
    refine E_weak (Hp.le_refl _) ?_
    exact end1 rfl rfl ⟨rfl, rfl, rfl⟩
  · have hm := ite_f' hb109 hm
    refine C_skip ?_
    refine E_then ?_
    refine C_seq ?_
    refine C_region ?_
    refine W_move rfl rfl rfl ?_
    refine W_assign rfl rfl rfl ?_
    refine W_end ?_
    refine E_then ?_
    refine C_ret ?_
    obtain rfl := Option.some.inj hm
    refine E_weak (Hp.le_refl _) ?_
    exact end1 rfl rfl ⟨rfl, rfl, rfl⟩

theorem m_interlock_text_step_c {self : (List S_api_InterlockNode) → Int → Option (ByteArray)} (ih : ∀ {B : Nat} {w0 w : World} {H : Hp} {M : List Res} {p0_l : (List S_api_InterlockNode)} {p1_at : Int} {v0 : Value} {r : ByteArray} (hm : self p0_l p1_at = some r) (h0 : RdS H v0 p0_l) (ht : St B w0 H (M) w),
    Calls Proofs.Tryd.prog 9 [v0, .int .i64 (p1_at)].toArray w (Ret B w0 fun H' M' v => H = H' ∧ M = M' ∧ .string (r) = v)) {B : Nat} {w0 w : World} {H : Hp} {M : List Res} {p0_l : (List S_api_InterlockNode)} {p1_at : Int} {v0 : Value} {r : ByteArray} (hm : m_interlock_text_step self p0_l p1_at = some r) (h0 : RdS H v0 p0_l) (ht : St B w0 H (M) w) :
    Calls Proofs.Tryd.prog 9 [v0, .int .i64 (p1_at)].toArray w (Ret B w0 fun H' M' v => H = H' ∧ M = M' ∧ .string (r) = v) := by
  unfold m_interlock_text_step at hm
  refine enter Proofs.Tryd.func9 rfl rfl rfl ht ?_
  refine C_seq ?_
  refine C_region ?_
  refine W_box (cs := [v0]) rfl rfl rfl (RdS.cells h0) (fun b101 => ?_)
  refine W_assign rfl rfl rfl ?_
  refine W_end ?_
  refine E_then ?_
  refine C_seq ?_
  refine C_region ?_
  refine W_load rfl rfl Proofs.Tryd.isAgg32 rfl (own_at (List.mem_cons_self ..) rfl) ?_
  refine W_move rfl rfl rfl ?_
  obtain ⟨y102, h103, he104, hm⟩ := idx_some hm
  obtain ⟨_, ⟨rfl⟩, hc105⟩ := (h0).elem he104
  refine W_indexS rfl rfl Proofs.Tryd.runUnderlying32 Proofs.Tryd.sizeOf49 rfl h0 rfl h103 he104 ?_
  refine W_loadAgg rfl rfl Proofs.Tryd.isAgg49 Proofs.Tryd.sizeOf49 rfl hc105.at rfl ?_
  refine W_alloc (cs := [.int .i64 (0), .string (⟨#[]⟩), .int .i64 (0), .int .i64 (0)]) rfl rfl Proofs.Tryd.zeroValue49 rfl (fun b106 => ?_)
  refine W_store (cs := [.int .i64 (y102.Kind), .string (y102.Name), .int .i64 (y102.A), .int .i64 (y102.B_)]) (out := [.int .i64 (y102.Kind), .string (y102.Name), .int .i64 (y102.A), .int .i64 (y102.B_)]) rfl Proofs.Tryd.sizeOf49 rfl rfl rfl rfl rfl (all_cons rfl (all_cons rfl (all_cons rfl (all_cons rfl all_nil)))) (over_all rfl) ?_
  refine W_end ?_
  refine E_then ?_
  refine C_seq ?_
  refine C_region ?_
  refine W_makeFunc rfl rfl rfl rfl ?_
  refine W_assign rfl rfl rfl ?_
  refine W_end ?_
  refine E_then ?_
  refine C_seq ?_
  refine C_seq ?_
  refine C_region ?_
  refine W_field (o := 0) rfl rfl Proofs.Tryd.runUnderlying49 rfl Proofs.Tryd.sizeOf3 rfl rfl rfl ?_
  refine W_load rfl rfl Proofs.Tryd.isAgg3 rfl (own_at (List.mem_cons_self ..) rfl) ?_
  refine W_end ?_
  refine E_then ?_
  refine C_block ?_
  refine C_seq ?_
  refine C_region ?_
  refine W_bin rfl rfl rfl rfl rfl ?_
  refine W_assign rfl rfl rfl ?_
  refine W_end ?_
  refine E_then ?_
  refine C_cond (b := decide (y102.Kind = 0)) rfl (fun hb107 => ?_) (fun hb107 => ?_)
  · have hm := ite_t' hb107 hm
    refine C_seq ?_
    refine C_region ?_
    refine W_assign rfl rfl rfl ?_
    refine W_end ?_
    refine E_then ?_
    refine C_ret ?_
    refine E_ret_block ?_
    refine E_ret_then ?_
    obtain rfl := Option.some.inj hm
    refine E_drop (List.Sublist.cons _ (List.Sublist.cons _ (List.Sublist.refl _))) ?_
    refine E_weak (Hp.le_refl _) ?_
    exact end1 rfl rfl ⟨rfl, rfl, rfl⟩
  · have hm := ite_f' hb107 hm
    refine C_seq ?_
    refine C_region ?_
    refine W_bin rfl rfl rfl rfl rfl ?_
    refine W_assign rfl rfl rfl ?_
    refine W_end ?_
    refine E_then ?_
    refine C_cond (b := decide (y102.Kind = 1)) rfl (fun hb108 => ?_) (fun hb108 => ?_)
    · have hm := ite_t' hb108 hm
      refine C_seq ?_
      refine C_region ?_
      refine W_assign rfl rfl rfl ?_
      refine W_end ?_
      refine E_then ?_
      refine C_ret ?_
      refine E_ret_block ?_
      refine E_ret_then ?_
      obtain rfl := Option.some.inj hm
      refine E_drop (List.Sublist.cons _ (List.Sublist.cons _ (List.Sublist.refl _))) ?_
      refine E_weak (Hp.le_refl _) ?_
      exact end1 rfl rfl ⟨rfl, rfl, rfl⟩
    · have hm := ite_f' hb108 hm
      refine C_seq ?_
      refine C_region ?_
      refine W_bin rfl rfl rfl rfl rfl ?_
      refine W_assign rfl rfl rfl ?_
      refine W_end ?_
      refine E_then ?_
      refine C_cond (b := decide (y102.Kind = 2)) rfl (fun hb109 => ?_) (fun hb109 => ?_)
      · have hm := ite_t' hb109 hm
        refine C_seq ?_
        refine C_region ?_
        refine W_field (o := 1) rfl rfl Proofs.Tryd.runUnderlying49 rfl Proofs.Tryd.sizeOf9 rfl rfl rfl ?_
        refine W_load rfl rfl Proofs.Tryd.isAgg9 rfl (own_at (List.mem_cons_self ..) rfl) ?_
        obtain ⟨hq110, hm⟩ := need_some hm
        refine W_addStr rfl rfl rfl rfl hq110 ?_
        refine W_assign rfl rfl rfl ?_
        refine W_end ?_
        refine E_then ?_
        refine C_ret ?_
        refine E_ret_block ?_
        refine E_ret_then ?_
        obtain rfl := Option.some.inj hm
        refine E_drop (List.Sublist.cons _ (List.Sublist.cons _ (List.Sublist.refl _))) ?_
        refine E_weak (Hp.le_refl _) ?_
        exact end1 rfl rfl ⟨rfl, rfl, rfl⟩
      · have hm := ite_f' hb109 hm
        refine C_seq ?_
        refine C_region ?_
        refine W_bin rfl rfl rfl rfl rfl ?_
        refine W_assign rfl rfl rfl ?_
        refine W_end ?_
        refine E_then ?_
        refine C_cond (b := decide (y102.Kind = 3)) rfl (fun hb111 => ?_) (fun hb111 => ?_)
        · have hm := ite_t' hb111 hm
          refine C_seq ?_
          refine C_region ?_
          refine W_field (o := 1) rfl rfl Proofs.Tryd.runUnderlying49 rfl Proofs.Tryd.sizeOf9 rfl rfl rfl ?_
          refine W_load rfl rfl Proofs.Tryd.isAgg9 rfl (own_at (List.mem_cons_self ..) rfl) ?_
          obtain ⟨hq112, hm⟩ := need_some hm
          refine W_addStr rfl rfl rfl rfl hq112 ?_
          refine W_assign rfl rfl rfl ?_
          refine W_end ?_
          refine E_then ?_
          refine C_ret ?_
          refine E_ret_block ?_
          refine E_ret_then ?_
          obtain rfl := Option.some.inj hm
          refine E_drop (List.Sublist.cons _ (List.Sublist.cons _ (List.Sublist.refl _))) ?_
          refine E_weak (Hp.le_refl _) ?_
          exact end1 rfl rfl ⟨rfl, rfl, rfl⟩
        · have hm := ite_f' hb111 hm
          refine C_seq ?_
          refine C_region ?_
          refine W_bin rfl rfl rfl rfl rfl ?_
          refine W_assign rfl rfl rfl ?_
          refine W_end ?_
          refine E_then ?_
          refine C_cond (b := decide (y102.Kind = 4)) rfl (fun hb113 => ?_) (fun hb113 => ?_)
          · have hm := ite_t' hb113 hm
            refine C_seq ?_
            refine C_region ?_
            refine W_move rfl rfl rfl ?_
            refine W_field (o := 2) rfl rfl Proofs.Tryd.runUnderlying49 rfl Proofs.Tryd.sizeOf3 rfl rfl rfl ?_
            refine W_load rfl rfl Proofs.Tryd.isAgg3 rfl (own_at (List.mem_cons_self ..) rfl) ?_
            refine W_buildSliceO (α := Int) (css := [[.int .i64 (5)], [.int .i64 (6)]]) (zs := [.int .i64 (0), .int .i64 (0)]) (out := [.int .i64 (5), .int .i64 (6)]) (ys := ([5, 6] : List Int)) rfl rfl rfl ⟨rfl, rfl, trivial⟩ Proofs.Tryd.runUnderlying51 Proofs.Tryd.sizeOf3 rfl Proofs.Tryd.zeroValue3 (by kernel_rfl) rfl rfl rfl rfl ⟨[.int .i64 (5)], [.int .i64 (6)], rfl, rfl, ⟨[.int .i64 (6)], [], rfl, rfl, rfl⟩⟩ rfl ?_
            intro v114 xs115 hr116
            refine W_perm (List.Perm.cons _ (List.Perm.swap _ _ _)) ?_
            obtain ⟨r117, hc118, hm⟩ := bind_some hm
            refine W_callv Proofs.Tryd.call23 rfl rfl rfl rfl (fun w ht => by obtain ⟨H0_, hl0_, ht0_, hr0_, bk0_⟩ := ht.lendRow hr116 rfl; have h := m_interlock_text_1_c (self := self) ih (hm := hc118) hr0_ (h0.mono hl0_) ht0_; exact lend_back bk0_ (h)) ?_
            rintro _ _ _ ⟨rfl, ⟨_, rfl, rfl, rfl⟩⟩
            obtain ⟨hq119, hm⟩ := need_some hm
            refine W_addStr rfl rfl rfl rfl hq119 ?_
            refine W_assign rfl rfl rfl ?_
            refine W_end ?_
            refine E_then ?_
            refine C_ret ?_
            refine E_ret_block ?_
            refine E_ret_then ?_
            obtain rfl := Option.some.inj hm
            refine E_drop (List.Sublist.cons _ (List.Sublist.cons _ (List.Sublist.cons _ (List.Sublist.refl _)))) ?_
            refine E_weak (Hp.le_refl _) ?_
            exact end1 rfl rfl ⟨rfl, rfl, rfl⟩
          · have hm := ite_f' hb113 hm
            refine C_seq ?_
            refine C_region ?_
            refine W_bin rfl rfl rfl rfl rfl ?_
            refine W_assign rfl rfl rfl ?_
            refine W_end ?_
            refine E_then ?_
            refine C_cond (b := decide (y102.Kind = 5)) rfl (fun hb120 => ?_) (fun hb120 => ?_)
            · have hm := ite_t' hb120 hm
              refine C_seq ?_
              obtain ⟨r124, hc125, hm⟩ := bind_some hm
              obtain ⟨hq126, hm⟩ := need_some hm
              obtain ⟨r130, hc131, hm⟩ := bind_some hm
              refine C_perm (List.Perm.swap _ _ _) ?_
              refine C_as (M' := [[.obj b101 (.cells [v0].toArray 32 (0, 0))]].flatten ++ (.obj b106 (.cells [.int .i64 (y102.Kind), .string (y102.Name), .int .i64 (y102.A), .int .i64 (y102.B_)].toArray 49 (0, 0)) :: M)) rfl ?_
              refine C_region_tok0 11 (phiT [(fun H rs v => [] = rs ∧ .func (.func 23) [].toArray [.pointer (some ⟨b101, 0, none⟩)].toArray = v), (fun H rs v => [] = rs ∧ .pointer (some ⟨b106, 2, none⟩) = v), (fun H rs v => [] = rs ∧ .int .i64 (y102.A) = v), (fun H rs v => ∃ v132 : Value, ∃ xs133 : List Value, [.row v132 3 (Rep.sz Int) ([6] : List Int).length xs133] = rs ∧ v132 = v ∧ Rw H v132 xs133 ([6] : List Int)), (fun H rs v => ∃ v132 : Value, ∃ xs133 : List Value, [.row v132 3 (Rep.sz Int) ([6] : List Int).length xs133, .obj b101 (.cells [v0].toArray 32 (0, 0))] = rs ∧ .string (r124) = v ∧ Rw H v132 xs133 ([6] : List Int)), (fun H rs v => [] = rs ∧ .string (r124 ++ (⟨#[32, 97, 110, 100, 32]⟩)) = v), (fun H rs v => [] = rs ∧ .func (.func 23) [].toArray [.pointer (some ⟨b101, 0, none⟩)].toArray = v), (fun H rs v => [] = rs ∧ .pointer (some ⟨b106, 3, none⟩) = v), (fun H rs v => [] = rs ∧ .int .i64 (y102.B_) = v), (fun H rs v => ∃ v135 : Value, ∃ xs136 : List Value, [.row v135 3 (Rep.sz Int) ([5, 6] : List Int).length xs136] = rs ∧ v135 = v ∧ Rw H v135 xs136 ([5, 6] : List Int)), (fun H rs v => ∃ v132 : Value, ∃ xs133 : List Value, ∃ v135 : Value, ∃ xs136 : List Value, [.row v135 3 (Rep.sz Int) ([5, 6] : List Int).length xs136, .obj b101 (.cells [v0].toArray 32 (0, 0)), .row v132 3 (Rep.sz Int) ([6] : List Int).length xs133] = rs ∧ .string (r130) = v ∧ Rw H v132 xs133 ([6] : List Int) ∧ Rw H v135 xs136 ([5, 6] : List Int))]) [[], [], [], [], [11, 3], [], [], [], [], [], [4, 9]] [[], [], [], [], [], [], [], [], [], [], []] [[.obj b101 (.cells [v0].toArray 32 (0, 0))]] [0, 1, 2, 5, 6, 7, 8, 10] Facts.mixed (by kernel_rfl) rfl rfl rfl (by kernel_rfl) (phiT_mono ⟨eq_monoT _ _, eq_monoT _ _, eq_monoT _ _, (by rintro H1 H2 rs v hle ⟨v132, xs133, rfl, rfl, hr134⟩; exact ⟨v132, xs133, rfl, rfl, (hr134.mono hle)⟩), (by rintro H1 H2 rs v hle ⟨v132, xs133, rfl, rfl, hr134⟩; exact ⟨v132, xs133, rfl, rfl, (hr134.mono hle)⟩), eq_monoT _ _, eq_monoT _ _, eq_monoT _ _, eq_monoT _ _, (by rintro H1 H2 rs v hle ⟨v135, xs136, rfl, rfl, hr137⟩; exact ⟨v135, xs136, rfl, rfl, (hr137.mono hle)⟩), (by rintro H1 H2 rs v hle ⟨v132, xs133, v135, xs136, rfl, rfl, hr134, hr137⟩; exact ⟨v132, xs133, v135, xs136, rfl, rfl, (hr134.mono hle), (hr137.mono hle)⟩), trivial⟩) ⟨?_, ?_, ?_, ?_, ?_, ?_, ?_, ?_, ?_, ?_, ?_, trivial⟩ ?_
              · intro HX hX X Rest hR
                intro hU hUp
                refine W_move rfl rfl rfl ?_
                exact W_end (OneT_end [] (Hp.le_refl _) ⟨rfl, rfl⟩)
              · intro HX hX X Rest hR
                intro hU hUp
                refine W_field (o := 2) rfl rfl Proofs.Tryd.runUnderlying49 rfl Proofs.Tryd.sizeOf3 rfl rfl rfl ?_
                exact W_end (OneT_end [] (Hp.le_refl _) ⟨rfl, rfl⟩)
              · intro HX hX X Rest hR
                rintro _ _ ⟨rfl, rfl⟩
                intro hU hUp
                refine W_load rfl rfl Proofs.Tryd.isAgg3 rfl (own_at (hR _ (List.mem_cons_self ..)) rfl) ?_
                exact W_end (OneT_end [] (Hp.le_refl _) ⟨rfl, rfl⟩)
              · intro HX hX X Rest hR
                intro hU hUp
                refine W_buildSliceO (α := Int) (css := [[.int .i64 (6)]]) (zs := [.int .i64 (0)]) (out := [.int .i64 (6)]) (ys := ([6] : List Int)) rfl rfl rfl ⟨rfl, trivial⟩ Proofs.Tryd.runUnderlying51 Proofs.Tryd.sizeOf3 rfl Proofs.Tryd.zeroValue3 (by kernel_rfl) rfl rfl rfl rfl ⟨[.int .i64 (6)], [], rfl, rfl, rfl⟩ rfl ?_
                intro v132 xs133 hr134
                exact W_end (OneT_end [.row v132 3 (Rep.sz Int) ([6] : List Int).length xs133] (Hp.le_refl _) ⟨v132, xs133, rfl, rfl, (hr134)⟩)
              · intro HX hX X Rest hR
                rintro _ _ ⟨rfl, rfl⟩
                rintro _ _ ⟨rfl, rfl⟩
                rintro _ _ ⟨v132, xs133, rfl, rfl, hr134⟩
                intro hU hUp
                refine W_as (M' := .obj b101 (.cells [v0].toArray 32 (0, 0)) :: .row v132 3 (Rep.sz Int) ([6] : List Int).length xs133 :: Rest) rfl ?_
                refine W_perm (List.Perm.swap _ _ _) ?_
                refine W_callv Proofs.Tryd.call23 rfl rfl rfl rfl (fun w ht => by obtain ⟨H0_, hl0_, ht0_, hr0_, bk0_⟩ := ht.lendRow hr134 rfl; have h := m_interlock_text_1_c (self := self) ih (hm := hc125) hr0_ ((h0.mono hX).mono hl0_) ht0_; exact lend_back bk0_ (h)) ?_
                rintro _ _ _ ⟨rfl, ⟨_, rfl, rfl, rfl⟩⟩
                exact W_end (OneT_end [.row v132 3 (Rep.sz Int) ([6] : List Int).length xs133, .obj b101 (.cells [v0].toArray 32 (0, 0))] (Hp.le_refl _) ⟨v132, xs133, rfl, rfl, (hr134)⟩)
              · intro HX hX X Rest hR
                rintro _ _ ⟨v132, xs133, rfl, rfl, hr134⟩
                intro hU hUp
                refine W_addStr rfl rfl rfl rfl hq126 ?_
                exact W_end (OneT_end [] (Hp.le_refl _) ⟨rfl, rfl⟩)
              · intro HX hX X Rest hR
                intro hU hUp
                refine W_move rfl rfl rfl ?_
                exact W_end (OneT_end [] (Hp.le_refl _) ⟨rfl, rfl⟩)
              · intro HX hX X Rest hR
                intro hU hUp
                refine W_field (o := 3) rfl rfl Proofs.Tryd.runUnderlying49 rfl Proofs.Tryd.sizeOf3 rfl rfl rfl ?_
                exact W_end (OneT_end [] (Hp.le_refl _) ⟨rfl, rfl⟩)
              · intro HX hX X Rest hR
                rintro _ _ ⟨rfl, rfl⟩
                intro hU hUp
                refine W_load rfl rfl Proofs.Tryd.isAgg3 rfl (own_at (hR _ (List.mem_cons_self ..)) rfl) ?_
                exact W_end (OneT_end [] (Hp.le_refl _) ⟨rfl, rfl⟩)
              · intro HX hX X Rest hR
                intro hU hUp
                refine W_buildSliceO (α := Int) (css := [[.int .i64 (5)], [.int .i64 (6)]]) (zs := [.int .i64 (0), .int .i64 (0)]) (out := [.int .i64 (5), .int .i64 (6)]) (ys := ([5, 6] : List Int)) rfl rfl rfl ⟨rfl, rfl, trivial⟩ Proofs.Tryd.runUnderlying51 Proofs.Tryd.sizeOf3 rfl Proofs.Tryd.zeroValue3 (by kernel_rfl) rfl rfl rfl rfl ⟨[.int .i64 (5)], [.int .i64 (6)], rfl, rfl, ⟨[.int .i64 (6)], [], rfl, rfl, rfl⟩⟩ rfl ?_
                intro v135 xs136 hr137
                exact W_end (OneT_end [.row v135 3 (Rep.sz Int) ([5, 6] : List Int).length xs136] (Hp.le_refl _) ⟨v135, xs136, rfl, rfl, (hr137)⟩)
              · intro HX hX X Rest hR
                rintro _ _ ⟨rfl, rfl⟩
                rintro _ _ ⟨rfl, rfl⟩
                rintro _ _ ⟨v135, xs136, rfl, rfl, hr137⟩
                rintro _ _ ⟨v132, xs133, rfl, rfl, hr134⟩
                intro hU hUp
                refine W_as (M' := .row v132 3 (Rep.sz Int) ([6] : List Int).length xs133 :: .obj b101 (.cells [v0].toArray 32 (0, 0)) :: .row v135 3 (Rep.sz Int) ([5, 6] : List Int).length xs136 :: Rest) rfl ?_
                refine W_perm (List.Perm.trans (List.Perm.cons _ (List.Perm.swap _ _ _)) (List.Perm.trans (List.Perm.swap _ _ _) (List.Perm.cons _ (List.Perm.swap _ _ _)))) ?_
                refine W_callv Proofs.Tryd.call23 rfl rfl rfl rfl (fun w ht => by obtain ⟨H0_, hl0_, ht0_, hr0_, bk0_⟩ := ht.lendRow hr137 rfl; have h := m_interlock_text_1_c (self := self) ih (hm := hc131) hr0_ ((h0.mono hX).mono hl0_) ht0_; exact lend_back bk0_ (h)) ?_
                rintro _ _ _ ⟨rfl, ⟨_, rfl, rfl, rfl⟩⟩
                exact W_end (OneT_end [.row v135 3 (Rep.sz Int) ([5, 6] : List Int).length xs136, .obj b101 (.cells [v0].toArray 32 (0, 0)), .row v132 3 (Rep.sz Int) ([6] : List Int).length xs133] (Hp.le_refl _) ⟨v132, xs133, v135, xs136, rfl, rfl, (hr134), (hr137)⟩)
              intro H138 hle139
              rintro _ _ ⟨rfl, rfl⟩
              rintro _ _ ⟨rfl, rfl⟩
              rintro _ _ ⟨rfl, rfl⟩
              rintro _ _ ⟨v132, xs133, rfl, rfl, hr134⟩
              rintro _ _ ⟨v132, xs133, rfl, rfl, hr134⟩
              rintro _ _ ⟨rfl, rfl⟩
              rintro _ _ ⟨rfl, rfl⟩
              rintro _ _ ⟨rfl, rfl⟩
              rintro _ _ ⟨rfl, rfl⟩
              rintro _ _ ⟨v135, xs136, rfl, rfl, hr137⟩
              rintro _ _ ⟨v132, xs133, v135, xs136, rfl, rfl, hr134, hr137⟩
              refine W_as (M' := .row v135 3 (Rep.sz Int) ([5, 6] : List Int).length xs136 :: .obj b101 (.cells [v0].toArray 32 (0, 0)) :: .row v132 3 (Rep.sz Int) ([6] : List Int).length xs133 :: .obj b106 (.cells [.int .i64 (y102.Kind), .string (y102.Name), .int .i64 (y102.A), .int .i64 (y102.B_)].toArray 49 (0, 0)) :: M) rfl ?_
              obtain ⟨hq140, hm⟩ := need_some hm
              refine W_addStr rfl rfl rfl rfl hq140 ?_
              refine W_assign rfl rfl rfl ?_
              refine W_end ?_
              refine E_then ?_
              refine C_ret ?_
              refine E_ret_block ?_
              refine E_ret_then ?_
              obtain rfl := Option.some.inj hm
              refine E_drop (List.Sublist.cons _ (List.Sublist.cons _ (List.Sublist.cons _ (List.Sublist.cons _ (List.Sublist.refl _))))) ?_
              refine E_weak hle139 ?_
              exact end1 rfl rfl ⟨rfl, rfl, rfl⟩
            · have hm := ite_f' hb120 hm
              refine C_skip ?_
              refine E_normal_block ?_
              refine E_then ?_
              refine C_seq ?_
              obtain ⟨r141, hc142, hm⟩ := bind_some hm
              obtain ⟨hq143, hm⟩ := need_some hm
              obtain ⟨r147, hc148, hm⟩ := bind_some hm
              refine C_perm (List.Perm.swap _ _ _) ?_
              refine C_as (M' := [[.obj b101 (.cells [v0].toArray 32 (0, 0))]].flatten ++ (.obj b106 (.cells [.int .i64 (y102.Kind), .string (y102.Name), .int .i64 (y102.A), .int .i64 (y102.B_)].toArray 49 (0, 0)) :: M)) rfl ?_
              refine C_region_tok0 10 (phiT [(fun H rs v => [] = rs ∧ .func (.func 23) [].toArray [.pointer (some ⟨b101, 0, none⟩)].toArray = v), (fun H rs v => [] = rs ∧ .pointer (some ⟨b106, 2, none⟩) = v), (fun H rs v => [] = rs ∧ .int .i64 (y102.A) = v), (fun H rs v => [.obj b101 (.cells [v0].toArray 32 (0, 0))] = rs ∧ .string (r141) = v), (fun H rs v => [] = rs ∧ .string (r141 ++ (⟨#[32, 111, 114, 32]⟩)) = v), (fun H rs v => [] = rs ∧ .func (.func 23) [].toArray [.pointer (some ⟨b101, 0, none⟩)].toArray = v), (fun H rs v => [] = rs ∧ .pointer (some ⟨b106, 3, none⟩) = v), (fun H rs v => [] = rs ∧ .int .i64 (y102.B_) = v), (fun H rs v => ∃ v149 : Value, ∃ xs150 : List Value, [.row v149 3 (Rep.sz Int) ([6] : List Int).length xs150] = rs ∧ v149 = v ∧ Rw H v149 xs150 ([6] : List Int)), (fun H rs v => ∃ v149 : Value, ∃ xs150 : List Value, [.row v149 3 (Rep.sz Int) ([6] : List Int).length xs150, .obj b101 (.cells [v0].toArray 32 (0, 0))] = rs ∧ .string (r147) = v ∧ Rw H v149 xs150 ([6] : List Int))]) [[], [], [], [10], [], [], [], [], [], [3, 8]] [[], [], [], [], [], [], [], [], [], []] [[.obj b101 (.cells [v0].toArray 32 (0, 0))]] [0, 1, 2, 4, 5, 6, 7, 9] Facts.mixed (by kernel_rfl) rfl rfl rfl (by kernel_rfl) (phiT_mono ⟨eq_monoT _ _, eq_monoT _ _, eq_monoT _ _, eq_monoT _ _, eq_monoT _ _, eq_monoT _ _, eq_monoT _ _, eq_monoT _ _, (by rintro H1 H2 rs v hle ⟨v149, xs150, rfl, rfl, hr151⟩; exact ⟨v149, xs150, rfl, rfl, (hr151.mono hle)⟩), (by rintro H1 H2 rs v hle ⟨v149, xs150, rfl, rfl, hr151⟩; exact ⟨v149, xs150, rfl, rfl, (hr151.mono hle)⟩), trivial⟩) ⟨?_, ?_, ?_, ?_, ?_, ?_, ?_, ?_, ?_, ?_, trivial⟩ ?_
              · intro HX hX X Rest hR
                intro hU hUp
                refine W_move rfl rfl rfl ?_
                exact W_end (OneT_end [] (Hp.le_refl _) ⟨rfl, rfl⟩)
              · intro HX hX X Rest hR
                intro hU hUp
                refine W_field (o := 2) rfl rfl Proofs.Tryd.runUnderlying49 rfl Proofs.Tryd.sizeOf3 rfl rfl rfl ?_
                exact W_end (OneT_end [] (Hp.le_refl _) ⟨rfl, rfl⟩)
              · intro HX hX X Rest hR
                rintro _ _ ⟨rfl, rfl⟩
                intro hU hUp
                refine W_load rfl rfl Proofs.Tryd.isAgg3 rfl (own_at (hR _ (List.mem_cons_self ..)) rfl) ?_
                exact W_end (OneT_end [] (Hp.le_refl _) ⟨rfl, rfl⟩)
              · intro HX hX X Rest hR
                rintro _ _ ⟨rfl, rfl⟩
                rintro _ _ ⟨rfl, rfl⟩
                intro hU hUp
                refine W_as (M' := .obj b101 (.cells [v0].toArray 32 (0, 0)) :: Rest) rfl ?_
                refine W_callv Proofs.Tryd.call23 rfl rfl rfl rfl (fun w ht => by have h := m_interlock_text_1_c (self := self) ih (hm := hc142) RdS.nil (h0.mono hX) ht; exact h) ?_
                rintro _ _ _ ⟨rfl, rfl, rfl⟩
                exact W_end (OneT_end [.obj b101 (.cells [v0].toArray 32 (0, 0))] (Hp.le_refl _) ⟨rfl, rfl⟩)
              · intro HX hX X Rest hR
                rintro _ _ ⟨rfl, rfl⟩
                intro hU hUp
                refine W_addStr rfl rfl rfl rfl hq143 ?_
                exact W_end (OneT_end [] (Hp.le_refl _) ⟨rfl, rfl⟩)
              · intro HX hX X Rest hR
                intro hU hUp
                refine W_move rfl rfl rfl ?_
                exact W_end (OneT_end [] (Hp.le_refl _) ⟨rfl, rfl⟩)
              · intro HX hX X Rest hR
                intro hU hUp
                refine W_field (o := 3) rfl rfl Proofs.Tryd.runUnderlying49 rfl Proofs.Tryd.sizeOf3 rfl rfl rfl ?_
                exact W_end (OneT_end [] (Hp.le_refl _) ⟨rfl, rfl⟩)
              · intro HX hX X Rest hR
                rintro _ _ ⟨rfl, rfl⟩
                intro hU hUp
                refine W_load rfl rfl Proofs.Tryd.isAgg3 rfl (own_at (hR _ (List.mem_cons_self ..)) rfl) ?_
                exact W_end (OneT_end [] (Hp.le_refl _) ⟨rfl, rfl⟩)
              · intro HX hX X Rest hR
                intro hU hUp
                refine W_buildSliceO (α := Int) (css := [[.int .i64 (6)]]) (zs := [.int .i64 (0)]) (out := [.int .i64 (6)]) (ys := ([6] : List Int)) rfl rfl rfl ⟨rfl, trivial⟩ Proofs.Tryd.runUnderlying51 Proofs.Tryd.sizeOf3 rfl Proofs.Tryd.zeroValue3 (by kernel_rfl) rfl rfl rfl rfl ⟨[.int .i64 (6)], [], rfl, rfl, rfl⟩ rfl ?_
                intro v149 xs150 hr151
                exact W_end (OneT_end [.row v149 3 (Rep.sz Int) ([6] : List Int).length xs150] (Hp.le_refl _) ⟨v149, xs150, rfl, rfl, (hr151)⟩)
              · intro HX hX X Rest hR
                rintro _ _ ⟨rfl, rfl⟩
                rintro _ _ ⟨rfl, rfl⟩
                rintro _ _ ⟨v149, xs150, rfl, rfl, hr151⟩
                rintro _ _ ⟨rfl, rfl⟩
                intro hU hUp
                refine W_as (M' := .obj b101 (.cells [v0].toArray 32 (0, 0)) :: .row v149 3 (Rep.sz Int) ([6] : List Int).length xs150 :: Rest) rfl ?_
                refine W_perm (List.Perm.swap _ _ _) ?_
                refine W_callv Proofs.Tryd.call23 rfl rfl rfl rfl (fun w ht => by obtain ⟨H0_, hl0_, ht0_, hr0_, bk0_⟩ := ht.lendRow hr151 rfl; have h := m_interlock_text_1_c (self := self) ih (hm := hc148) hr0_ ((h0.mono hX).mono hl0_) ht0_; exact lend_back bk0_ (h)) ?_
                rintro _ _ _ ⟨rfl, ⟨_, rfl, rfl, rfl⟩⟩
                exact W_end (OneT_end [.row v149 3 (Rep.sz Int) ([6] : List Int).length xs150, .obj b101 (.cells [v0].toArray 32 (0, 0))] (Hp.le_refl _) ⟨v149, xs150, rfl, rfl, (hr151)⟩)
              intro H152 hle153
              rintro _ _ ⟨rfl, rfl⟩
              rintro _ _ ⟨rfl, rfl⟩
              rintro _ _ ⟨rfl, rfl⟩
              rintro _ _ ⟨rfl, rfl⟩
              rintro _ _ ⟨rfl, rfl⟩
              rintro _ _ ⟨rfl, rfl⟩
              rintro _ _ ⟨rfl, rfl⟩
              rintro _ _ ⟨rfl, rfl⟩
              rintro _ _ ⟨v149, xs150, rfl, rfl, hr151⟩
              rintro _ _ ⟨v149, xs150, rfl, rfl, hr151⟩
              refine W_as (M' := .row v149 3 (Rep.sz Int) ([6] : List Int).length xs150 :: .obj b101 (.cells [v0].toArray 32 (0, 0)) :: .obj b106 (.cells [.int .i64 (y102.Kind), .string (y102.Name), .int .i64 (y102.A), .int .i64 (y102.B_)].toArray 49 (0, 0)) :: M) rfl ?_
              obtain ⟨hq154, hm⟩ := need_some hm
              refine W_addStr rfl rfl rfl rfl hq154 ?_
              refine W_assign rfl rfl rfl ?_
              refine W_end ?_
              refine E_then ?_
              refine C_ret ?_
              obtain rfl := Option.some.inj hm
              refine E_drop (List.Sublist.cons _ (List.Sublist.cons _ (List.Sublist.cons _ (List.Sublist.refl _)))) ?_
              refine E_weak hle153 ?_
              exact end1 rfl rfl ⟨rfl, rfl, rfl⟩
theorem m_interlock_text_fuel_c : ∀ (n : Nat) {B : Nat} {w0 w : World} {H : Hp} {M : List Res} {p0_l : (List S_api_InterlockNode)} {p1_at : Int} {v0 : Value} {r : ByteArray} (hm : m_interlock_text_fuel n p0_l p1_at = some r) (h0 : RdS H v0 p0_l) (ht : St B w0 H (M) w),
    Calls Proofs.Tryd.prog 9 [v0, .int .i64 (p1_at)].toArray w (Ret B w0 fun H' M' v => H = H' ∧ M = M' ∧ .string (r) = v)
  | 0 => fun hm => nomatch hm
  | n + 1 => by
    intros; exact m_interlock_text_step_c (self := m_interlock_text_fuel n) (m_interlock_text_fuel_c n) ‹_› ‹_› ‹_›
theorem m_interlock_text_c {B : Nat} {w0 w : World} {H : Hp} {M : List Res} {p0_l : (List S_api_InterlockNode)} {p1_at : Int} {v0 : Value} {r : ByteArray} (hm : m_interlock_text p0_l p1_at = some r) (h0 : RdS H v0 p0_l) (ht : St B w0 H (M) w) :
    Calls Proofs.Tryd.prog 9 [v0, .int .i64 (p1_at)].toArray w (Ret B w0 fun H' M' v => H = H' ∧ M = M' ∧ .string (r) = v) := m_interlock_text_fuel_c FUEL (hm := hm) h0 ht

theorem m_interlock_Print_c {B : Nat} {w0 w : World} {H : Hp} {M : List Res} {p0_l : (List S_api_InterlockRule)} {v0 : Value} {r : ByteArray × Int} (hm : m_interlock_Print p0_l = some r) (h0 : RdS H v0 p0_l) (ht : St B w0 H (M) w) :
    Calls Proofs.Tryd.prog 4 [v0].toArray w (Ret B w0 fun H' M' v => H = H' ∧ M = M' ∧ .tuple #[.string (r.1), .int .i64 (r.2)] = v) := by
  unfold m_interlock_Print at hm
  refine enter Proofs.Tryd.func4 rfl rfl rfl ht ?_
  refine C_seq ?_
  refine C_region ?_
  refine W_assign rfl rfl rfl ?_
  refine W_assign rfl rfl rfl ?_
  refine W_end ?_
  refine E_then ?_
  refine C_seq ?_
  refine C_seq ?_
  refine C_region ?_
  refine W_move rfl rfl rfl ?_
  obtain ⟨r101, hc102, hm⟩ := bind_some hm
  refine W_call Proofs.Tryd.call8 rfl rfl rfl (fun w ht => by have h := m_interlock_Check_c (hm := hc102) h0 ht; exact h) ?_
  rintro _ _ _ ⟨rfl, rfl, rfl⟩
  refine W_assign rfl rfl rfl ?_
  refine W_end ?_
  refine E_then ?_
  refine C_seq ?_
  refine C_region ?_
  refine W_move rfl rfl rfl ?_
  refine W_bin rfl rfl rfl rfl rfl ?_
  refine W_end ?_
  refine E_then ?_
  refine C_cond (b := !decide (r101 = 0)) rfl (fun hb103 => ?_) (fun hb103 => ?_)
  · have hm := ite_t' hb103 hm
    refine C_seq ?_
    refine C_region ?_
    refine W_move rfl rfl rfl ?_
    refine W_assign rfl rfl rfl ?_
    refine W_assign rfl rfl rfl ?_
    refine W_end ?_
    refine E_then ?_
    refine C_ret ?_
    refine E_ret_then ?_
    obtain rfl := Option.some.inj hm
    refine E_weak (Hp.le_refl _) ?_
    exact end2 rfl rfl rfl ⟨rfl, rfl, rfl⟩
  · have hm := ite_f' hb103 hm
    refine C_skip ?_
    refine E_then ?_
    refine C_seq ?_
    refine C_region ?_
    refine W_assign rfl rfl rfl ?_
    refine W_end ?_
    refine E_then ?_
    refine C_seq ?_
    refine C_seq ?_
    refine C_region ?_
    refine W_move rfl rfl rfl ?_
    refine W_lenR rfl rfl Proofs.Tryd.runUnderlying22 rfl h0 ?_
    refine W_move rfl rfl rfl ?_
    refine W_end ?_
    refine E_then ?_
    refine C_block ?_
    refine C_keep (L' := [(5, .string (⟨#[]⟩)), (14, v0), (15, .int .i64 ((p0_l.length : Int))), (16, .int .i64 (((0 : Nat) : Int)))]) ⟨rfl, rfl, rfl, rfl, trivial⟩ (List.Perm.refl _) ?_
    refine C_loop (fun n H' M' L' => ∃ (k104 : Nat) (zs153' : List S_api_InterlockRule), ∃ s145 : ByteArray, (p0_l).drop k104 = zs153' ∧ zs153'.length = n ∧ forI (fun k y s148 n => m_interlock_Print_b3 k y s148 n) (fun s148 => if decide (8192 < (s148.size : Int)) then (some ((⟨#[]⟩), 2)) else (some (s148, 0))) k104 zs153' s145 = some r ∧ H.le H' ∧ M = M' ∧ [(5, .string (s145)), (14, v0), (15, .int .i64 ((p0_l.length : Int))), (16, .int .i64 ((k104 : Int)))] = L') _ ⟨0, _, ⟨#[]⟩, rfl, rfl, hm, (Hp.le_refl _), rfl, rfl⟩ ?_
    rintro _ H146 _ _ ⟨k104, zs153', s145, hd155, rfl, hm, hle147, rfl, rfl⟩
    refine C_seq ?_
    refine C_region ?_
    refine W_bin rfl rfl rfl rfl rfl ?_
    refine W_end (E_then ?_)
    refine C_seq ?_
    refine C_cond (b := decide ((k104 : Int) < (p0_l.length : Int))) rfl (fun hb157 => ?_) (fun hb157 => ?_)
    · obtain ⟨y152, zs153, rfl, hy154, hd156⟩ := rng_t hd155 hb157
      have hm : m_interlock_Print_b3 k104 y152 s145 (forI (fun k y s148 n => m_interlock_Print_b3 k y s148 n) (fun s148 => if decide (8192 < (s148.size : Int)) then (some ((⟨#[]⟩), 2)) else (some (s148, 0))) (k104 + 1) zs153) = some r := hm
      generalize hn150 : forI (fun k y s148 n => m_interlock_Print_b3 k y s148 n) (fun s148 => if decide (8192 < (s148.size : Int)) then (some ((⟨#[]⟩), 2)) else (some (s148, 0))) (k104 + 1) zs153 = nx149 at hm
      unfold m_interlock_Print_b3 at hm
      refine C_skip (E_then ?_)
      refine C_seq ?_
      refine C_block ?_
      refine C_seq ?_
      refine C_region ?_
      obtain ⟨_, ⟨v159, rfl, h160⟩, hc158⟩ := (h0).elem hy154
      refine W_indexS rfl rfl Proofs.Tryd.runUnderlying22 Proofs.Tryd.sizeOf34 rfl (h0.mono hle147) rfl (Int.natCast_nonneg _) hy154 ?_
      refine W_loadAgg rfl rfl Proofs.Tryd.isAgg34 Proofs.Tryd.sizeOf34 rfl (hc158.mono hle147).at rfl ?_
      refine W_alloc (cs := [.bool (false), .string (⟨#[]⟩), .slice none 0 0]) rfl rfl Proofs.Tryd.zeroValue34 rfl (fun b161 => ?_)
      refine W_store (cs := [.bool (y152.Close), .string (y152.Switch), v159]) (out := [.bool (y152.Close), .string (y152.Switch), v159]) rfl Proofs.Tryd.sizeOf34 rfl rfl rfl rfl rfl (all_cons rfl (all_cons rfl (all_cons (RdS.one1 (h160.mono hle147)) all_nil))) (over_all rfl) ?_
      refine W_end ?_
      refine E_then ?_
      refine C_seq ?_
      refine C_region ?_
      refine W_assign rfl rfl rfl ?_
      refine W_end ?_
      refine E_then ?_
      refine C_seq_join (fun H' M' L' => ∃ s163 : ByteArray, m_interlock_Print_b4 s145 nx149 y152 s163 = some r ∧ H146 = H' ∧ .obj b161 (.cells [.bool (y152.Close), .string (y152.Switch), v159].toArray 34 (0, 0)) :: M = M' ∧ [(5, .string (s145)), (7, .pointer (some ⟨b161, 0, none⟩)), (8, .string (s163)), (14, v0), (15, .int .i64 ((p0_l.length : Int))), (16, .int .i64 ((k104 : Int)))] = L') ?_ (fun J164 => ?_)
      · rintro _ _ _ ⟨s163, hm, rfl, rfl, rfl⟩
        unfold m_interlock_Print_b4 at hm
        obtain ⟨hq165, hm⟩ := need_some hm
        obtain ⟨hq166, hm⟩ := need_some hm
        obtain ⟨r167, hc168, hm⟩ := bind_some hm
        obtain ⟨hq169, hm⟩ := need_some hm
        obtain ⟨hq170, hm⟩ := need_some hm
        refine C_region_tok0 15 (phiT [(fun H rs v => [] = rs ∧ .string (s145) = v), (fun H rs v => [] = rs ∧ .string (s163) = v), (fun H rs v => [] = rs ∧ .pointer (some ⟨b161, 1, none⟩) = v), (fun H rs v => [] = rs ∧ .string (y152.Switch) = v), (fun H rs v => [] = rs ∧ .string (s163 ++ y152.Switch) = v), (fun H rs v => [] = rs ∧ .string ((s163 ++ y152.Switch) ++ (⟨#[32, 119, 104, 101, 110, 32]⟩)) = v), (fun H rs v => [] = rs ∧ .pointer (some ⟨b161, 2, none⟩) = v), (fun H rs v => [] = rs ∧ v159 = v), (fun H rs v => [] = rs ∧ .pointer (some ⟨b161, 2, none⟩) = v), (fun H rs v => [] = rs ∧ v159 = v), (fun H rs v => [] = rs ∧ .int .i64 ((y152.Cond.length : Int)) = v), (fun H rs v => [] = rs ∧ .int .i64 (IntKind.i64.wrap ((y152.Cond.length : Int) - 1)) = v), (fun H rs v => [] = rs ∧ .string (r167) = v), (fun H rs v => [] = rs ∧ .string (((s163 ++ y152.Switch) ++ (⟨#[32, 119, 104, 101, 110, 32]⟩)) ++ r167) = v), (fun H rs v => [] = rs ∧ .string ((((s163 ++ y152.Switch) ++ (⟨#[32, 119, 104, 101, 110, 32]⟩)) ++ r167) ++ (⟨#[10]⟩)) = v)]) [[], [], [], [], [], [], [], [], [], [], [], [], [], [], []] [[], [], [], [], [], [], [], [], [], [], [], [], [], [], []] [] [0, 1, 2, 3, 4, 5, 6, 7, 8, 9, 10, 11, 12, 13, 14] Facts.mixed (by kernel_rfl) rfl rfl rfl (by kernel_rfl) (phiT_mono ⟨eq_monoT _ _, eq_monoT _ _, eq_monoT _ _, eq_monoT _ _, eq_monoT _ _, eq_monoT _ _, eq_monoT _ _, eq_monoT _ _, eq_monoT _ _, eq_monoT _ _, eq_monoT _ _, eq_monoT _ _, eq_monoT _ _, eq_monoT _ _, eq_monoT _ _, trivial⟩) ⟨?_, ?_, ?_, ?_, ?_, ?_, ?_, ?_, ?_, ?_, ?_, ?_, ?_, ?_, ?_, trivial⟩ ?_
        · intro HX hX X Rest hR
          intro hU hUp
          refine W_move rfl rfl rfl ?_
          exact W_end (OneT_end [] (Hp.le_refl _) ⟨rfl, rfl⟩)
        · intro HX hX X Rest hR
          intro hU hUp
          refine W_move rfl rfl rfl ?_
          exact W_end (OneT_end [] (Hp.le_refl _) ⟨rfl, rfl⟩)
        · intro HX hX X Rest hR
          intro hU hUp
          refine W_field (o := 1) rfl rfl Proofs.Tryd.runUnderlying34 rfl Proofs.Tryd.sizeOf9 rfl rfl rfl ?_
          exact W_end (OneT_end [] (Hp.le_refl _) ⟨rfl, rfl⟩)
        · intro HX hX X Rest hR
          rintro _ _ ⟨rfl, rfl⟩
          intro hU hUp
          refine W_load rfl rfl Proofs.Tryd.isAgg9 rfl (own_at (hR _ (List.mem_cons_self ..)) rfl) ?_
          exact W_end (OneT_end [] (Hp.le_refl _) ⟨rfl, rfl⟩)
        · intro HX hX X Rest hR
          rintro _ _ ⟨rfl, rfl⟩
          rintro _ _ ⟨rfl, rfl⟩
          intro hU hUp
          refine W_addStr rfl rfl rfl rfl hq165 ?_
          exact W_end (OneT_end [] (Hp.le_refl _) ⟨rfl, rfl⟩)
        · intro HX hX X Rest hR
          rintro _ _ ⟨rfl, rfl⟩
          intro hU hUp
          refine W_addStr rfl rfl rfl rfl hq166 ?_
          exact W_end (OneT_end [] (Hp.le_refl _) ⟨rfl, rfl⟩)
        · intro HX hX X Rest hR
          intro hU hUp
          refine W_field (o := 2) rfl rfl Proofs.Tryd.runUnderlying34 rfl Proofs.Tryd.sizeOf32 rfl rfl rfl ?_
          exact W_end (OneT_end [] (Hp.le_refl _) ⟨rfl, rfl⟩)
        · intro HX hX X Rest hR
          rintro _ _ ⟨rfl, rfl⟩
          intro hU hUp
          refine W_load rfl rfl Proofs.Tryd.isAgg32 rfl (own_at (hR _ (List.mem_cons_self ..)) rfl) ?_
          exact W_end (OneT_end [] (Hp.le_refl _) ⟨rfl, rfl⟩)
        · intro HX hX X Rest hR
          intro hU hUp
          refine W_field (o := 2) rfl rfl Proofs.Tryd.runUnderlying34 rfl Proofs.Tryd.sizeOf32 rfl rfl rfl ?_
          exact W_end (OneT_end [] (Hp.le_refl _) ⟨rfl, rfl⟩)
        · intro HX hX X Rest hR
          rintro _ _ ⟨rfl, rfl⟩
          intro hU hUp
          refine W_load rfl rfl Proofs.Tryd.isAgg32 rfl (own_at (hR _ (List.mem_cons_self ..)) rfl) ?_
          exact W_end (OneT_end [] (Hp.le_refl _) ⟨rfl, rfl⟩)
        · intro HX hX X Rest hR
          rintro _ _ ⟨rfl, rfl⟩
          intro hU hUp
          refine W_lenR rfl rfl Proofs.Tryd.runUnderlying32 rfl ((h160.mono hle147).mono hX) ?_
          exact W_end (OneT_end [] (Hp.le_refl _) ⟨rfl, rfl⟩)
        · intro HX hX X Rest hR
          rintro _ _ ⟨rfl, rfl⟩
          intro hU hUp
          refine W_bin rfl rfl rfl rfl rfl ?_
          exact W_end (OneT_end [] (Hp.le_refl _) ⟨rfl, rfl⟩)
        · intro HX hX X Rest hR
          rintro _ _ ⟨rfl, rfl⟩
          rintro _ _ ⟨rfl, rfl⟩
          intro hU hUp
          refine W_call Proofs.Tryd.call9 rfl rfl rfl (fun w ht => by have h := m_interlock_text_c (hm := hc168) ((h160.mono hle147).mono hX) ht; exact h) ?_
          rintro _ _ _ ⟨rfl, rfl, rfl⟩
          exact W_end (OneT_end [] (Hp.le_refl _) ⟨rfl, rfl⟩)
        · intro HX hX X Rest hR
          rintro _ _ ⟨rfl, rfl⟩
          rintro _ _ ⟨rfl, rfl⟩
          intro hU hUp
          refine W_addStr rfl rfl rfl rfl hq169 ?_
          exact W_end (OneT_end [] (Hp.le_refl _) ⟨rfl, rfl⟩)
        · intro HX hX X Rest hR
          rintro _ _ ⟨rfl, rfl⟩
          intro hU hUp
          refine W_addStr rfl rfl rfl rfl hq170 ?_
          exact W_end (OneT_end [] (Hp.le_refl _) ⟨rfl, rfl⟩)
        intro H171 hle172
        rintro _ _ ⟨rfl, rfl⟩
        rintro _ _ ⟨rfl, rfl⟩
        rintro _ _ ⟨rfl, rfl⟩
        rintro _ _ ⟨rfl, rfl⟩
        rintro _ _ ⟨rfl, rfl⟩
        rintro _ _ ⟨rfl, rfl⟩
        rintro _ _ ⟨rfl, rfl⟩
        rintro _ _ ⟨rfl, rfl⟩
        rintro _ _ ⟨rfl, rfl⟩
        rintro _ _ ⟨rfl, rfl⟩
        rintro _ _ ⟨rfl, rfl⟩
        rintro _ _ ⟨rfl, rfl⟩
        rintro _ _ ⟨rfl, rfl⟩
        rintro _ _ ⟨rfl, rfl⟩
        rintro _ _ ⟨rfl, rfl⟩
        obtain ⟨hq173, hm⟩ := need_some hm
        refine W_addStr rfl rfl rfl rfl hq173 ?_
        refine W_assign rfl rfl rfl ?_
        refine W_end ?_
        refine E_normal_block ?_
        refine E_then ?_
        refine C_region ?_
        refine W_bin rfl rfl rfl rfl rfl ?_
        refine W_move rfl rfl rfl ?_
        refine W_end ?_
        refine E_drop (List.Sublist.cons _ (List.Sublist.refl _)) ?_
        exact E_keepJ (E_back (Nat.lt_succ_self _) ⟨k104 + 1, zs153, s145 ++ ((((s163 ++ y152.Switch) ++ (⟨#[32, 119, 104, 101, 110, 32]⟩)) ++ r167) ++ (⟨#[10]⟩)), hd156, rfl, (by rw [hn150]; exact hm), (Hp.le_trans hle147 hle172), rfl, rfl⟩) (List.Perm.refl _) ⟨rfl, rfl, rfl, (congrArg (fun z => some (Value.int .i64 z)) (i64_succ hy154 ((h0.mono hle147)).lenMax)), trivial⟩
      · refine C_seq ?_
        refine C_region ?_
        refine W_field (o := 0) rfl rfl Proofs.Tryd.runUnderlying34 rfl Proofs.Tryd.sizeOf4 rfl rfl rfl ?_
        refine W_load rfl rfl Proofs.Tryd.isAgg4 rfl (own_at (List.mem_cons_self ..) rfl) ?_
        refine W_end ?_
        refine E_then ?_
        refine C_cond (b := y152.Close) rfl (fun hb174 => ?_) (fun hb174 => ?_)
        · have hm := ite_t' hb174 hm
          refine C_region ?_
          refine W_assign rfl rfl rfl ?_
          refine W_end ?_
          exact E_keepJ (J164 _ _ _ ⟨⟨#[99, 108, 111, 115, 101, 32]⟩, hm, rfl, rfl, rfl⟩) (List.Perm.refl _) ⟨rfl, rfl, rfl, rfl, rfl, rfl, trivial⟩
        · have hm := ite_f' hb174 hm
          refine C_skip ?_
          exact E_keepJ (J164 _ _ _ ⟨⟨#[111, 112, 101, 110, 32]⟩, hm, rfl, rfl, rfl⟩) (List.Perm.refl _) ⟨rfl, rfl, rfl, rfl, rfl, rfl, trivial⟩
    · obtain rfl := rng_f hd155 hb157
      have hm : (if decide (8192 < (s145.size : Int)) then (some ((⟨#[]⟩), 2)) else (some (s145, 0))) = some r := hm
      refine C_exit (E_exit_then ?_)
      refine E_exit_then ?_
      refine E_exit_hit ?_
      refine E_then ?_
      refine C_seq ?_
      refine C_seq ?_
      refine C_region ?_
      refine W_move rfl rfl rfl ?_
      refine W_lenStr rfl rfl Proofs.Tryd.runUnderlying9 rfl ?_
      refine W_bin rfl rfl rfl rfl rfl ?_
      refine W_end ?_
      refine E_then ?_
      refine C_cond (b := decide (8192 < (s145.size : Int))) rfl (fun hb175 => ?_) (fun hb175 => ?_)
      · have hm := ite_t' hb175 hm
        refine C_seq ?_
        refine C_region ?_
        refine W_assign rfl rfl rfl ?_
        refine W_assign rfl rfl rfl ?_
        refine W_end ?_
        refine E_then ?_
        refine C_ret ?_
        refine E_ret_then ?_
        obtain rfl := Option.some.inj hm
        refine E_weak hle147 ?_
        exact end2 rfl rfl rfl ⟨rfl, rfl, rfl⟩
      · have hm := ite_f' hb175 hm
        refine C_skip ?_
        refine E_then ?_
        refine C_seq ?_
        refine C_region ?_
        refine W_move rfl rfl rfl ?_
        refine W_assign rfl rfl rfl ?_
        refine W_assign rfl rfl rfl ?_
        refine W_end ?_
        refine E_then ?_
        refine C_ret ?_
        obtain rfl := Option.some.inj hm
        refine E_weak hle147 ?_
        exact end2 rfl rfl rfl ⟨rfl, rfl, rfl⟩

theorem m_internal_stringslite_HasSuffix_c {B : Nat} {w0 w : World} {H : Hp} {M : List Res} {p0_s : ByteArray} {suffix : ByteArray} {r : Bool} (hm : m_internal_stringslite_HasSuffix p0_s suffix = some r) (ht : St B w0 H (M) w) :
    Calls Proofs.Tryd.prog 27 [.string (p0_s), .string (suffix)].toArray w (Ret B w0 fun H' M' v => H = H' ∧ M = M' ∧ .bool (r) = v) := by
  unfold m_internal_stringslite_HasSuffix at hm
  refine enter Proofs.Tryd.func27 rfl rfl rfl ht ?_
  refine C_seq ?_
  refine C_region ?_
  refine W_assign rfl rfl rfl ?_
  refine W_end ?_
  refine E_then ?_
  refine C_seq ?_
  refine C_region ?_
  refine W_move rfl rfl rfl ?_
  refine W_lenStr rfl rfl Proofs.Tryd.runUnderlying9 rfl ?_
  refine W_move rfl rfl rfl ?_
  refine W_lenStr rfl rfl Proofs.Tryd.runUnderlying9 rfl ?_
  refine W_bin rfl rfl rfl rfl rfl ?_
  refine W_move rfl rfl rfl ?_
  cases hb101 : (decide ((suffix.size : Int) ≤ (p0_s.size : Int)))
  · have hm := ite_f' hb101 hm
    refine W_no rfl rfl rfl ?_
    refine W_no rfl rfl rfl ?_
    refine W_no rfl rfl rfl ?_
    refine W_no rfl rfl rfl ?_
    refine W_no rfl rfl rfl ?_
    refine W_no rfl rfl rfl ?_
    refine W_no rfl rfl rfl ?_
    refine W_no rfl rfl rfl ?_
    refine W_no rfl rfl rfl ?_
    refine W_pick rfl rfl rfl rfl ?_
    refine W_assign rfl rfl rfl ?_
    refine W_end ?_
    refine E_then ?_
    refine C_ret ?_
    obtain rfl := Option.some.inj hm
    refine E_weak (Hp.le_refl _) ?_
    exact end1 rfl rfl ⟨rfl, rfl, rfl⟩
  · have hm := ite_t' hb101 hm
    refine W_move rfl rfl rfl ?_
    refine W_move rfl rfl rfl ?_
    refine W_lenStr rfl rfl Proofs.Tryd.runUnderlying9 rfl ?_
    refine W_move rfl rfl rfl ?_
    refine W_lenStr rfl rfl Proofs.Tryd.runUnderlying9 rfl ?_
    refine W_bin rfl rfl rfl rfl rfl ?_
    obtain ⟨hz102, hm⟩ := need_some hm
    refine W_sliceStr (l := (IntKind.i64.wrap ((p0_s.size : Int) - (suffix.size : Int)) : Int).toNat) (h := p0_s.size) rfl rfl Proofs.Tryd.runUnderlying9 rfl (.inl ⟨rfl, rfl⟩) (.inr ⟨_, _, _, rfl, rfl, by omega, by omega, rfl⟩) ?_
    refine W_move rfl rfl rfl ?_
    refine W_bin rfl rfl rfl rfl rfl ?_
    refine W_pick rfl rfl rfl rfl ?_
    refine W_assign rfl rfl rfl ?_
    refine W_end ?_
    refine E_then ?_
    refine C_ret ?_
    obtain rfl := Option.some.inj hm
    refine E_weak (Hp.le_refl _) ?_
    exact end1 rfl rfl ⟨rfl, rfl, rfl⟩

theorem m_internal_stringslite_TrimSuffix_c {B : Nat} {w0 w : World} {H : Hp} {M : List Res} {p0_s : ByteArray} {suffix : ByteArray} {r : ByteArray} (hm : m_internal_stringslite_TrimSuffix p0_s suffix = some r) (ht : St B w0 H (M) w) :
    Calls Proofs.Tryd.prog 26 [.string (p0_s), .string (suffix)].toArray w (Ret B w0 fun H' M' v => H = H' ∧ M = M' ∧ .string (r) = v) := by
  unfold m_internal_stringslite_TrimSuffix at hm
  refine enter Proofs.Tryd.func26 rfl rfl rfl ht ?_
  refine C_seq ?_
  refine C_region ?_
  refine W_assign rfl rfl rfl ?_
  refine W_end ?_
  refine E_then ?_
  refine C_seq ?_
  refine C_seq ?_
  refine C_region ?_
  refine W_move rfl rfl rfl ?_
  refine W_move rfl rfl rfl ?_
  obtain ⟨r101, hc102, hm⟩ := bind_some hm
  refine W_call Proofs.Tryd.call27 rfl rfl rfl (fun w ht => by have h := m_internal_stringslite_HasSuffix_c (hm := hc102)  ht; exact h) ?_
  rintro _ _ _ ⟨rfl, rfl, rfl⟩
  refine W_end ?_
  refine E_then ?_
  refine C_cond (b := r101) rfl (fun hb103 => ?_) (fun hb103 => ?_)
  · have hm := ite_t' hb103 hm
    refine C_seq ?_
    refine C_region ?_
    refine W_move rfl rfl rfl ?_
    refine W_move rfl rfl rfl ?_
    refine W_lenStr rfl rfl Proofs.Tryd.runUnderlying9 rfl ?_
    refine W_move rfl rfl rfl ?_
    refine W_lenStr rfl rfl Proofs.Tryd.runUnderlying9 rfl ?_
    refine W_bin rfl rfl rfl rfl rfl ?_
    obtain ⟨hz104, hm⟩ := need_some hm
    refine W_sliceStr (l := 0) (h := (IntKind.i64.wrap ((p0_s.size : Int) - (suffix.size : Int)) : Int).toNat) rfl rfl Proofs.Tryd.runUnderlying9 rfl (.inr ⟨_, _, _, rfl, rfl, by omega, by omega, rfl⟩) (.inl ⟨rfl, rfl⟩) ?_
    refine W_assign rfl rfl rfl ?_
    refine W_end ?_
    refine E_then ?_
    refine C_ret ?_
    refine E_ret_then ?_
    obtain rfl := Option.some.inj hm
    refine E_weak (Hp.le_refl _) ?_
    exact end1 rfl rfl ⟨rfl, rfl, rfl⟩
  · have hm := ite_f' hb103 hm
    refine C_skip ?_
    refine E_then ?_
    refine C_seq ?_
    refine C_region ?_
    refine W_move rfl rfl rfl ?_
    refine W_assign rfl rfl rfl ?_
    refine W_end ?_
    refine E_then ?_
    refine C_ret ?_
    obtain rfl := Option.some.inj hm
    refine E_weak (Hp.le_refl _) ?_
    exact end1 rfl rfl ⟨rfl, rfl, rfl⟩

theorem m_strings_TrimSuffix_c {B : Nat} {w0 w : World} {H : Hp} {M : List Res} {p0_s : ByteArray} {suffix : ByteArray} {r : ByteArray} (hm : m_strings_TrimSuffix p0_s suffix = some r) (ht : St B w0 H (M) w) :
    Calls Proofs.Tryd.prog 11 [.string (p0_s), .string (suffix)].toArray w (Ret B w0 fun H' M' v => H = H' ∧ M = M' ∧ .string (r) = v) := by
  unfold m_strings_TrimSuffix at hm
  refine enter Proofs.Tryd.func11 rfl rfl rfl ht ?_
  refine C_seq ?_
  refine C_region ?_
  refine W_assign rfl rfl rfl ?_
  refine W_end ?_
  refine E_then ?_
  refine C_seq ?_
  refine C_region ?_
  refine W_move rfl rfl rfl ?_
  refine W_move rfl rfl rfl ?_
  obtain ⟨r101, hc102, hm⟩ := bind_some hm
  refine W_call Proofs.Tryd.call26 rfl rfl rfl (fun w ht => by have h := m_internal_stringslite_TrimSuffix_c (hm := hc102)  ht; exact h) ?_
  rintro _ _ _ ⟨rfl, rfl, rfl⟩
  refine W_assign rfl rfl rfl ?_
  refine W_end ?_
  refine E_then ?_
  refine C_ret ?_
  obtain rfl := Option.some.inj hm
  refine E_weak (Hp.le_refl _) ?_
  exact end1 rfl rfl ⟨rfl, rfl, rfl⟩

theorem m_internal_stringslite_IndexByte_c {B : Nat} {w0 w : World} {H : Hp} {M : List Res} {p0_s : ByteArray} {p1_c : Int} {r : Int} (hm : m_internal_stringslite_IndexByte p0_s p1_c = r) (ht : St B w0 H (M) w) :
    Calls Proofs.Tryd.prog 46 [.string (p0_s), .int .u8 (p1_c)].toArray w (Ret B w0 fun H' M' v => H = H' ∧ M = M' ∧ .int .i64 (r) = v) := by
  unfold m_internal_stringslite_IndexByte at hm
  refine enter Proofs.Tryd.func46 rfl rfl rfl ht ?_
  refine C_seq ?_
  refine C_region ?_
  refine W_assign rfl rfl rfl ?_
  refine W_end ?_
  refine E_then ?_
  refine C_seq ?_
  refine C_region ?_
  refine W_move rfl rfl rfl ?_
  refine W_move rfl rfl rfl ?_
  refine W_extern (idxB_extern Proofs.Tryd.func50 (by kernel_rfl) (by kernel_rfl) (by kernel_rfl) (by kernel_rfl) _ _) rfl rfl rfl ?_
  refine W_assign rfl rfl rfl ?_
  refine W_end ?_
  refine E_then ?_
  refine C_ret ?_
  obtain rfl := hm
  refine E_weak (Hp.le_refl _) ?_
  exact end1 rfl rfl ⟨rfl, rfl, rfl⟩

theorem m_internal_stringslite_Index_c {B : Nat} {w0 w : World} {H : Hp} {M : List Res} {p0_s : ByteArray} {substr : ByteArray} {r : Int} (hm : m_internal_stringslite_Index p0_s substr = some r) (ht : St B w0 H (M) w) :
    Calls Proofs.Tryd.prog 44 [.string (p0_s), .string (substr)].toArray w (Ret B w0 fun H' M' v => H = H' ∧ M = M' ∧ .int .i64 (r) = v) := by
  unfold m_internal_stringslite_Index at hm
  refine enter Proofs.Tryd.func44 rfl rfl rfl ht ?_
  refine C_seq ?_
  refine C_region ?_
  refine W_assign rfl rfl rfl ?_
  refine W_end ?_
  refine E_then ?_
  refine C_seq ?_
  refine C_region ?_
  refine W_move rfl rfl rfl ?_
  refine W_lenStr rfl rfl Proofs.Tryd.runUnderlying9 rfl ?_
  refine W_assign rfl rfl rfl ?_
  refine W_end ?_
  refine E_then ?_
  refine C_seq ?_
  refine C_block ?_
  refine C_seq_join (fun H' M' L' => H = H' ∧ M = M' ∧ [(0, .string (p0_s)), (1, .string (substr)), (5, .int .i64 ((substr.size : Int))), (16, .bool ((decide ((substr.size : Int) = 0)) || (decide (substr = p0_s))))] = L') ?_ (fun J102 => ?_)
  · rintro _ _ _ ⟨rfl, rfl, rfl⟩
    refine C_cond (b := (decide ((substr.size : Int) = 0)) || (decide (substr = p0_s))) rfl (fun hb103 => ?_) (fun hb103 => ?_)
    · have hm := ite_t' hb103 hm
      refine C_seq ?_
      refine C_region ?_
      refine W_assign rfl rfl rfl ?_
      refine W_end ?_
      refine E_then ?_
      refine C_ret ?_
      refine E_ret_block ?_
      refine E_ret_then ?_
      obtain rfl := Option.some.inj hm
      refine E_weak (Hp.le_refl _) ?_
      exact end1 rfl rfl ⟨rfl, rfl, rfl⟩
    · have hm := ite_f' hb103 hm
      refine C_seq ?_
      refine C_region ?_
      refine W_move rfl rfl rfl ?_
      refine W_bin rfl rfl rfl rfl rfl ?_
      refine W_assign rfl rfl rfl ?_
      refine W_end ?_
      refine E_then ?_
      refine C_cond (b := decide ((substr.size : Int) = 1)) rfl (fun hb104 => ?_) (fun hb104 => ?_)
      · have hm := ite_t' hb104 hm
        refine C_seq ?_
        refine C_region ?_
        refine W_move rfl rfl rfl ?_
        refine W_move rfl rfl rfl ?_
        obtain ⟨y105, h106, he107, hm⟩ := idx_some hm
        refine W_indexStr rfl rfl Proofs.Tryd.runUnderlying9 rfl rfl h106 he107 ?_
        refine W_call Proofs.Tryd.call46 rfl rfl rfl (fun w ht => by have h := m_internal_stringslite_IndexByte_c (hm := (rfl : m_internal_stringslite_IndexByte p0_s y105.n = _))  ht; exact h) ?_
        rintro _ _ _ ⟨rfl, rfl, rfl⟩
        refine W_assign rfl rfl rfl ?_
        refine W_end ?_
        refine E_then ?_
        refine C_ret ?_
        refine E_ret_block ?_
        refine E_ret_then ?_
        obtain rfl := Option.some.inj hm
        refine E_weak (Hp.le_refl _) ?_
        exact end1 rfl rfl ⟨rfl, rfl, rfl⟩
      · have hm := ite_f' hb104 hm
        refine C_seq ?_
        refine C_region ?_
        refine W_move rfl rfl rfl ?_
        refine W_move rfl rfl rfl ?_
        refine W_lenStr rfl rfl Proofs.Tryd.runUnderlying9 rfl ?_
        refine W_bin rfl rfl rfl rfl rfl ?_
        refine W_assign rfl rfl rfl ?_
        refine W_end ?_
        refine E_then ?_
        refine C_cond (b := decide ((p0_s.size : Int) ≤ (substr.size : Int))) rfl (fun hb108 => ?_) (fun hb108 => ?_)
        · have hm := ite_t' hb108 hm
          refine C_seq ?_
          refine C_region ?_
          refine W_assign rfl rfl rfl ?_
          refine W_end ?_
          refine E_then ?_
          refine C_ret ?_
          refine E_ret_block ?_
          refine E_ret_then ?_
          obtain rfl := Option.some.inj hm
          refine E_weak (Hp.le_refl _) ?_
          exact end1 rfl rfl ⟨rfl, rfl, rfl⟩
        · have hm := ite_f' hb108 hm
          refine C_seq ?_
          cases hm
  · refine C_region ?_
    refine W_move rfl rfl rfl ?_
    refine W_bin rfl rfl rfl rfl rfl ?_
    refine W_move rfl rfl rfl ?_
    cases hb109 : (decide ((substr.size : Int) = 0))
    · refine W_move rfl rfl rfl ?_
      refine W_move rfl rfl rfl ?_
      refine W_bin rfl rfl rfl rfl rfl ?_
      refine W_pick rfl rfl rfl rfl ?_
      refine W_assign rfl rfl rfl ?_
      refine W_end ?_
      exact E_keepJ (J102 _ _ _ ⟨rfl, rfl, rfl⟩) (List.Perm.refl _) ⟨rfl, rfl, rfl, (by show some (Value.bool (decide (substr = p0_s))) = some (Value.bool ((decide ((substr.size : Int) = 0)) || (decide (substr = p0_s)))); simp only [hb109, Bool.and_true, Bool.true_and, Bool.false_and, Bool.and_false, Bool.or_true, Bool.true_or, Bool.or_false, Bool.false_or, Bool.not_true, Bool.not_false]), trivial⟩
    · refine W_no rfl rfl rfl ?_
      refine W_no rfl rfl rfl ?_
      refine W_no rfl rfl rfl ?_
      refine W_pick rfl rfl rfl rfl ?_
      refine W_assign rfl rfl rfl ?_
      refine W_end ?_
      exact E_keepJ (J102 _ _ _ ⟨rfl, rfl, rfl⟩) (List.Perm.refl _) ⟨rfl, rfl, rfl, (by show some (Value.bool (true)) = some (Value.bool ((decide ((substr.size : Int) = 0)) || (decide (substr = p0_s)))); simp only [hb109, Bool.and_true, Bool.true_and, Bool.false_and, Bool.and_false, Bool.or_true, Bool.true_or, Bool.or_false, Bool.false_or, Bool.not_true, Bool.not_false]), trivial⟩

theorem m_strings_Index_c {B : Nat} {w0 w : World} {H : Hp} {M : List Res} {p0_s : ByteArray} {substr : ByteArray} {r : Int} (hm : m_strings_Index p0_s substr = some r) (ht : St B w0 H (M) w) :
    Calls Proofs.Tryd.prog 36 [.string (p0_s), .string (substr)].toArray w (Ret B w0 fun H' M' v => H = H' ∧ M = M' ∧ .int .i64 (r) = v) := by
  unfold m_strings_Index at hm
  refine enter Proofs.Tryd.func36 rfl rfl rfl ht ?_
  refine C_seq ?_
  refine C_region ?_
  refine W_assign rfl rfl rfl ?_
  refine W_end ?_
  refine E_then ?_
  refine C_seq ?_
  refine C_region ?_
  refine W_move rfl rfl rfl ?_
  refine W_move rfl rfl rfl ?_
  obtain ⟨r101, hc102, hm⟩ := bind_some hm
  refine W_call Proofs.Tryd.call44 rfl rfl rfl (fun w ht => by have h := m_internal_stringslite_Index_c (hm := hc102)  ht; exact h) ?_
  rintro _ _ _ ⟨rfl, rfl, rfl⟩
  refine W_assign rfl rfl rfl ?_
  refine W_end ?_
  refine E_then ?_
  refine C_ret ?_
  obtain rfl := Option.some.inj hm
  refine E_weak (Hp.le_refl _) ?_
  exact end1 rfl rfl ⟨rfl, rfl, rfl⟩

theorem m_strings_Count_c {B : Nat} {w0 w : World} {H : Hp} {M : List Res} {p0_s : ByteArray} {substr : ByteArray} {r : Int} (hm : m_strings_Count p0_s substr = some r) (ht : St B w0 H (M) w) :
    Calls Proofs.Tryd.prog 35 [.string (p0_s), .string (substr)].toArray w (Ret B w0 fun H' M' v => H = H' ∧ M = M' ∧ .int .i64 (r) = v) := by
  unfold m_strings_Count at hm
  refine enter Proofs.Tryd.func35 rfl rfl rfl ht ?_
  refine C_seq ?_
  refine C_region ?_
  refine W_assign rfl rfl rfl ?_
  refine W_end ?_
  refine E_then ?_
  refine C_seq ?_
  refine C_seq ?_
  refine C_region ?_
  refine W_move rfl rfl rfl ?_
  refine W_lenStr rfl rfl Proofs.Tryd.runUnderlying9 rfl ?_
  refine W_bin rfl rfl rfl rfl rfl ?_
  refine W_end ?_
  refine E_then ?_
  refine C_cond (b := decide ((substr.size : Int) = 0)) rfl (fun hb101 => ?_) (fun hb101 => ?_)
  · have hm := ite_t' hb101 hm
    refine C_seq ?_
    cases hm
  · have hm := ite_f' hb101 hm
    refine C_skip ?_
    refine E_then ?_
    refine C_seq ?_
    refine C_seq ?_
    refine C_region ?_
    refine W_move rfl rfl rfl ?_
    refine W_lenStr rfl rfl Proofs.Tryd.runUnderlying9 rfl ?_
    refine W_bin rfl rfl rfl rfl rfl ?_
    refine W_end ?_
    refine E_then ?_
    refine C_cond (b := decide ((substr.size : Int) = 1)) rfl (fun hb102 => ?_) (fun hb102 => ?_)
    · have hm := ite_t' hb102 hm
      refine C_seq ?_
      refine C_region ?_
      refine W_move rfl rfl rfl ?_
      refine W_move rfl rfl rfl ?_
      obtain ⟨y103, h104, he105, hm⟩ := idx_some hm
      refine W_indexStr rfl rfl Proofs.Tryd.runUnderlying9 rfl rfl h104 he105 ?_
      refine W_extern (cntB_extern Proofs.Tryd.func43 (by kernel_rfl) (by kernel_rfl) (by kernel_rfl) (by kernel_rfl) _ _) rfl rfl rfl ?_
      refine W_assign rfl rfl rfl ?_
      refine W_end ?_
      refine E_then ?_
      refine C_ret ?_
      refine E_ret_then ?_
      obtain rfl := Option.some.inj hm
      refine E_weak (Hp.le_refl _) ?_
      exact end1 rfl rfl ⟨rfl, rfl, rfl⟩
    · have hm := ite_f' hb102 hm
      refine C_skip ?_
      refine E_then ?_
      refine C_seq ?_
      refine C_region ?_
      refine W_assign rfl rfl rfl ?_
      refine W_end ?_
      refine E_then ?_
      refine C_block ?_
      refine C_keep (L' := [(0, .string (p0_s)), (1, .string (substr)), (5, .int .i64 (0))]) ⟨rfl, rfl, rfl, trivial⟩ (List.Perm.refl _) ?_
      refine C_loop (fun n H' M' L' => ∃ s118 : ByteArray, ∃ n119 : Int, loopF (fun s122 n => m_strings_Count_b1 substr s122.1 s122.2 n) n (s118, n119) = some r ∧ H.le H' ∧ M = M' ∧ [(0, .string (s118)), (1, .string (substr)), (5, .int .i64 (n119))] = L') FUEL ⟨p0_s, 0, hm, (Hp.le_refl _), rfl, rfl⟩ ?_
      rintro n125 H120 _ _ ⟨s118, n119, hm, hle121, rfl, rfl⟩
      cases n125 with
      | zero => cases hm
      | succ n125 =>
        have hm : m_strings_Count_b1 substr s118 n119 (loopF (fun s122 n => m_strings_Count_b1 substr s122.1 s122.2 n) n125) = some r := hm
        generalize hn124 : loopF (fun s122 n => m_strings_Count_b1 substr s122.1 s122.2 n) n125 = nx123 at hm
        unfold m_strings_Count_b1 at hm
        refine C_block ?_
        refine C_seq ?_
        refine C_region ?_
        refine W_move rfl rfl rfl ?_
        refine W_move rfl rfl rfl ?_
        obtain ⟨r131, hc132, hm⟩ := bind_some hm
        refine W_call Proofs.Tryd.call36 rfl rfl rfl (fun w ht => by have h := m_strings_Index_c (hm := hc132)  ht; exact h) ?_
        rintro _ _ _ ⟨rfl, rfl, rfl⟩
        refine W_assign rfl rfl rfl ?_
        refine W_end ?_
        refine E_then ?_
        refine C_seq ?_
        refine C_seq ?_
        refine C_region ?_
        refine W_move rfl rfl rfl ?_
        refine W_bin rfl rfl rfl rfl rfl ?_
        refine W_end ?_
        refine E_then ?_
        refine C_cond (b := decide (r131 = (-1))) rfl (fun hb133 => ?_) (fun hb133 => ?_)
        · have hm := ite_t' hb133 hm
          refine C_seq ?_
          refine C_region ?_
          refine W_move rfl rfl rfl ?_
          refine W_assign rfl rfl rfl ?_
          refine W_end ?_
          refine E_then ?_
          refine C_ret ?_
          refine E_ret_then ?_
          refine E_ret_block ?_
          refine E_ret_then ?_
          refine E_ret_block ?_
          obtain rfl := Option.some.inj hm
          refine E_weak hle121 ?_
          exact end1 rfl rfl ⟨rfl, rfl, rfl⟩
        · have hm := ite_f' hb133 hm
          refine C_skip ?_
          refine E_then ?_
          refine C_seq ?_
          refine C_region ?_
          refine W_move rfl rfl rfl ?_
          refine W_bin rfl rfl rfl rfl rfl ?_
          refine W_assign rfl rfl rfl ?_
          refine W_end ?_
          refine E_then ?_
          refine C_region ?_
          refine W_move rfl rfl rfl ?_
          refine W_move rfl rfl rfl ?_
          refine W_move rfl rfl rfl ?_
          refine W_lenStr rfl rfl Proofs.Tryd.runUnderlying9 rfl ?_
          refine W_bin rfl rfl rfl rfl rfl ?_
          obtain ⟨hz134, hm⟩ := need_some hm
          refine W_sliceStr (l := (IntKind.i64.wrap (r131 + (substr.size : Int)) : Int).toNat) (h := s118.size) rfl rfl Proofs.Tryd.runUnderlying9 rfl (.inl ⟨rfl, rfl⟩) (.inr ⟨_, _, _, rfl, rfl, by omega, by omega, rfl⟩) ?_
          refine W_assign rfl rfl rfl ?_
          refine W_end ?_
          refine E_normal_block ?_
          exact E_keepJ (E_back (Nat.lt_succ_self _) ⟨s118.extract ((IntKind.i64.wrap (r131 + (substr.size : Int)) : Int).toNat) s118.size, IntKind.i64.wrap (n119 + 1), (by rw [hn124]; exact hm), hle121, rfl, rfl⟩) (List.Perm.refl _) ⟨rfl, rfl, rfl, trivial⟩

theorem m_strings_genSplit_c {B : Nat} {w0 w : World} {H : Hp} {M : List Res} {p0_s : ByteArray} {sep : ByteArray} {sepSave : Int} {p3_n : Int} {r : (List ByteArray)} (hm : m_strings_genSplit p0_s sep sepSave p3_n = some r) (ht : St B w0 H (M) w) :
    Calls Proofs.Tryd.prog 25 [.string (p0_s), .string (sep), .int .i64 (sepSave), .int .i64 (p3_n)].toArray w (Ret B w0 fun H' M' v => H = H' ∧ ∃ qv0 : Value, ∃ qxs0 : List Value, .row qv0 9 (Rep.sz ByteArray) r.length qxs0 :: M = M' ∧ qv0 = v ∧ RwF qv0 qxs0 r) := by
  unfold m_strings_genSplit at hm
  refine enter Proofs.Tryd.func25 rfl rfl rfl ht ?_
  refine C_seq ?_
  refine C_region ?_
  refine W_assign rfl rfl rfl ?_
  refine W_end ?_
  refine E_then ?_
  refine C_seq ?_
  refine C_seq ?_
  refine C_region ?_
  refine W_move rfl rfl rfl ?_
  refine W_bin rfl rfl rfl rfl rfl ?_
  refine W_end ?_
  refine E_then ?_
  refine C_cond (b := decide (p3_n = 0)) rfl (fun hb101 => ?_) (fun hb101 => ?_)
  · have hm := ite_t' hb101 hm
    refine C_seq ?_
    refine C_region ?_
    refine W_assign rfl rfl rfl ?_
    refine W_end ?_
    refine E_then ?_
    refine C_ret ?_
    refine E_ret_then ?_
    refine E_nilRow 9 (Rep.sz ByteArray) ?_
    obtain rfl := Option.some.inj hm
    refine E_weak (Hp.le_refl _) ?_
    exact end1 rfl rfl ⟨rfl, (.slice none 0 0), [], rfl, rfl, (Rw.nil (H := H)).toF⟩
  · have hm := ite_f' hb101 hm
    refine C_skip ?_
    refine E_then ?_
    refine C_seq ?_
    refine C_seq ?_
    refine C_region ?_
    refine W_move rfl rfl rfl ?_
    refine W_bin rfl rfl rfl rfl rfl ?_
    refine W_end ?_
    refine E_then ?_
    refine C_cond (b := decide (sep = (⟨#[]⟩))) rfl (fun hb102 => ?_) (fun hb102 => ?_)
    · have hm := ite_t' hb102 hm
      refine C_seq ?_
      cases hm
    · have hm := ite_f' hb102 hm
      refine C_skip ?_
      refine E_then ?_
      refine C_seq_join (fun H' M' L' => ∃ n106 : Int, m_strings_genSplit_b4 p0_s sep sepSave n106 = some r ∧ H = H' ∧ M = M' ∧ [(0, .string (p0_s)), (1, .string (sep)), (2, .int .i64 (sepSave)), (3, .int .i64 (n106))] = L') ?_ (fun J107 => ?_)
      · rintro _ _ _ ⟨n106, hm, rfl, rfl, rfl⟩
        unfold m_strings_genSplit_b4 at hm
        refine C_seq ?_
        refine C_region ?_
        refine W_move rfl rfl rfl ?_
        refine W_move rfl rfl rfl ?_
        refine W_lenStr rfl rfl Proofs.Tryd.runUnderlying9 rfl ?_
        refine W_bin rfl rfl rfl rfl rfl ?_
        refine W_min rfl rfl rfl rfl ?_
        refine W_assign rfl rfl rfl ?_
        refine W_end ?_
        refine E_then ?_
        refine C_seq ?_
        refine C_region ?_
        refine W_move rfl rfl rfl ?_
        obtain ⟨hz108, hm⟩ := need_some hm
        refine W_makeSlice (α := ByteArray) (zs := [.string (⟨#[]⟩)]) (ze := (⟨#[]⟩)) rfl rfl Proofs.Tryd.underlying36 ⟨_, rfl, rfl, rfl, rfl⟩ rfl rfl rfl rfl rfl rfl hz108.1 hz108.2 ?_
        intro v109 xs110 hr111
        refine W_assign rfl rfl rfl ?_
        refine W_end ?_
        refine E_then ?_
        refine C_seq ?_
        refine C_region ?_
        refine W_move rfl rfl rfl ?_
        refine W_bin rfl rfl rfl rfl rfl ?_
        refine W_assign rfl rfl rfl ?_
        refine W_end ?_
        refine E_then ?_
        refine C_seq ?_
        refine C_region ?_
        refine W_assign rfl rfl rfl ?_
        refine W_end ?_
        refine E_then ?_
        refine C_seq_join (fun H' M' L' => ∃ s183 : ByteArray, ∃ l186 : List ByteArray, ∃ n188 : Int, ∃ xs185 : List Value, m_strings_genSplit_b2 s183 l186 n188 = some r ∧ Rw H' v109 xs185 l186 ∧ H.le H' ∧ .row v109 9 (Rep.sz ByteArray) l186.length xs185 :: M = M' ∧ [(0, .string (s183)), (9, v109), (10, .int .i64 (n188))] = L') ?_ (fun J191 => ?_)
        · rintro H189 _ _ ⟨s183, l186, n188, xs185, hm, hr187, hle190, rfl, rfl⟩
          unfold m_strings_genSplit_b2 at hm
          refine C_seq ?_
          refine C_region ?_
          refine W_move rfl rfl rfl ?_
          refine W_move rfl rfl rfl ?_
          refine W_move rfl rfl rfl ?_
          obtain ⟨y192, h193, he194, hm⟩ := idx_some hm
          refine W_indexO (List.mem_cons_self ..) rfl rfl Proofs.Tryd.runUnderlying36 Proofs.Tryd.sizeOf9 rfl rfl h193 (List.getElem?_eq_some_iff.1 he194).1 ?_
          obtain ⟨_, rfl, hg195⟩ := (hr187).elem he194
          obtain ⟨hr196, he197, hg198⟩ := Rw.put (cs := [.string (s183)]) (o := 0) (c := [.string (y192)]) (out := [.string (s183)]) (e2 := s183) hr187 he194 rfl hg195 rfl rfl rfl
          refine W_storeO2 (i := (n188 : Int).toNat * Rep.sz ByteArray + 0) (cs := [.string (s183)]) rfl Proofs.Tryd.sizeOf9 rfl (row_ad0 _ _) rfl rfl rfl (Rw.room hr187 he194 rfl) rfl (all_cons rfl all_nil) (n' := (l186.set ((n188 : Int).toNat) s183).length) List.length_set ?_
          generalize over xs185 ((n188 : Int).toNat * Rep.sz ByteArray + 0) [.string (s183)] = xs199 at hr196 hg198 ⊢
          refine W_end ?_
          refine E_then ?_
          refine C_seq ?_
          refine C_region ?_
          refine W_move rfl rfl rfl ?_
          refine W_move rfl rfl rfl ?_
          refine W_bin rfl rfl rfl rfl rfl ?_
          obtain ⟨hz200, hm⟩ := need_some hm
          refine W_sliceO (α := ByteArray) (l := 0) (h := (IntKind.i64.wrap (n188 + 1) : Int).toNat) rfl rfl Proofs.Tryd.runUnderlying36 Proofs.Tryd.sizeOf9 rfl rfl hr196 (by omega) (by omega) (fun m hmm => (.inr ⟨_, _, _, rfl, rfl, by omega, by omega, rfl⟩)) (.inl ⟨rfl, rfl⟩) ?_
          intro v201 xs202 hr203
          refine W_assign rfl rfl rfl ?_
          refine W_end ?_
          refine E_then ?_
          refine C_ret ?_
          obtain rfl := Option.some.inj hm
          refine E_weak hle190 ?_
          exact end1 rfl rfl ⟨rfl, v201, xs202, rfl, rfl, (hr203).toF⟩
        · refine C_block ?_
          refine C_keep (L' := [(0, .string (p0_s)), (1, .string (sep)), (2, .int .i64 (sepSave)), (3, .int .i64 (IntKind.i64.wrap ((min n106 (IntKind.i64.wrap ((p0_s.size : Int) + 1))) - 1))), (9, v109), (10, .int .i64 (0))]) ⟨rfl, rfl, rfl, rfl, rfl, rfl, trivial⟩ (List.Perm.refl _) ?_
          refine C_loop (fun n H' M' L' => ∃ s244 : ByteArray, ∃ l247 : List ByteArray, ∃ n249 : Int, ∃ xs246 : List Value, loopF (fun s252 n => m_strings_genSplit_b3 p0_s sep sepSave n106 s252.1 s252.2.1 s252.2.2 n) n (s244, l247, n249) = some r ∧ Rw H' v109 xs246 l247 ∧ H.le H' ∧ .row v109 9 (Rep.sz ByteArray) l247.length xs246 :: M = M' ∧ [(0, .string (s244)), (1, .string (sep)), (2, .int .i64 (sepSave)), (3, .int .i64 (IntKind.i64.wrap ((min n106 (IntKind.i64.wrap ((p0_s.size : Int) + 1))) - 1))), (9, v109), (10, .int .i64 (n249))] = L') FUEL ⟨p0_s, (List.replicate (min n106 (IntKind.i64.wrap ((p0_s.size : Int) + 1)) : Int).toNat ((⟨#[]⟩) : ByteArray)), 0, xs110, hm, hr111, (Hp.le_refl _), rfl, rfl⟩ ?_
          rintro n255 H250 _ _ ⟨s244, l247, n249, xs246, hm, hr248, hle251, rfl, rfl⟩
          cases n255 with
          | zero => cases hm
          | succ n255 =>
            have hm : m_strings_genSplit_b3 p0_s sep sepSave n106 s244 l247 n249 (loopF (fun s252 n => m_strings_genSplit_b3 p0_s sep sepSave n106 s252.1 s252.2.1 s252.2.2 n) n255) = some r := hm
            generalize hn254 : loopF (fun s252 n => m_strings_genSplit_b3 p0_s sep sepSave n106 s252.1 s252.2.1 s252.2.2 n) n255 = nx253 at hm
            unfold m_strings_genSplit_b3 at hm
            refine C_seq ?_
            refine C_seq ?_
            refine C_region ?_
            refine W_move rfl rfl rfl ?_
            refine W_move rfl rfl rfl ?_
            refine W_bin rfl rfl rfl rfl rfl ?_
            refine W_end ?_
            refine E_then ?_
            refine C_cond (b := decide (n249 < (IntKind.i64.wrap ((min n106 (IntKind.i64.wrap ((p0_s.size : Int) + 1))) - 1)))) rfl (fun hb261 => ?_) (fun hb261 => ?_)
            · have hm := ite_t' hb261 hm
              refine C_skip ?_
              refine E_then ?_
              refine C_block ?_
              refine C_seq ?_
              refine C_region ?_
              refine W_move rfl rfl rfl ?_
              refine W_move rfl rfl rfl ?_
              obtain ⟨r262, hc263, hm⟩ := bind_some hm
              refine W_call Proofs.Tryd.call36 rfl rfl rfl (fun w ht => by have h := m_strings_Index_c (hm := hc263)  ht; exact h) ?_
              rintro _ _ _ ⟨rfl, rfl, rfl⟩
              refine W_assign rfl rfl rfl ?_
              refine W_end ?_
              refine E_then ?_
              refine C_seq ?_
              refine C_seq ?_
              refine C_region ?_
              refine W_move rfl rfl rfl ?_
              refine W_bin rfl rfl rfl rfl rfl ?_
              refine W_end ?_
              refine E_then ?_
              refine C_cond (b := decide (r262 < 0)) rfl (fun hb264 => ?_) (fun hb264 => ?_)
              · have hm := ite_t' hb264 hm
                refine C_exit ?_
                refine E_exit_then ?_
                refine E_exit_miss rfl ?_
                refine E_exit_then ?_
                refine E_exit_hit ?_
                exact E_keepJ (J191 _ _ _ ⟨s244, l247, n249, xs246, hm, hr248, hle251, rfl, rfl⟩) (List.Perm.refl _) ⟨rfl, rfl, rfl, trivial⟩
              · have hm := ite_f' hb264 hm
                refine C_skip ?_
                refine E_then ?_
                refine C_seq ?_
                refine C_region ?_
                refine W_move rfl rfl rfl ?_
                refine W_move rfl rfl rfl ?_
                refine W_move rfl rfl rfl ?_
                refine W_move rfl rfl rfl ?_
                refine W_move rfl rfl rfl ?_
                refine W_bin rfl rfl rfl rfl rfl ?_
                obtain ⟨hz265, hm⟩ := need_some hm
                refine W_sliceStr (l := 0) (h := (IntKind.i64.wrap (r262 + sepSave) : Int).toNat) rfl rfl Proofs.Tryd.runUnderlying9 rfl (.inr ⟨_, _, _, rfl, rfl, by omega, by omega, rfl⟩) (.inl ⟨rfl, rfl⟩) ?_
                obtain ⟨y266, h267, he268, hm⟩ := idx_some hm
                refine W_indexO (List.mem_cons_self ..) rfl rfl Proofs.Tryd.runUnderlying36 Proofs.Tryd.sizeOf9 rfl rfl h267 (List.getElem?_eq_some_iff.1 he268).1 ?_
                obtain ⟨_, rfl, hg269⟩ := (hr248).elem he268
                obtain ⟨hr270, he271, hg272⟩ := Rw.put (cs := [.string (s244.extract 0 ((IntKind.i64.wrap (r262 + sepSave) : Int).toNat))]) (o := 0) (c := [.string (y266)]) (out := [.string (s244.extract 0 ((IntKind.i64.wrap (r262 + sepSave) : Int).toNat))]) (e2 := (s244.extract 0 ((IntKind.i64.wrap (r262 + sepSave) : Int).toNat))) hr248 he268 rfl hg269 rfl rfl rfl
                refine W_storeO2 (i := (n249 : Int).toNat * Rep.sz ByteArray + 0) (cs := [.string (s244.extract 0 ((IntKind.i64.wrap (r262 + sepSave) : Int).toNat))]) rfl Proofs.Tryd.sizeOf9 rfl (row_ad0 _ _) rfl rfl rfl (Rw.room hr248 he268 rfl) rfl (all_cons rfl all_nil) (n' := (l247.set ((n249 : Int).toNat) (s244.extract 0 ((IntKind.i64.wrap (r262 + sepSave) : Int).toNat))).length) List.length_set ?_
                generalize over xs246 ((n249 : Int).toNat * Rep.sz ByteArray + 0) [.string (s244.extract 0 ((IntKind.i64.wrap (r262 + sepSave) : Int).toNat))] = xs273 at hr270 hg272 ⊢
                refine W_end ?_
                refine E_then ?_
                refine C_seq ?_
                refine C_region ?_
                refine W_move rfl rfl rfl ?_
                refine W_move rfl rfl rfl ?_
                refine W_move rfl rfl rfl ?_
                refine W_lenStr rfl rfl Proofs.Tryd.runUnderlying9 rfl ?_
                refine W_bin rfl rfl rfl rfl rfl ?_
                obtain ⟨hz274, hm⟩ := need_some hm
                refine W_sliceStr (l := (IntKind.i64.wrap (r262 + (sep.size : Int)) : Int).toNat) (h := s244.size) rfl rfl Proofs.Tryd.runUnderlying9 rfl (.inl ⟨rfl, rfl⟩) (.inr ⟨_, _, _, rfl, rfl, by omega, by omega, rfl⟩) ?_
                refine W_assign rfl rfl rfl ?_
                refine W_end ?_
                refine E_then ?_
                refine C_region ?_
                refine W_move rfl rfl rfl ?_
                refine W_bin rfl rfl rfl rfl rfl ?_
                refine W_assign rfl rfl rfl ?_
                refine W_end ?_
                refine E_normal_block ?_
                exact E_keepJ (E_back (Nat.lt_succ_self _) ⟨s244.extract ((IntKind.i64.wrap (r262 + (sep.size : Int)) : Int).toNat) s244.size, (l247.set ((n249 : Int).toNat) (s244.extract 0 ((IntKind.i64.wrap (r262 + sepSave) : Int).toNat))), IntKind.i64.wrap (n249 + 1), xs273, (by rw [hn254]; exact hm), hr270, hle251, rfl, rfl⟩) (List.Perm.refl _) ⟨rfl, rfl, rfl, rfl, rfl, rfl, trivial⟩
            · have hm := ite_f' hb261 hm
              refine C_exit ?_
              refine E_exit_then ?_
              refine E_exit_then ?_
              refine E_exit_hit ?_
              exact E_keepJ (J191 _ _ _ ⟨s244, l247, n249, xs246, hm, hr248, hle251, rfl, rfl⟩) (List.Perm.refl _) ⟨rfl, rfl, rfl, trivial⟩
      · refine C_seq ?_
        refine C_region ?_
        refine W_move rfl rfl rfl ?_
        refine W_bin rfl rfl rfl rfl rfl ?_
        refine W_end ?_
        refine E_then ?_
        refine C_cond (b := decide (p3_n < 0)) rfl (fun hb275 => ?_) (fun hb275 => ?_)
        · have hm := ite_t' hb275 hm
          refine C_region ?_
          refine W_move rfl rfl rfl ?_
          refine W_move rfl rfl rfl ?_
          obtain ⟨r276, hc277, hm⟩ := bind_some hm
          refine W_call Proofs.Tryd.call35 rfl rfl rfl (fun w ht => by have h := m_strings_Count_c (hm := hc277)  ht; exact h) ?_
          rintro _ _ _ ⟨rfl, rfl, rfl⟩
          refine W_bin rfl rfl rfl rfl rfl ?_
          refine W_assign rfl rfl rfl ?_
          refine W_end ?_
          exact E_keepJ (J107 _ _ _ ⟨IntKind.i64.wrap (r276 + 1), hm, rfl, rfl, rfl⟩) (List.Perm.refl _) ⟨rfl, rfl, rfl, rfl, trivial⟩
        · have hm := ite_f' hb275 hm
          refine C_skip ?_
          exact E_keepJ (J107 _ _ _ ⟨p3_n, hm, rfl, rfl, rfl⟩) (List.Perm.refl _) ⟨rfl, rfl, rfl, rfl, trivial⟩

theorem m_strings_Split_c {B : Nat} {w0 w : World} {H : Hp} {M : List Res} {p0_s : ByteArray} {sep : ByteArray} {r : (List ByteArray)} (hm : m_strings_Split p0_s sep = some r) (ht : St B w0 H (M) w) :
    Calls Proofs.Tryd.prog 10 [.string (p0_s), .string (sep)].toArray w (Ret B w0 fun H' M' v => H = H' ∧ ∃ qv0 : Value, ∃ qxs0 : List Value, .row qv0 9 (Rep.sz ByteArray) r.length qxs0 :: M = M' ∧ qv0 = v ∧ RwF qv0 qxs0 r) := by
  unfold m_strings_Split at hm
  refine enter Proofs.Tryd.func10 rfl rfl rfl ht ?_
  refine C_seq ?_
  refine C_region ?_
  refine W_assign rfl rfl rfl ?_
  refine W_end ?_
  refine E_then ?_
  refine C_seq ?_
  refine C_region ?_
  refine W_move rfl rfl rfl ?_
  refine W_move rfl rfl rfl ?_
  obtain ⟨r101, hc102, hm⟩ := bind_some hm
  refine W_call Proofs.Tryd.call25 rfl rfl rfl (fun w ht => by have h := m_strings_genSplit_c (hm := hc102)  ht; exact h) ?_
  rintro _ _ _ ⟨rfl, v103, xs104, rfl, rfl, h105⟩
  have h105 := h105 H
  refine W_assign rfl rfl rfl ?_
  refine W_end ?_
  refine E_then ?_
  refine C_ret ?_
  obtain rfl := Option.some.inj hm
  refine E_weak (Hp.le_refl _) ?_
  exact end1 rfl rfl ⟨rfl, v103, xs104, rfl, rfl, (h105).toF⟩

theorem m_strings_HasSuffix_c {B : Nat} {w0 w : World} {H : Hp} {M : List Res} {p0_s : ByteArray} {suffix : ByteArray} {r : Bool} (hm : m_strings_HasSuffix p0_s suffix = some r) (ht : St B w0 H (M) w) :
    Calls Proofs.Tryd.prog 12 [.string (p0_s), .string (suffix)].toArray w (Ret B w0 fun H' M' v => H = H' ∧ M = M' ∧ .bool (r) = v) := by
  unfold m_strings_HasSuffix at hm
  refine enter Proofs.Tryd.func12 rfl rfl rfl ht ?_
  refine C_seq ?_
  refine C_region ?_
  refine W_assign rfl rfl rfl ?_
  refine W_end ?_
  refine E_then ?_
  refine C_seq ?_
  refine C_region ?_
  refine W_move rfl rfl rfl ?_
  refine W_move rfl rfl rfl ?_
  obtain ⟨r101, hc102, hm⟩ := bind_some hm
  refine W_call Proofs.Tryd.call27 rfl rfl rfl (fun w ht => by have h := m_internal_stringslite_HasSuffix_c (hm := hc102)  ht; exact h) ?_
  rintro _ _ _ ⟨rfl, rfl, rfl⟩
  refine W_assign rfl rfl rfl ?_
  refine W_end ?_
  refine E_then ?_
  refine C_ret ?_
  obtain rfl := Option.some.inj hm
  refine E_weak (Hp.le_refl _) ?_
  exact end1 rfl rfl ⟨rfl, rfl, rfl⟩

theorem m_interlock_parser_take_c {B : Nat} {w0 w : World} {H : Hp} {M : List Res} {p0_p : S_interlock_parser} {p1_w : ByteArray} {b0 : Nat} {v0 : Value} {v1 : Value} {xs0 : List Value} {r : Bool × S_interlock_parser} (hm : m_interlock_parser_take p0_p p1_w = some r) (h0 : RdS H v0 p0_p.words) (h1 : Rw H v1 xs0 p0_p.nodes) (ht : St B w0 H (.obj b0 (.cells [v0, v1, .bool (p0_p.bad)].toArray 42 (0, 0)) :: .row v1 49 (Rep.sz S_api_InterlockNode) p0_p.nodes.length xs0 :: M) w) :
    Calls Proofs.Tryd.prog 13 [.pointer (some ⟨b0, 0, none⟩), .string (p1_w)].toArray w (Ret B w0 fun H' M' v => H.le H' ∧ ∃ qv0 : Value, ∃ qv1 : Value, ∃ qxs0 : List Value, .obj b0 (.cells [qv0, qv1, .bool (r.2.bad)].toArray 42 (0, 0)) :: .row qv1 49 (Rep.sz S_api_InterlockNode) r.2.nodes.length qxs0 :: M = M' ∧ .bool (r.1) = v ∧ RdS H' qv0 r.2.words ∧ Rw H' qv1 qxs0 r.2.nodes) := by
  unfold m_interlock_parser_take at hm
  refine enter Proofs.Tryd.func13 rfl rfl rfl ht ?_
  refine C_seq ?_
  refine C_region ?_
  refine W_assign rfl rfl rfl ?_
  refine W_end ?_
  refine E_then ?_
  refine C_seq ?_
  refine C_seq ?_
  refine C_region ?_
  refine W_move rfl rfl rfl ?_
  refine W_nilCheck rfl rfl rfl ?_
  refine W_field (o := 0) rfl rfl Proofs.Tryd.runUnderlying42 rfl Proofs.Tryd.sizeOf36 rfl rfl rfl ?_
  refine W_load rfl rfl Proofs.Tryd.isAgg36 rfl (own_at (List.mem_cons_self ..) rfl) ?_
  refine W_lenR rfl rfl Proofs.Tryd.runUnderlying36 rfl h0 ?_
  refine W_bin rfl rfl rfl rfl rfl ?_
  refine W_move rfl rfl rfl ?_
  cases hb101 : (decide (0 < (p0_p.words.length : Int)))
  · have hm := ite_f' hb101 hm
    refine W_no rfl rfl rfl ?_
    refine W_no rfl rfl rfl ?_
    refine W_no rfl rfl rfl ?_
    refine W_no rfl rfl rfl ?_
    refine W_no rfl rfl rfl ?_
    refine W_no rfl rfl rfl ?_
    refine W_no rfl rfl rfl ?_
    refine W_no rfl rfl rfl ?_
    refine W_pick rfl rfl rfl rfl ?_
    refine W_end ?_
    refine E_then ?_
    refine C_cond (b := false) rfl (fun hb => Bool.noConfusion hb) (fun _ => ?_)
    refine C_skip ?_
    refine E_then ?_
    refine C_seq ?_
    refine C_region ?_
    refine W_assign rfl rfl rfl ?_
    refine W_end ?_
    refine E_then ?_
    refine C_ret ?_
    obtain rfl := Option.some.inj hm
    exact end1 rfl rfl ⟨(Hp.le_refl _), v0, v1, xs0, rfl, rfl, h0, h1⟩
  · have hm := ite_t' hb101 hm
    refine W_move rfl rfl rfl ?_
    refine W_nilCheck rfl rfl rfl ?_
    refine W_field (o := 0) rfl rfl Proofs.Tryd.runUnderlying42 rfl Proofs.Tryd.sizeOf36 rfl rfl rfl ?_
    refine W_load rfl rfl Proofs.Tryd.isAgg36 rfl (own_at (List.mem_cons_self ..) rfl) ?_
    obtain ⟨y102, h103, he104, hm⟩ := idx_some hm
    obtain ⟨_, rfl, hc105⟩ := (h0).elem he104
    refine W_indexS rfl rfl Proofs.Tryd.runUnderlying36 Proofs.Tryd.sizeOf9 rfl h0 rfl h103 he104 ?_
    refine W_load rfl rfl Proofs.Tryd.isAgg9 rfl (HCells.one hc105 0 rfl).at ?_
    refine W_move rfl rfl rfl ?_
    refine W_bin rfl rfl rfl rfl rfl ?_
    refine W_pick rfl rfl rfl rfl ?_
    refine W_end ?_
    refine E_then ?_
    refine C_cond (b := decide (y102 = p1_w)) rfl (fun hb106 => ?_) (fun hb106 => ?_)
    · have hm := ite_t' hb106 hm
      refine C_seq ?_
      refine C_region ?_
      refine W_move rfl rfl rfl ?_
      refine W_move rfl rfl rfl ?_
      refine W_nilCheck rfl rfl rfl ?_
      refine W_field (o := 0) rfl rfl Proofs.Tryd.runUnderlying42 rfl Proofs.Tryd.sizeOf36 rfl rfl rfl ?_
      refine W_load rfl rfl Proofs.Tryd.isAgg36 rfl (own_at (List.mem_cons_self ..) rfl) ?_
      obtain ⟨hz107, hm⟩ := need_some hm
      refine W_sliceR (α := ByteArray) (l := (1 : Int).toNat) (h := p0_p.words.length) (xs := p0_p.words) rfl rfl Proofs.Tryd.runUnderlying36 Proofs.Tryd.sizeOf9 rfl h0 (by omega) (by omega) (.inl rfl) (fun cap hcap => by rw [if_pos rfl]; exact (.inl ⟨rfl, rfl⟩)) (fun m hmm => (.inl ⟨rfl, rfl⟩)) (.inr ⟨_, _, _, rfl, rfl, by omega, by omega, rfl⟩) ?_
      intro v108 h109 hc110
      refine W_nilCheck rfl rfl rfl ?_
      refine W_field (o := 0) rfl rfl Proofs.Tryd.runUnderlying42 rfl Proofs.Tryd.sizeOf36 rfl rfl rfl ?_
      refine W_store (cs := [v108]) (out := [v108, v1, .bool (p0_p.bad)]) rfl Proofs.Tryd.sizeOf36 rfl rfl (RdS.cells h109) rfl rfl (all_cons (RdS.one1 h109) all_nil) rfl ?_
      refine W_end ?_
      refine E_then ?_
      refine C_seq ?_
      refine C_region ?_
      refine W_assign rfl rfl rfl ?_
      refine W_end ?_
      refine E_then ?_
      refine C_ret ?_
      refine E_ret_then ?_
      obtain rfl := Option.some.inj hm
      exact end1 rfl rfl ⟨(Hp.le_refl _), v108, v1, xs0, rfl, rfl, h109, h1⟩
    · have hm := ite_f' hb106 hm
      refine C_skip ?_
      refine E_then ?_
      refine C_seq ?_
      refine C_region ?_
      refine W_assign rfl rfl rfl ?_
      refine W_end ?_
      refine E_then ?_
      refine C_ret ?_
      obtain rfl := Option.some.inj hm
      exact end1 rfl rfl ⟨(Hp.le_refl _), v0, v1, xs0, rfl, rfl, h0, h1⟩

theorem m_interlock_parser_name_c {B : Nat} {w0 w : World} {H : Hp} {M : List Res} {p0_p : S_interlock_parser} {b0 : Nat} {v0 : Value} {v1 : Value} {xs0 : List Value} {r : ByteArray × S_interlock_parser} (hm : m_interlock_parser_name p0_p = some r) (h0 : RdS H v0 p0_p.words) (h1 : Rw H v1 xs0 p0_p.nodes) (ht : St B w0 H (.obj b0 (.cells [v0, v1, .bool (p0_p.bad)].toArray 42 (0, 0)) :: .row v1 49 (Rep.sz S_api_InterlockNode) p0_p.nodes.length xs0 :: M) w) :
    Calls Proofs.Tryd.prog 14 [.pointer (some ⟨b0, 0, none⟩)].toArray w (Ret B w0 fun H' M' v => H.le H' ∧ ∃ qv0 : Value, ∃ qv1 : Value, ∃ qxs0 : List Value, .obj b0 (.cells [qv0, qv1, .bool (r.2.bad)].toArray 42 (0, 0)) :: .row qv1 49 (Rep.sz S_api_InterlockNode) r.2.nodes.length qxs0 :: M = M' ∧ .string (r.1) = v ∧ RdS H' qv0 r.2.words ∧ Rw H' qv1 qxs0 r.2.nodes) := by
  unfold m_interlock_parser_name at hm
  refine enter Proofs.Tryd.func14 rfl rfl rfl ht ?_
  refine C_seq ?_
  refine C_region ?_
  refine W_assign rfl rfl rfl ?_
  refine W_end ?_
  refine E_then ?_
  refine C_seq ?_
  refine C_seq ?_
  refine C_region ?_
  refine W_move rfl rfl rfl ?_
  refine W_nilCheck rfl rfl rfl ?_
  refine W_field (o := 0) rfl rfl Proofs.Tryd.runUnderlying42 rfl Proofs.Tryd.sizeOf36 rfl rfl rfl ?_
  refine W_load rfl rfl Proofs.Tryd.isAgg36 rfl (own_at (List.mem_cons_self ..) rfl) ?_
  refine W_lenR rfl rfl Proofs.Tryd.runUnderlying36 rfl h0 ?_
  refine W_bin rfl rfl rfl rfl rfl ?_
  refine W_move rfl rfl rfl ?_
  cases hb101 : (decide ((p0_p.words.length : Int) = 0))
  · have hm := ite_f' hb101 hm
    refine W_move rfl rfl rfl ?_
    refine W_nilCheck rfl rfl rfl ?_
    refine W_field (o := 0) rfl rfl Proofs.Tryd.runUnderlying42 rfl Proofs.Tryd.sizeOf36 rfl rfl rfl ?_
    refine W_load rfl rfl Proofs.Tryd.isAgg36 rfl (own_at (List.mem_cons_self ..) rfl) ?_
    obtain ⟨y102, h103, he104, hm⟩ := idx_some hm
    obtain ⟨_, rfl, hc105⟩ := (h0).elem he104
    refine W_indexS rfl rfl Proofs.Tryd.runUnderlying36 Proofs.Tryd.sizeOf9 rfl h0 rfl h103 he104 ?_
    refine W_load rfl rfl Proofs.Tryd.isAgg9 rfl (HCells.one hc105 0 rfl).at ?_
    obtain ⟨r106, hc107, hm⟩ := bind_some hm
    refine W_call Proofs.Tryd.call21 rfl rfl rfl (fun w ht => by have h := m_netmodel_Name_c (hm := hc107)  ht; exact h) ?_
    rintro _ _ _ ⟨rfl, rfl, rfl⟩
    refine W_un rfl rfl rfl rfl ?_
    refine W_pick rfl rfl rfl rfl ?_
    refine W_end ?_
    refine E_then ?_
    refine C_cond (b := !r106) rfl (fun hb108 => ?_) (fun hb108 => ?_)
    · have hm := ite_t' hb108 hm
      refine C_seq ?_
      refine C_region ?_
      refine W_move rfl rfl rfl ?_
      refine W_nilCheck rfl rfl rfl ?_
      refine W_field (o := 2) rfl rfl Proofs.Tryd.runUnderlying42 rfl Proofs.Tryd.sizeOf4 rfl rfl rfl ?_
      refine W_store (cs := [.bool (true)]) (out := [v0, v1, .bool (true)]) rfl Proofs.Tryd.sizeOf4 rfl rfl rfl rfl rfl (all_cons rfl all_nil) rfl ?_
      refine W_end ?_
      refine E_then ?_
      refine C_seq ?_
      refine C_region ?_
      refine W_assign rfl rfl rfl ?_
      refine W_end ?_
      refine E_then ?_
      refine C_ret ?_
      refine E_ret_then ?_
      obtain rfl := Option.some.inj hm
      exact end1 rfl rfl ⟨(Hp.le_refl _), v0, v1, xs0, rfl, rfl, h0, h1⟩
    · have hm := ite_f' hb108 hm
      refine C_skip ?_
      refine E_then ?_
      refine C_seq ?_
      refine C_region ?_
      refine W_move rfl rfl rfl ?_
      refine W_nilCheck rfl rfl rfl ?_
      refine W_field (o := 0) rfl rfl Proofs.Tryd.runUnderlying42 rfl Proofs.Tryd.sizeOf36 rfl rfl rfl ?_
      refine W_load rfl rfl Proofs.Tryd.isAgg36 rfl (own_at (List.mem_cons_self ..) rfl) ?_
      obtain ⟨y109, h110, he111, hm⟩ := idx_some hm
      obtain ⟨_, rfl, hc112⟩ := (h0).elem he111
      refine W_indexS rfl rfl Proofs.Tryd.runUnderlying36 Proofs.Tryd.sizeOf9 rfl h0 rfl h110 he111 ?_
      refine W_load rfl rfl Proofs.Tryd.isAgg9 rfl (HCells.one hc112 0 rfl).at ?_
      refine W_assign rfl rfl rfl ?_
      refine W_end ?_
      refine E_then ?_
      refine C_seq ?_
      refine C_region ?_
      refine W_move rfl rfl rfl ?_
      refine W_move rfl rfl rfl ?_
      refine W_nilCheck rfl rfl rfl ?_
      refine W_field (o := 0) rfl rfl Proofs.Tryd.runUnderlying42 rfl Proofs.Tryd.sizeOf36 rfl rfl rfl ?_
      refine W_load rfl rfl Proofs.Tryd.isAgg36 rfl (own_at (List.mem_cons_self ..) rfl) ?_
      obtain ⟨hz113, hm⟩ := need_some hm
      refine W_sliceR (α := ByteArray) (l := (1 : Int).toNat) (h := p0_p.words.length) (xs := p0_p.words) rfl rfl Proofs.Tryd.runUnderlying36 Proofs.Tryd.sizeOf9 rfl h0 (by omega) (by omega) (.inl rfl) (fun cap hcap => by rw [if_pos rfl]; exact (.inl ⟨rfl, rfl⟩)) (fun m hmm => (.inl ⟨rfl, rfl⟩)) (.inr ⟨_, _, _, rfl, rfl, by omega, by omega, rfl⟩) ?_
      intro v114 h115 hc116
      refine W_nilCheck rfl rfl rfl ?_
      refine W_field (o := 0) rfl rfl Proofs.Tryd.runUnderlying42 rfl Proofs.Tryd.sizeOf36 rfl rfl rfl ?_
      refine W_store (cs := [v114]) (out := [v114, v1, .bool (p0_p.bad)]) rfl Proofs.Tryd.sizeOf36 rfl rfl (RdS.cells h115) rfl rfl (all_cons (RdS.one1 h115) all_nil) rfl ?_
      refine W_end ?_
      refine E_then ?_
      refine C_seq ?_
      refine C_region ?_
      refine W_move rfl rfl rfl ?_
      refine W_assign rfl rfl rfl ?_
      refine W_end ?_
      refine E_then ?_
      refine C_ret ?_
      obtain rfl := Option.some.inj hm
      exact end1 rfl rfl ⟨(Hp.le_refl _), v114, v1, xs0, rfl, rfl, h115, h1⟩
  · have hm := ite_t' hb101 hm
    refine W_no rfl rfl rfl ?_
    refine W_no rfl rfl rfl ?_
    refine W_no rfl rfl rfl ?_
    refine W_no rfl rfl rfl ?_
    refine W_no rfl rfl rfl ?_
    refine W_no rfl rfl rfl ?_
    refine W_no rfl rfl rfl ?_
    refine W_no rfl rfl rfl ?_
    refine W_pick rfl rfl rfl rfl ?_
    refine W_end ?_
    refine E_then ?_
    refine C_cond (b := true) rfl (fun _ => ?_) (fun hb => Bool.noConfusion hb)
    refine C_seq ?_
    refine C_region ?_
    refine W_move rfl rfl rfl ?_
    refine W_nilCheck rfl rfl rfl ?_
    refine W_field (o := 2) rfl rfl Proofs.Tryd.runUnderlying42 rfl Proofs.Tryd.sizeOf4 rfl rfl rfl ?_
    refine W_store (cs := [.bool (true)]) (out := [v0, v1, .bool (true)]) rfl Proofs.Tryd.sizeOf4 rfl rfl rfl rfl rfl (all_cons rfl all_nil) rfl ?_
    refine W_end ?_
    refine E_then ?_
    refine C_seq ?_
    refine C_region ?_
    refine W_assign rfl rfl rfl ?_
    refine W_end ?_
    refine E_then ?_
    refine C_ret ?_
    refine E_ret_then ?_
    obtain rfl := Option.some.inj hm
    exact end1 rfl rfl ⟨(Hp.le_refl _), v0, v1, xs0, rfl, rfl, h0, h1⟩

theorem m_interlock_parser_add_c {B : Nat} {w0 w : World} {H : Hp} {M : List Res} {p0_p : S_interlock_parser} {p1_x : S_api_InterlockNode} {b0 : Nat} {v0 : Value} {v1 : Value} {xs0 : List Value} {r : Int × S_interlock_parser} (hm : m_interlock_parser_add p0_p p1_x = some r) (h0 : RdS H v0 p0_p.words) (h1 : Rw H v1 xs0 p0_p.nodes) (ht : St B w0 H (.obj b0 (.cells [v0, v1, .bool (p0_p.bad)].toArray 42 (0, 0)) :: .row v1 49 (Rep.sz S_api_InterlockNode) p0_p.nodes.length xs0 :: M) w) :
    Calls Proofs.Tryd.prog 37 [.pointer (some ⟨b0, 0, none⟩), .agg [.int .i64 (p1_x.Kind), .string (p1_x.Name), .int .i64 (p1_x.A), .int .i64 (p1_x.B_)].toArray].toArray w (Ret B w0 fun H' M' v => H.le H' ∧ ∃ qv0 : Value, ∃ qv1 : Value, ∃ qxs0 : List Value, .obj b0 (.cells [qv0, qv1, .bool (r.2.bad)].toArray 42 (0, 0)) :: .row qv1 49 (Rep.sz S_api_InterlockNode) r.2.nodes.length qxs0 :: M = M' ∧ .int .i64 (r.1) = v ∧ RdS H' qv0 r.2.words ∧ Rw H' qv1 qxs0 r.2.nodes) := by
  unfold m_interlock_parser_add at hm
  refine enter Proofs.Tryd.func37 rfl rfl rfl ht ?_
  refine C_seq ?_
  refine C_region ?_
  refine W_box (cs := [.int .i64 (p1_x.Kind), .string (p1_x.Name), .int .i64 (p1_x.A), .int .i64 (p1_x.B_)]) rfl rfl rfl rfl (fun b101 => ?_)
  refine W_assign rfl rfl rfl ?_
  refine W_end ?_
  refine E_then ?_
  refine C_seq ?_
  obtain ⟨hz109, hm⟩ := need_some hm
  refine C_perm (List.Perm.trans (List.Perm.cons _ (List.Perm.swap _ _ _)) (List.Perm.swap _ _ _)) ?_
  refine C_as (M' := [[.row v1 49 (Rep.sz S_api_InterlockNode) p0_p.nodes.length xs0]].flatten ++ (.obj b101 (.cells [.int .i64 (p1_x.Kind), .string (p1_x.Name), .int .i64 (p1_x.A), .int .i64 (p1_x.B_)].toArray 49 (0, 0)) :: .obj b0 (.cells [v0, v1, .bool (p0_p.bad)].toArray 42 (0, 0)) :: M)) rfl ?_
  refine C_region_tok0 8 (phiT [(fun H rs v => [] = rs ∧ .pointer (some ⟨b0, 0, none⟩) = v), (fun H rs v => [] = rs ∧ .pointer (some ⟨b0, 0, none⟩) = v), (fun H rs v => [] = rs ∧ .pointer (some ⟨b0, 0, none⟩) = v), (fun H rs v => [] = rs ∧ .pointer (some ⟨b0, 1, none⟩) = v), (fun H rs v => [] = rs ∧ v1 = v), (fun H rs v => [] = rs ∧ .agg [.int .i64 (p1_x.Kind), .string (p1_x.Name), .int .i64 (p1_x.A), .int .i64 (p1_x.B_)].toArray = v), (fun H rs v => ∃ v114 : Value, [] = rs ∧ v114 = v ∧ RdS H v114 ([p1_x]) ∧ Value.cap' v114 = ([p1_x]).length), (fun H rs v => ∃ v120 : Value, ∃ xs121 : List Value, [.row v120 49 (Rep.sz S_api_InterlockNode) (p0_p.nodes ++ ([p1_x])).length xs121] = rs ∧ v120 = v ∧ Rw H v120 xs121 (p0_p.nodes ++ ([p1_x])))]) [[], [], [], [], [], [], [], [8]] [[], [], [], [], [], [], [], []] [[.row v1 49 (Rep.sz S_api_InterlockNode) p0_p.nodes.length xs0]] [0, 1, 2, 3, 4, 5, 6, 7] Facts.mixed (by kernel_rfl) rfl rfl rfl (by kernel_rfl) (phiT_mono ⟨eq_monoT _ _, eq_monoT _ _, eq_monoT _ _, eq_monoT _ _, eq_monoT _ _, eq_monoT _ _, (by rintro H1 H2 rs v hle ⟨v114, rfl, rfl, h118, hc119⟩; exact ⟨v114, rfl, rfl, (h118.mono hle), (hc119)⟩), (by rintro H1 H2 rs v hle ⟨v120, xs121, rfl, rfl, hr122⟩; exact ⟨v120, xs121, rfl, rfl, (hr122.mono hle)⟩), trivial⟩) ⟨?_, ?_, ?_, ?_, ?_, ?_, ?_, ?_, trivial⟩ ?_
  · intro HX hX X Rest hR
    intro hU hUp
    refine W_move rfl rfl rfl ?_
    exact W_end (OneT_end [] (Hp.le_refl _) ⟨rfl, rfl⟩)
  · intro HX hX X Rest hR
    intro hU hUp
    refine W_move rfl rfl rfl ?_
    exact W_end (OneT_end [] (Hp.le_refl _) ⟨rfl, rfl⟩)
  · intro HX hX X Rest hR
    rintro _ _ ⟨rfl, rfl⟩
    intro hU hUp
    refine W_nilCheck rfl rfl rfl ?_
    exact W_end (OneT_end [] (Hp.le_refl _) ⟨rfl, rfl⟩)
  · intro HX hX X Rest hR
    rintro _ _ ⟨rfl, rfl⟩
    intro hU hUp
    refine W_field (o := 1) rfl rfl Proofs.Tryd.runUnderlying42 rfl Proofs.Tryd.sizeOf32 rfl rfl rfl ?_
    exact W_end (OneT_end [] (Hp.le_refl _) ⟨rfl, rfl⟩)
  · intro HX hX X Rest hR
    rintro _ _ ⟨rfl, rfl⟩
    intro hU hUp
    refine W_load rfl rfl Proofs.Tryd.isAgg32 rfl (own_at (hR _ (List.mem_cons_of_mem _ (List.mem_cons_self ..))) rfl) ?_
    exact W_end (OneT_end [] (Hp.le_refl _) ⟨rfl, rfl⟩)
  · intro HX hX X Rest hR
    intro hU hUp
    refine W_loadAgg rfl rfl Proofs.Tryd.isAgg49 Proofs.Tryd.sizeOf49 rfl (own_all (hR _ (List.mem_cons_self ..))) rfl ?_
    exact W_end (OneT_end [] (Hp.le_refl _) ⟨rfl, rfl⟩)
  · intro HX hX X Rest hR
    rintro _ _ ⟨rfl, rfl⟩
    intro hU hUp
    refine W_buildSlice (α := S_api_InterlockNode) (css := [[.int .i64 (p1_x.Kind), .string (p1_x.Name), .int .i64 (p1_x.A), .int .i64 (p1_x.B_)]]) (zs := [.int .i64 (0), .string (⟨#[]⟩), .int .i64 (0), .int .i64 (0)]) (out := [.int .i64 (p1_x.Kind), .string (p1_x.Name), .int .i64 (p1_x.A), .int .i64 (p1_x.B_)]) (ys := [p1_x]) rfl rfl rfl ⟨rfl, trivial⟩ Proofs.Tryd.runUnderlying32 Proofs.Tryd.sizeOf49 rfl Proofs.Tryd.zeroValue49 (by kernel_rfl) rfl rfl rfl rfl ⟨[.int .i64 (p1_x.Kind), .string (p1_x.Name), .int .i64 (p1_x.A), .int .i64 (p1_x.B_)], [], rfl, rfl, rfl⟩ rfl ?_
    intro b113 v114 H115 hv116 hle117 h118
    have hc119 : Value.cap' v114 = ([p1_x]).length := by rw [hv116]; rfl
    exact W_end (OneT_end [] hle117 ⟨v114, rfl, rfl, (h118), (hc119)⟩)
  · intro HX hX X Rest hR
    rintro _ _ ⟨rfl, rfl⟩
    rintro _ _ ⟨v114, rfl, rfl, h118, hc119⟩
    intro hU hUp
    refine W_as (M' := .row v1 49 (Rep.sz S_api_InterlockNode) p0_p.nodes.length xs0 :: Rest) rfl ?_
    refine W_appendO (α := S_api_InterlockNode) (l := p0_p.nodes) (ys := [p1_x]) rfl rfl Proofs.Tryd.underlying32 ⟨_, rfl, rfl, rfl, rfl⟩ rfl rfl rfl rfl rfl (h1.mono hX) h118 hz109 ?_
    intro v120 xs121 hr122
    exact W_end (OneT_end [.row v120 49 (Rep.sz S_api_InterlockNode) (p0_p.nodes ++ ([p1_x])).length xs121] (Hp.le_refl _) ⟨v120, xs121, rfl, rfl, (hr122)⟩)
  intro H123 hle124
  rintro _ _ ⟨rfl, rfl⟩
  rintro _ _ ⟨rfl, rfl⟩
  rintro _ _ ⟨rfl, rfl⟩
  rintro _ _ ⟨rfl, rfl⟩
  rintro _ _ ⟨rfl, rfl⟩
  rintro _ _ ⟨rfl, rfl⟩
  rintro _ _ ⟨v114, rfl, rfl, h118, hc119⟩
  rintro _ _ ⟨v120, xs121, rfl, rfl, hr122⟩
  refine W_as (M' := .row v120 49 (Rep.sz S_api_InterlockNode) (p0_p.nodes ++ ([p1_x])).length xs121 :: .obj b101 (.cells [.int .i64 (p1_x.Kind), .string (p1_x.Name), .int .i64 (p1_x.A), .int .i64 (p1_x.B_)].toArray 49 (0, 0)) :: .obj b0 (.cells [v0, v1, .bool (p0_p.bad)].toArray 42 (0, 0)) :: M) rfl ?_
  refine W_nilCheck rfl rfl rfl ?_
  refine W_field (o := 1) rfl rfl Proofs.Tryd.runUnderlying42 rfl Proofs.Tryd.sizeOf32 rfl rfl rfl ?_
  refine W_perm (List.Perm.trans (List.Perm.cons _ (List.Perm.swap _ _ _)) (List.Perm.swap _ _ _)) ?_
  refine W_store (cs := [v120]) (out := [v0, v120, .bool (p0_p.bad)]) rfl Proofs.Tryd.sizeOf32 rfl rfl (Rw.cells hr122) rfl rfl (all_cons (Rw.one hr122) all_nil) rfl ?_
  refine W_end ?_
  refine E_then ?_
  refine C_seq ?_
  refine C_region ?_
  refine W_move rfl rfl rfl ?_
  refine W_nilCheck rfl rfl rfl ?_
  refine W_field (o := 1) rfl rfl Proofs.Tryd.runUnderlying42 rfl Proofs.Tryd.sizeOf32 rfl rfl rfl ?_
  refine W_load rfl rfl Proofs.Tryd.isAgg32 rfl (own_at (List.mem_cons_self ..) rfl) ?_
  refine W_lenO (List.mem_cons_of_mem _ (List.mem_cons_self ..)) rfl rfl Proofs.Tryd.runUnderlying32 rfl ?_
  refine W_bin rfl rfl rfl rfl rfl ?_
  refine W_assign rfl rfl rfl ?_
  refine W_end ?_
  refine E_then ?_
  refine C_ret ?_
  obtain rfl := Option.some.inj hm
  refine E_drop (List.Sublist.cons_cons _ (List.Sublist.cons_cons _ (List.Sublist.cons _ (List.Sublist.refl _)))) ?_
  exact end1 rfl rfl ⟨hle124, v0, v120, xs121, rfl, rfl, (h0.mono hle124), hr122⟩

theorem m_interlock_parser_chain__interlock_parser_factorS0_c {self : S_interlock_parser → Option (Int × S_interlock_parser)} (ih : ∀ {B : Nat} {w0 w : World} {H : Hp} {M : List Res} {p0_p : S_interlock_parser} {b0 : Nat} {v0 : Value} {v1 : Value} {xs0 : List Value} {r : Int × S_interlock_parser} (hm : self p0_p = some r) (h0 : RdS H v0 p0_p.words) (h1 : Rw H v1 xs0 p0_p.nodes) (ht : St B w0 H (.obj b0 (.cells [v0, v1, .bool (p0_p.bad)].toArray 42 (0, 0)) :: .row v1 49 (Rep.sz S_api_InterlockNode) p0_p.nodes.length xs0 :: M) w), Calls Proofs.Tryd.prog 38 [.pointer (some ⟨b0, 0, none⟩)].toArray w (Ret B w0 fun H' M' v => H.le H' ∧ ∃ qv0 : Value, ∃ qv1 : Value, ∃ qxs0 : List Value, .obj b0 (.cells [qv0, qv1, .bool (r.2.bad)].toArray 42 (0, 0)) :: .row qv1 49 (Rep.sz S_api_InterlockNode) r.2.nodes.length qxs0 :: M = M' ∧ .int .i64 (r.1) = v ∧ RdS H' qv0 r.2.words ∧ Rw H' qv1 qxs0 r.2.nodes)) {B : Nat} {w0 w : World} {H : Hp} {M : List Res} {p0_p : S_interlock_parser} {word : ByteArray} {kind : Int} {b0 : Nat} {v0 : Value} {v1 : Value} {xs0 : List Value} {r : Int × S_interlock_parser} (hm : m_interlock_parser_chain__interlock_parser_factorS0 self p0_p word kind = some r) (h0 : RdS H v0 p0_p.words) (h1 : Rw H v1 xs0 p0_p.nodes) (ht : St B w0 H (.obj b0 (.cells [v0, v1, .bool (p0_p.bad)].toArray 42 (0, 0)) :: .row v1 49 (Rep.sz S_api_InterlockNode) p0_p.nodes.length xs0 :: M) w) :
    Calls Proofs.Tryd.prog 28 [.pointer (some ⟨b0, 0, none⟩), .string (word), .int .i64 (kind), .func (.func 38) [.pointer (some ⟨b0, 0, none⟩)].toArray [].toArray].toArray w (Ret B w0 fun H' M' v => H.le H' ∧ ∃ qv0 : Value, ∃ qv1 : Value, ∃ qxs0 : List Value, .obj b0 (.cells [qv0, qv1, .bool (r.2.bad)].toArray 42 (0, 0)) :: .row qv1 49 (Rep.sz S_api_InterlockNode) r.2.nodes.length qxs0 :: M = M' ∧ .int .i64 (r.1) = v ∧ RdS H' qv0 r.2.words ∧ Rw H' qv1 qxs0 r.2.nodes) := by
  unfold m_interlock_parser_chain__interlock_parser_factorS0 at hm
  refine enter Proofs.Tryd.func28 rfl rfl rfl ht ?_
  refine C_seq ?_
  refine C_region ?_
  refine W_assign rfl rfl rfl ?_
  refine W_end ?_
  refine E_then ?_
  refine C_seq ?_
  refine C_region ?_
  refine W_move rfl rfl rfl ?_
  obtain ⟨r101, hc102, hm⟩ := bind_some hm
  refine W_callv Proofs.Tryd.call38 rfl rfl rfl rfl (fun w ht => by have h := ih (hm := hc102) h0 h1 ht; exact h) ?_
  rintro _ H109 _ ⟨hle110, v104, v106, xs107, rfl, rfl, h105, h108⟩
  refine W_assign rfl rfl rfl ?_
  refine W_end ?_
  refine E_then ?_
  refine C_seq_join (fun H' M' L' => ∃ n249 : Int, ∃ l251 : (List ByteArray), ∃ l255 : List S_api_InterlockNode, ∃ c257 : Bool, ∃ v250 : Value, ∃ v253 : Value, ∃ xs254 : List Value, m_interlock_parser_chain__interlock_parser_factorS0_b2 n249 l251 l255 c257 = some r ∧ RdS H' v250 l251 ∧ Rw H' v253 xs254 l255 ∧ H109.le H' ∧ .row v253 49 (Rep.sz S_api_InterlockNode) l255.length xs254 :: .obj b0 (.cells [v250, v253, .bool (c257)].toArray 42 (0, 0)) :: M = M' ∧ [(9, .int .i64 (n249))] = L') ?_ (fun J260 => ?_)
  · rintro H258 _ _ ⟨n249, l251, l255, c257, v250, v253, xs254, hm, h252, hr256, hle259, rfl, rfl⟩
    unfold m_interlock_parser_chain__interlock_parser_factorS0_b2 at hm
    refine C_seq ?_
    refine C_region ?_
    refine W_move rfl rfl rfl ?_
    refine W_assign rfl rfl rfl ?_
    refine W_end ?_
    refine E_then ?_
    refine C_ret ?_
    obtain rfl := Option.some.inj hm
    refine E_perm (List.Perm.swap _ _ _) ?_
    exact end1 rfl rfl ⟨(Hp.le_trans hle110 hle259), v250, v253, xs254, rfl, rfl, h252, hr256⟩
  · refine C_block ?_
    refine C_keep (L' := [(0, .pointer (some ⟨b0, 0, none⟩)), (1, .string (word)), (2, .int .i64 (kind)), (3, .func (.func 38) [.pointer (some ⟨b0, 0, none⟩)].toArray [].toArray), (9, .int .i64 (r101.1))]) ⟨rfl, rfl, rfl, rfl, rfl, trivial⟩ (List.Perm.swap _ _ _) ?_
    refine C_loop (fun n H' M' L' => ∃ n347 : Int, ∃ l349 : (List ByteArray), ∃ l353 : List S_api_InterlockNode, ∃ c355 : Bool, ∃ v348 : Value, ∃ v351 : Value, ∃ xs352 : List Value, loopF (fun s358 n => m_interlock_parser_chain__interlock_parser_factorS0_b3 self word kind s358.1 s358.2.1 s358.2.2.1 s358.2.2.2 n) n (n347, l349, l353, c355) = some r ∧ RdS H' v348 l349 ∧ Rw H' v351 xs352 l353 ∧ H109.le H' ∧ .row v351 49 (Rep.sz S_api_InterlockNode) l353.length xs352 :: .obj b0 (.cells [v348, v351, .bool (c355)].toArray 42 (0, 0)) :: M = M' ∧ [(0, .pointer (some ⟨b0, 0, none⟩)), (1, .string (word)), (2, .int .i64 (kind)), (3, .func (.func 38) [.pointer (some ⟨b0, 0, none⟩)].toArray [].toArray), (9, .int .i64 (n347))] = L') FUEL ⟨r101.1, r101.2.words, r101.2.nodes, r101.2.bad, v104, v106, xs107, hm, h105, h108, (Hp.le_refl _), rfl, rfl⟩ ?_
    rintro n361 H356 _ _ ⟨n347, l349, l353, c355, v348, v351, xs352, hm, h350, hr354, hle357, rfl, rfl⟩
    cases n361 with
    | zero => cases hm
    | succ n361 =>
      have hm : m_interlock_parser_chain__interlock_parser_factorS0_b3 self word kind n347 l349 l353 c355 (loopF (fun s358 n => m_interlock_parser_chain__interlock_parser_factorS0_b3 self word kind s358.1 s358.2.1 s358.2.2.1 s358.2.2.2 n) n361) = some r := hm
      generalize hn360 : loopF (fun s358 n => m_interlock_parser_chain__interlock_parser_factorS0_b3 self word kind s358.1 s358.2.1 s358.2.2.1 s358.2.2.2 n) n361 = nx359 at hm
      unfold m_interlock_parser_chain__interlock_parser_factorS0_b3 at hm
      refine C_seq ?_
      refine C_seq ?_
      refine C_region ?_
      refine W_move rfl rfl rfl ?_
      refine W_nilCheck rfl rfl rfl ?_
      refine W_field (o := 2) rfl rfl Proofs.Tryd.runUnderlying42 rfl Proofs.Tryd.sizeOf4 rfl rfl rfl ?_
      refine W_load rfl rfl Proofs.Tryd.isAgg4 rfl (own_at (List.mem_cons_of_mem _ (List.mem_cons_self ..)) rfl) ?_
      refine W_un rfl rfl rfl rfl ?_
      refine W_move rfl rfl rfl ?_
      cases hb367 : (c355)
      · have hm := ite_f' hb367 hm
        refine W_move rfl rfl rfl ?_
        refine W_move rfl rfl rfl ?_
        refine W_perm (List.Perm.swap _ _ _) ?_
        obtain ⟨r368, hc369, hm⟩ := bind_some hm
        refine W_call Proofs.Tryd.call13 rfl rfl rfl (fun w ht => by have h := m_interlock_parser_take_c (hm := hc369) h350 hr354 ht; exact h) ?_
        rintro _ H376 _ ⟨hle377, v371, v373, xs374, rfl, rfl, h372, h375⟩
        refine W_pick rfl rfl rfl rfl ?_
        refine W_end ?_
        refine E_then ?_
        refine C_cond (b := r368.1) rfl (fun hb378 => ?_) (fun hb378 => ?_)
        · have hm := ite_t' hb378 hm
          refine C_skip ?_
          refine E_then ?_
          refine C_block ?_
          refine C_seq ?_
          refine C_region ?_
          refine W_move rfl rfl rfl ?_
          obtain ⟨r379, hc380, hm⟩ := bind_some hm
          refine W_callv Proofs.Tryd.call38 rfl rfl rfl rfl (fun w ht => by have h := ih (hm := hc380) h372 h375 ht; exact h) ?_
          rintro _ H387 _ ⟨hle388, v382, v384, xs385, rfl, rfl, h383, h386⟩
          refine W_assign rfl rfl rfl ?_
          refine W_end ?_
          refine E_then ?_
          refine C_region ?_
          refine W_move rfl rfl rfl ?_
          refine W_move rfl rfl rfl ?_
          refine W_move rfl rfl rfl ?_
          refine W_move rfl rfl rfl ?_
          refine W_build (css := [[.int .i64 (kind)], [.int .i64 (n347)], [.int .i64 (r379.1)]]) (zs := [.int .i64 (0), .string (⟨#[]⟩), .int .i64 (0), .int .i64 (0)]) (out := [.int .i64 (kind), .string (⟨#[]⟩), .int .i64 (n347), .int .i64 (r379.1)]) (places := [(0, 1), (1, 1), (2, 1), (3, 1)]) rfl rfl rfl ⟨rfl, rfl, rfl, trivial⟩ Proofs.Tryd.zeroValue49 rfl Proofs.Tryd.runUnderlying49 (fun w => by kernel_rfl) rfl ?_
          obtain ⟨r389, hc390, hm⟩ := bind_some hm
          refine W_call Proofs.Tryd.call37 rfl rfl rfl (fun w ht => by have h := m_interlock_parser_add_c (hm := hc390) h383 h386 ht; exact h) ?_
          rintro _ H397 _ ⟨hle398, v392, v394, xs395, rfl, rfl, h393, h396⟩
          refine W_assign rfl rfl rfl ?_
          refine W_end ?_
          refine E_normal_block ?_
          exact E_keepJ (E_back (Nat.lt_succ_self _) ⟨r389.1, r389.2.words, r389.2.nodes, r389.2.bad, v392, v394, xs395, (by rw [hn360]; exact hm), h393, h396, (Hp.le_trans (Hp.le_trans (Hp.le_trans hle357 hle377) hle388) hle398), rfl, rfl⟩) (List.Perm.swap _ _ _) ⟨rfl, rfl, rfl, rfl, rfl, trivial⟩
        · have hm := ite_f' hb378 hm
          refine C_exit ?_
          refine E_exit_then ?_
          refine E_exit_then ?_
          refine E_exit_hit ?_
          exact E_keepJ (J260 _ _ _ ⟨n347, r368.2.words, r368.2.nodes, r368.2.bad, v371, v373, xs374, hm, h372, h375, (Hp.le_trans hle357 hle377), rfl, rfl⟩) (List.Perm.swap _ _ _) ⟨rfl, trivial⟩
      · have hm := ite_t' hb367 hm
        refine W_no rfl rfl rfl ?_
        refine W_no rfl rfl rfl ?_
        refine W_no rfl rfl rfl ?_
        refine W_pick rfl rfl rfl rfl ?_
        refine W_end ?_
        refine E_then ?_
        refine C_cond (b := false) rfl (fun hb => Bool.noConfusion hb) (fun _ => ?_)
        refine C_exit ?_
        refine E_exit_then ?_
        refine E_exit_then ?_
        refine E_exit_hit ?_
        exact E_keepJ (J260 _ _ _ ⟨n347, l349, l353, true, v348, v351, xs352, hm, h350, hr354, hle357, rfl, rfl⟩) (List.Perm.refl _) ⟨rfl, trivial⟩

theorem m_interlock_parser_and_c {self : S_interlock_parser → Option (Int × S_interlock_parser)} (ih : ∀ {B : Nat} {w0 w : World} {H : Hp} {M : List Res} {p0_p : S_interlock_parser} {b0 : Nat} {v0 : Value} {v1 : Value} {xs0 : List Value} {r : Int × S_interlock_parser} (hm : self p0_p = some r) (h0 : RdS H v0 p0_p.words) (h1 : Rw H v1 xs0 p0_p.nodes) (ht : St B w0 H (.obj b0 (.cells [v0, v1, .bool (p0_p.bad)].toArray 42 (0, 0)) :: .row v1 49 (Rep.sz S_api_InterlockNode) p0_p.nodes.length xs0 :: M) w), Calls Proofs.Tryd.prog 38 [.pointer (some ⟨b0, 0, none⟩)].toArray w (Ret B w0 fun H' M' v => H.le H' ∧ ∃ qv0 : Value, ∃ qv1 : Value, ∃ qxs0 : List Value, .obj b0 (.cells [qv0, qv1, .bool (r.2.bad)].toArray 42 (0, 0)) :: .row qv1 49 (Rep.sz S_api_InterlockNode) r.2.nodes.length qxs0 :: M = M' ∧ .int .i64 (r.1) = v ∧ RdS H' qv0 r.2.words ∧ Rw H' qv1 qxs0 r.2.nodes)) {B : Nat} {w0 w : World} {H : Hp} {M : List Res} {p0_p : S_interlock_parser} {b0 : Nat} {v0 : Value} {v1 : Value} {xs0 : List Value} {r : Int × S_interlock_parser} (hm : m_interlock_parser_and self p0_p = some r) (h0 : RdS H v0 p0_p.words) (h1 : Rw H v1 xs0 p0_p.nodes) (ht : St B w0 H (.obj b0 (.cells [v0, v1, .bool (p0_p.bad)].toArray 42 (0, 0)) :: .row v1 49 (Rep.sz S_api_InterlockNode) p0_p.nodes.length xs0 :: M) w) :
    Calls Proofs.Tryd.prog 29 [.pointer (some ⟨b0, 0, none⟩)].toArray w (Ret B w0 fun H' M' v => H.le H' ∧ ∃ qv0 : Value, ∃ qv1 : Value, ∃ qxs0 : List Value, .obj b0 (.cells [qv0, qv1, .bool (r.2.bad)].toArray 42 (0, 0)) :: .row qv1 49 (Rep.sz S_api_InterlockNode) r.2.nodes.length qxs0 :: M = M' ∧ .int .i64 (r.1) = v ∧ RdS H' qv0 r.2.words ∧ Rw H' qv1 qxs0 r.2.nodes) := by
  unfold m_interlock_parser_and at hm
  refine enter Proofs.Tryd.func29 rfl rfl rfl ht ?_
  refine C_seq ?_
  refine C_region ?_
  refine W_assign rfl rfl rfl ?_
  refine W_end ?_
  refine E_then ?_
  refine C_seq ?_
  refine C_region ?_
  refine W_move rfl rfl rfl ?_
  refine W_move rfl rfl rfl ?_
  refine W_makeFunc rfl rfl rfl rfl ?_
  obtain ⟨r101, hc102, hm⟩ := bind_some hm
  refine W_call Proofs.Tryd.call28 rfl rfl rfl (fun w ht => by have h := m_interlock_parser_chain__interlock_parser_factorS0_c (self := self) ih (hm := hc102) h0 h1 ht; exact h) ?_
  rintro _ H109 _ ⟨hle110, v104, v106, xs107, rfl, rfl, h105, h108⟩
  refine W_assign rfl rfl rfl ?_
  refine W_end ?_
  refine E_then ?_
  refine C_ret ?_
  obtain rfl := Option.some.inj hm
  exact end1 rfl rfl ⟨hle110, v104, v106, xs107, rfl, rfl, h105, h108⟩

theorem m_interlock_parser_chain__interlock_parser_andS0_c {self : S_interlock_parser → Option (Int × S_interlock_parser)} (ih : ∀ {B : Nat} {w0 w : World} {H : Hp} {M : List Res} {p0_p : S_interlock_parser} {b0 : Nat} {v0 : Value} {v1 : Value} {xs0 : List Value} {r : Int × S_interlock_parser} (hm : self p0_p = some r) (h0 : RdS H v0 p0_p.words) (h1 : Rw H v1 xs0 p0_p.nodes) (ht : St B w0 H (.obj b0 (.cells [v0, v1, .bool (p0_p.bad)].toArray 42 (0, 0)) :: .row v1 49 (Rep.sz S_api_InterlockNode) p0_p.nodes.length xs0 :: M) w), Calls Proofs.Tryd.prog 38 [.pointer (some ⟨b0, 0, none⟩)].toArray w (Ret B w0 fun H' M' v => H.le H' ∧ ∃ qv0 : Value, ∃ qv1 : Value, ∃ qxs0 : List Value, .obj b0 (.cells [qv0, qv1, .bool (r.2.bad)].toArray 42 (0, 0)) :: .row qv1 49 (Rep.sz S_api_InterlockNode) r.2.nodes.length qxs0 :: M = M' ∧ .int .i64 (r.1) = v ∧ RdS H' qv0 r.2.words ∧ Rw H' qv1 qxs0 r.2.nodes)) {B : Nat} {w0 w : World} {H : Hp} {M : List Res} {p0_p : S_interlock_parser} {word : ByteArray} {kind : Int} {b0 : Nat} {v0 : Value} {v1 : Value} {xs0 : List Value} {r : Int × S_interlock_parser} (hm : m_interlock_parser_chain__interlock_parser_andS0 self p0_p word kind = some r) (h0 : RdS H v0 p0_p.words) (h1 : Rw H v1 xs0 p0_p.nodes) (ht : St B w0 H (.obj b0 (.cells [v0, v1, .bool (p0_p.bad)].toArray 42 (0, 0)) :: .row v1 49 (Rep.sz S_api_InterlockNode) p0_p.nodes.length xs0 :: M) w) :
    Calls Proofs.Tryd.prog 28 [.pointer (some ⟨b0, 0, none⟩), .string (word), .int .i64 (kind), .func (.func 29) [.pointer (some ⟨b0, 0, none⟩)].toArray [].toArray].toArray w (Ret B w0 fun H' M' v => H.le H' ∧ ∃ qv0 : Value, ∃ qv1 : Value, ∃ qxs0 : List Value, .obj b0 (.cells [qv0, qv1, .bool (r.2.bad)].toArray 42 (0, 0)) :: .row qv1 49 (Rep.sz S_api_InterlockNode) r.2.nodes.length qxs0 :: M = M' ∧ .int .i64 (r.1) = v ∧ RdS H' qv0 r.2.words ∧ Rw H' qv1 qxs0 r.2.nodes) := by
  unfold m_interlock_parser_chain__interlock_parser_andS0 at hm
  refine enter Proofs.Tryd.func28 rfl rfl rfl ht ?_
  refine C_seq ?_
  refine C_region ?_
  refine W_assign rfl rfl rfl ?_
  refine W_end ?_
  refine E_then ?_
  refine C_seq ?_
  refine C_region ?_
  refine W_move rfl rfl rfl ?_
  obtain ⟨r101, hc102, hm⟩ := bind_some hm
  refine W_callv Proofs.Tryd.call29 rfl rfl rfl rfl (fun w ht => by have h := m_interlock_parser_and_c (self := self) ih (hm := hc102) h0 h1 ht; exact h) ?_
  rintro _ H109 _ ⟨hle110, v104, v106, xs107, rfl, rfl, h105, h108⟩
  refine W_assign rfl rfl rfl ?_
  refine W_end ?_
  refine E_then ?_
  refine C_seq_join (fun H' M' L' => ∃ n249 : Int, ∃ l251 : (List ByteArray), ∃ l255 : List S_api_InterlockNode, ∃ c257 : Bool, ∃ v250 : Value, ∃ v253 : Value, ∃ xs254 : List Value, m_interlock_parser_chain__interlock_parser_andS0_b2 n249 l251 l255 c257 = some r ∧ RdS H' v250 l251 ∧ Rw H' v253 xs254 l255 ∧ H109.le H' ∧ .row v253 49 (Rep.sz S_api_InterlockNode) l255.length xs254 :: .obj b0 (.cells [v250, v253, .bool (c257)].toArray 42 (0, 0)) :: M = M' ∧ [(9, .int .i64 (n249))] = L') ?_ (fun J260 => ?_)
  · rintro H258 _ _ ⟨n249, l251, l255, c257, v250, v253, xs254, hm, h252, hr256, hle259, rfl, rfl⟩
    unfold m_interlock_parser_chain__interlock_parser_andS0_b2 at hm
    refine C_seq ?_
    refine C_region ?_
    refine W_move rfl rfl rfl ?_
    refine W_assign rfl rfl rfl ?_
    refine W_end ?_
    refine E_then ?_
    refine C_ret ?_
    obtain rfl := Option.some.inj hm
    refine E_perm (List.Perm.swap _ _ _) ?_
    exact end1 rfl rfl ⟨(Hp.le_trans hle110 hle259), v250, v253, xs254, rfl, rfl, h252, hr256⟩
  · refine C_block ?_
    refine C_keep (L' := [(0, .pointer (some ⟨b0, 0, none⟩)), (1, .string (word)), (2, .int .i64 (kind)), (3, .func (.func 29) [.pointer (some ⟨b0, 0, none⟩)].toArray [].toArray), (9, .int .i64 (r101.1))]) ⟨rfl, rfl, rfl, rfl, rfl, trivial⟩ (List.Perm.swap _ _ _) ?_
    refine C_loop (fun n H' M' L' => ∃ n347 : Int, ∃ l349 : (List ByteArray), ∃ l353 : List S_api_InterlockNode, ∃ c355 : Bool, ∃ v348 : Value, ∃ v351 : Value, ∃ xs352 : List Value, loopF (fun s358 n => m_interlock_parser_chain__interlock_parser_andS0_b3 self word kind s358.1 s358.2.1 s358.2.2.1 s358.2.2.2 n) n (n347, l349, l353, c355) = some r ∧ RdS H' v348 l349 ∧ Rw H' v351 xs352 l353 ∧ H109.le H' ∧ .row v351 49 (Rep.sz S_api_InterlockNode) l353.length xs352 :: .obj b0 (.cells [v348, v351, .bool (c355)].toArray 42 (0, 0)) :: M = M' ∧ [(0, .pointer (some ⟨b0, 0, none⟩)), (1, .string (word)), (2, .int .i64 (kind)), (3, .func (.func 29) [.pointer (some ⟨b0, 0, none⟩)].toArray [].toArray), (9, .int .i64 (n347))] = L') FUEL ⟨r101.1, r101.2.words, r101.2.nodes, r101.2.bad, v104, v106, xs107, hm, h105, h108, (Hp.le_refl _), rfl, rfl⟩ ?_
    rintro n361 H356 _ _ ⟨n347, l349, l353, c355, v348, v351, xs352, hm, h350, hr354, hle357, rfl, rfl⟩
    cases n361 with
    | zero => cases hm
    | succ n361 =>
      have hm : m_interlock_parser_chain__interlock_parser_andS0_b3 self word kind n347 l349 l353 c355 (loopF (fun s358 n => m_interlock_parser_chain__interlock_parser_andS0_b3 self word kind s358.1 s358.2.1 s358.2.2.1 s358.2.2.2 n) n361) = some r := hm
      generalize hn360 : loopF (fun s358 n => m_interlock_parser_chain__interlock_parser_andS0_b3 self word kind s358.1 s358.2.1 s358.2.2.1 s358.2.2.2 n) n361 = nx359 at hm
      unfold m_interlock_parser_chain__interlock_parser_andS0_b3 at hm
      refine C_seq ?_
      refine C_seq ?_
      refine C_region ?_
      refine W_move rfl rfl rfl ?_
      refine W_nilCheck rfl rfl rfl ?_
      refine W_field (o := 2) rfl rfl Proofs.Tryd.runUnderlying42 rfl Proofs.Tryd.sizeOf4 rfl rfl rfl ?_
      refine W_load rfl rfl Proofs.Tryd.isAgg4 rfl (own_at (List.mem_cons_of_mem _ (List.mem_cons_self ..)) rfl) ?_
      refine W_un rfl rfl rfl rfl ?_
      refine W_move rfl rfl rfl ?_
      cases hb367 : (c355)
      · have hm := ite_f' hb367 hm
        refine W_move rfl rfl rfl ?_
        refine W_move rfl rfl rfl ?_
        refine W_perm (List.Perm.swap _ _ _) ?_
        obtain ⟨r368, hc369, hm⟩ := bind_some hm
        refine W_call Proofs.Tryd.call13 rfl rfl rfl (fun w ht => by have h := m_interlock_parser_take_c (hm := hc369) h350 hr354 ht; exact h) ?_
        rintro _ H376 _ ⟨hle377, v371, v373, xs374, rfl, rfl, h372, h375⟩
        refine W_pick rfl rfl rfl rfl ?_
        refine W_end ?_
        refine E_then ?_
        refine C_cond (b := r368.1) rfl (fun hb378 => ?_) (fun hb378 => ?_)
        · have hm := ite_t' hb378 hm
          refine C_skip ?_
          refine E_then ?_
          refine C_block ?_
          refine C_seq ?_
          refine C_region ?_
          refine W_move rfl rfl rfl ?_
          obtain ⟨r379, hc380, hm⟩ := bind_some hm
          refine W_callv Proofs.Tryd.call29 rfl rfl rfl rfl (fun w ht => by have h := m_interlock_parser_and_c (self := self) ih (hm := hc380) h372 h375 ht; exact h) ?_
          rintro _ H387 _ ⟨hle388, v382, v384, xs385, rfl, rfl, h383, h386⟩
          refine W_assign rfl rfl rfl ?_
          refine W_end ?_
          refine E_then ?_
          refine C_region ?_
          refine W_move rfl rfl rfl ?_
          refine W_move rfl rfl rfl ?_
          refine W_move rfl rfl rfl ?_
          refine W_move rfl rfl rfl ?_
          refine W_build (css := [[.int .i64 (kind)], [.int .i64 (n347)], [.int .i64 (r379.1)]]) (zs := [.int .i64 (0), .string (⟨#[]⟩), .int .i64 (0), .int .i64 (0)]) (out := [.int .i64 (kind), .string (⟨#[]⟩), .int .i64 (n347), .int .i64 (r379.1)]) (places := [(0, 1), (1, 1), (2, 1), (3, 1)]) rfl rfl rfl ⟨rfl, rfl, rfl, trivial⟩ Proofs.Tryd.zeroValue49 rfl Proofs.Tryd.runUnderlying49 (fun w => by kernel_rfl) rfl ?_
          obtain ⟨r389, hc390, hm⟩ := bind_some hm
          refine W_call Proofs.Tryd.call37 rfl rfl rfl (fun w ht => by have h := m_interlock_parser_add_c (hm := hc390) h383 h386 ht; exact h) ?_
          rintro _ H397 _ ⟨hle398, v392, v394, xs395, rfl, rfl, h393, h396⟩
          refine W_assign rfl rfl rfl ?_
          refine W_end ?_
          refine E_normal_block ?_
          exact E_keepJ (E_back (Nat.lt_succ_self _) ⟨r389.1, r389.2.words, r389.2.nodes, r389.2.bad, v392, v394, xs395, (by rw [hn360]; exact hm), h393, h396, (Hp.le_trans (Hp.le_trans (Hp.le_trans hle357 hle377) hle388) hle398), rfl, rfl⟩) (List.Perm.swap _ _ _) ⟨rfl, rfl, rfl, rfl, rfl, trivial⟩
        · have hm := ite_f' hb378 hm
          refine C_exit ?_
          refine E_exit_then ?_
          refine E_exit_then ?_
          refine E_exit_hit ?_
          exact E_keepJ (J260 _ _ _ ⟨n347, r368.2.words, r368.2.nodes, r368.2.bad, v371, v373, xs374, hm, h372, h375, (Hp.le_trans hle357 hle377), rfl, rfl⟩) (List.Perm.swap _ _ _) ⟨rfl, trivial⟩
      · have hm := ite_t' hb367 hm
        refine W_no rfl rfl rfl ?_
        refine W_no rfl rfl rfl ?_
        refine W_no rfl rfl rfl ?_
        refine W_pick rfl rfl rfl rfl ?_
        refine W_end ?_
        refine E_then ?_
        refine C_cond (b := false) rfl (fun hb => Bool.noConfusion hb) (fun _ => ?_)
        refine C_exit ?_
        refine E_exit_then ?_
        refine E_exit_then ?_
        refine E_exit_hit ?_
        exact E_keepJ (J260 _ _ _ ⟨n347, l349, l353, true, v348, v351, xs352, hm, h350, hr354, hle357, rfl, rfl⟩) (List.Perm.refl _) ⟨rfl, trivial⟩

theorem m_interlock_parser_or_c {self : S_interlock_parser → Option (Int × S_interlock_parser)} (ih : ∀ {B : Nat} {w0 w : World} {H : Hp} {M : List Res} {p0_p : S_interlock_parser} {b0 : Nat} {v0 : Value} {v1 : Value} {xs0 : List Value} {r : Int × S_interlock_parser} (hm : self p0_p = some r) (h0 : RdS H v0 p0_p.words) (h1 : Rw H v1 xs0 p0_p.nodes) (ht : St B w0 H (.obj b0 (.cells [v0, v1, .bool (p0_p.bad)].toArray 42 (0, 0)) :: .row v1 49 (Rep.sz S_api_InterlockNode) p0_p.nodes.length xs0 :: M) w), Calls Proofs.Tryd.prog 38 [.pointer (some ⟨b0, 0, none⟩)].toArray w (Ret B w0 fun H' M' v => H.le H' ∧ ∃ qv0 : Value, ∃ qv1 : Value, ∃ qxs0 : List Value, .obj b0 (.cells [qv0, qv1, .bool (r.2.bad)].toArray 42 (0, 0)) :: .row qv1 49 (Rep.sz S_api_InterlockNode) r.2.nodes.length qxs0 :: M = M' ∧ .int .i64 (r.1) = v ∧ RdS H' qv0 r.2.words ∧ Rw H' qv1 qxs0 r.2.nodes)) {B : Nat} {w0 w : World} {H : Hp} {M : List Res} {p0_p : S_interlock_parser} {b0 : Nat} {v0 : Value} {v1 : Value} {xs0 : List Value} {r : Int × S_interlock_parser} (hm : m_interlock_parser_or self p0_p = some r) (h0 : RdS H v0 p0_p.words) (h1 : Rw H v1 xs0 p0_p.nodes) (ht : St B w0 H (.obj b0 (.cells [v0, v1, .bool (p0_p.bad)].toArray 42 (0, 0)) :: .row v1 49 (Rep.sz S_api_InterlockNode) p0_p.nodes.length xs0 :: M) w) :
    Calls Proofs.Tryd.prog 15 [.pointer (some ⟨b0, 0, none⟩)].toArray w (Ret B w0 fun H' M' v => H.le H' ∧ ∃ qv0 : Value, ∃ qv1 : Value, ∃ qxs0 : List Value, .obj b0 (.cells [qv0, qv1, .bool (r.2.bad)].toArray 42 (0, 0)) :: .row qv1 49 (Rep.sz S_api_InterlockNode) r.2.nodes.length qxs0 :: M = M' ∧ .int .i64 (r.1) = v ∧ RdS H' qv0 r.2.words ∧ Rw H' qv1 qxs0 r.2.nodes) := by
  unfold m_interlock_parser_or at hm
  refine enter Proofs.Tryd.func15 rfl rfl rfl ht ?_
  refine C_seq ?_
  refine C_region ?_
  refine W_assign rfl rfl rfl ?_
  refine W_end ?_
  refine E_then ?_
  refine C_seq ?_
  refine C_region ?_
  refine W_move rfl rfl rfl ?_
  refine W_move rfl rfl rfl ?_
  refine W_makeFunc rfl rfl rfl rfl ?_
  obtain ⟨r101, hc102, hm⟩ := bind_some hm
  refine W_call Proofs.Tryd.call28 rfl rfl rfl (fun w ht => by have h := m_interlock_parser_chain__interlock_parser_andS0_c (self := self) ih (hm := hc102) h0 h1 ht; exact h) ?_
  rintro _ H109 _ ⟨hle110, v104, v106, xs107, rfl, rfl, h105, h108⟩
  refine W_assign rfl rfl rfl ?_
  refine W_end ?_
  refine E_then ?_
  refine C_ret ?_
  obtain rfl := Option.some.inj hm
  exact end1 rfl rfl ⟨hle110, v104, v106, xs107, rfl, rfl, h105, h108⟩

theorem m_interlock_parser_factor_step_c {self : S_interlock_parser → Option (Int × S_interlock_parser)} (ih : ∀ {B : Nat} {w0 w : World} {H : Hp} {M : List Res} {p0_p : S_interlock_parser} {b0 : Nat} {v0 : Value} {v1 : Value} {xs0 : List Value} {r : Int × S_interlock_parser} (hm : self p0_p = some r) (h0 : RdS H v0 p0_p.words) (h1 : Rw H v1 xs0 p0_p.nodes) (ht : St B w0 H (.obj b0 (.cells [v0, v1, .bool (p0_p.bad)].toArray 42 (0, 0)) :: .row v1 49 (Rep.sz S_api_InterlockNode) p0_p.nodes.length xs0 :: M) w),
    Calls Proofs.Tryd.prog 38 [.pointer (some ⟨b0, 0, none⟩)].toArray w (Ret B w0 fun H' M' v => H.le H' ∧ ∃ qv0 : Value, ∃ qv1 : Value, ∃ qxs0 : List Value, .obj b0 (.cells [qv0, qv1, .bool (r.2.bad)].toArray 42 (0, 0)) :: .row qv1 49 (Rep.sz S_api_InterlockNode) r.2.nodes.length qxs0 :: M = M' ∧ .int .i64 (r.1) = v ∧ RdS H' qv0 r.2.words ∧ Rw H' qv1 qxs0 r.2.nodes)) {B : Nat} {w0 w : World} {H : Hp} {M : List Res} {p0_p : S_interlock_parser} {b0 : Nat} {v0 : Value} {v1 : Value} {xs0 : List Value} {r : Int × S_interlock_parser} (hm : m_interlock_parser_factor_step self p0_p = some r) (h0 : RdS H v0 p0_p.words) (h1 : Rw H v1 xs0 p0_p.nodes) (ht : St B w0 H (.obj b0 (.cells [v0, v1, .bool (p0_p.bad)].toArray 42 (0, 0)) :: .row v1 49 (Rep.sz S_api_InterlockNode) p0_p.nodes.length xs0 :: M) w) :
    Calls Proofs.Tryd.prog 38 [.pointer (some ⟨b0, 0, none⟩)].toArray w (Ret B w0 fun H' M' v => H.le H' ∧ ∃ qv0 : Value, ∃ qv1 : Value, ∃ qxs0 : List Value, .obj b0 (.cells [qv0, qv1, .bool (r.2.bad)].toArray 42 (0, 0)) :: .row qv1 49 (Rep.sz S_api_InterlockNode) r.2.nodes.length qxs0 :: M = M' ∧ .int .i64 (r.1) = v ∧ RdS H' qv0 r.2.words ∧ Rw H' qv1 qxs0 r.2.nodes) := by
  unfold m_interlock_parser_factor_step at hm
  refine enter Proofs.Tryd.func38 rfl rfl rfl ht ?_
  refine C_seq ?_
  refine C_region ?_
  refine W_assign rfl rfl rfl ?_
  refine W_end ?_
  refine E_then ?_
  refine C_seq_join (fun H' M' L' => ∃ l292 : (List ByteArray), ∃ l296 : List S_api_InterlockNode, ∃ c298 : Bool, ∃ v291 : Value, ∃ v294 : Value, ∃ xs295 : List Value, m_interlock_parser_factor_b2 l292 l296 c298 = some r ∧ RdS H' v291 l292 ∧ Rw H' v294 xs295 l296 ∧ H.le H' ∧ .row v294 49 (Rep.sz S_api_InterlockNode) l296.length xs295 :: .obj b0 (.cells [v291, v294, .bool (c298)].toArray 42 (0, 0)) :: M = M' ∧ [] = L') ?_ (fun J301 => ?_)
  · rintro H299 _ _ ⟨l292, l296, c298, v291, v294, xs295, hm, h293, hr297, hle300, rfl, rfl⟩
    unfold m_interlock_parser_factor_b2 at hm
    refine C_seq ?_
    refine C_region ?_
    refine W_assign rfl rfl rfl ?_
    refine W_end ?_
    refine E_then ?_
    refine C_ret ?_
    obtain rfl := Option.some.inj hm
    refine E_perm (List.Perm.swap _ _ _) ?_
    exact end1 rfl rfl ⟨hle300, v291, v294, xs295, rfl, rfl, h293, hr297⟩
  · refine C_block ?_
    refine C_seq ?_
    refine C_region ?_
    refine W_move rfl rfl rfl ?_
    refine W_nilCheck rfl rfl rfl ?_
    refine W_field (o := 2) rfl rfl Proofs.Tryd.runUnderlying42 rfl Proofs.Tryd.sizeOf4 rfl rfl rfl ?_
    refine W_load rfl rfl Proofs.Tryd.isAgg4 rfl (own_at (List.mem_cons_self ..) rfl) ?_
    refine W_assign rfl rfl rfl ?_
    refine W_end ?_
    refine E_then ?_
    refine C_cond (b := p0_p.bad) rfl (fun hb302 => ?_) (fun hb302 => ?_)
    · have hm := ite_t' hb302 hm
      refine C_skip ?_
      refine E_normal_block ?_
      exact E_keepJ (J301 _ _ _ ⟨p0_p.words, p0_p.nodes, p0_p.bad, v0, v1, xs0, hm, h0, h1, (Hp.le_refl _), rfl, rfl⟩) (List.Perm.swap _ _ _) trivial
    · have hm := ite_f' hb302 hm
      refine C_seq ?_
      refine C_region ?_
      refine W_move rfl rfl rfl ?_
      obtain ⟨r303, hc304, hm⟩ := bind_some hm
      refine W_call Proofs.Tryd.call13 rfl rfl rfl (fun w ht => by have h := m_interlock_parser_take_c (hm := hc304) h0 h1 ht; exact h) ?_
      rintro _ H311 _ ⟨hle312, v306, v308, xs309, rfl, rfl, h307, h310⟩
      refine W_assign rfl rfl rfl ?_
      refine W_end ?_
      refine E_then ?_
      refine C_cond (b := r303.1) rfl (fun hb313 => ?_) (fun hb313 => ?_)
      · have hm := ite_t' hb313 hm
        refine C_seq ?_
        refine C_region ?_
        refine W_move rfl rfl rfl ?_
        refine W_build (css := [[.int .i64 (0)]]) (zs := [.int .i64 (0), .string (⟨#[]⟩), .int .i64 (0), .int .i64 (0)]) (out := [.int .i64 (0), .string (⟨#[]⟩), .int .i64 (0), .int .i64 (0)]) (places := [(0, 1), (1, 1), (2, 1), (3, 1)]) rfl rfl rfl ⟨rfl, trivial⟩ Proofs.Tryd.zeroValue49 rfl Proofs.Tryd.runUnderlying49 (fun w => by kernel_rfl) rfl ?_
        obtain ⟨r314, hc315, hm⟩ := bind_some hm
        refine W_call Proofs.Tryd.call37 rfl rfl rfl (fun w ht => by have h := m_interlock_parser_add_c (hm := hc315) h307 h310 ht; exact h) ?_
        rintro _ H322 _ ⟨hle323, v317, v319, xs320, rfl, rfl, h318, h321⟩
        refine W_assign rfl rfl rfl ?_
        refine W_end ?_
        refine E_then ?_
        refine C_ret ?_
        refine E_ret_block ?_
        refine E_ret_then ?_
        obtain rfl := Option.some.inj hm
        exact end1 rfl rfl ⟨(Hp.le_trans hle312 hle323), v317, v319, xs320, rfl, rfl, h318, h321⟩
      · have hm := ite_f' hb313 hm
        refine C_seq ?_
        refine C_region ?_
        refine W_move rfl rfl rfl ?_
        obtain ⟨r324, hc325, hm⟩ := bind_some hm
        refine W_call Proofs.Tryd.call13 rfl rfl rfl (fun w ht => by have h := m_interlock_parser_take_c (hm := hc325) h307 h310 ht; exact h) ?_
        rintro _ H332 _ ⟨hle333, v327, v329, xs330, rfl, rfl, h328, h331⟩
        refine W_assign rfl rfl rfl ?_
        refine W_end ?_
        refine E_then ?_
        refine C_cond (b := r324.1) rfl (fun hb334 => ?_) (fun hb334 => ?_)
        · have hm := ite_t' hb334 hm
          refine C_seq ?_
          refine C_region ?_
          refine W_move rfl rfl rfl ?_
          refine W_build (css := [[.int .i64 (1)]]) (zs := [.int .i64 (0), .string (⟨#[]⟩), .int .i64 (0), .int .i64 (0)]) (out := [.int .i64 (1), .string (⟨#[]⟩), .int .i64 (0), .int .i64 (0)]) (places := [(0, 1), (1, 1), (2, 1), (3, 1)]) rfl rfl rfl ⟨rfl, trivial⟩ Proofs.Tryd.zeroValue49 rfl Proofs.Tryd.runUnderlying49 (fun w => by kernel_rfl) rfl ?_
          obtain ⟨r335, hc336, hm⟩ := bind_some hm
          refine W_call Proofs.Tryd.call37 rfl rfl rfl (fun w ht => by have h := m_interlock_parser_add_c (hm := hc336) h328 h331 ht; exact h) ?_
          rintro _ H343 _ ⟨hle344, v338, v340, xs341, rfl, rfl, h339, h342⟩
          refine W_assign rfl rfl rfl ?_
          refine W_end ?_
          refine E_then ?_
          refine C_ret ?_
          refine E_ret_block ?_
          refine E_ret_then ?_
          obtain rfl := Option.some.inj hm
          exact end1 rfl rfl ⟨(Hp.le_trans (Hp.le_trans hle312 hle333) hle344), v338, v340, xs341, rfl, rfl, h339, h342⟩
        · have hm := ite_f' hb334 hm
          refine C_seq ?_
          refine C_region ?_
          refine W_move rfl rfl rfl ?_
          obtain ⟨r345, hc346, hm⟩ := bind_some hm
          refine W_call Proofs.Tryd.call13 rfl rfl rfl (fun w ht => by have h := m_interlock_parser_take_c (hm := hc346) h328 h331 ht; exact h) ?_
          rintro _ H353 _ ⟨hle354, v348, v350, xs351, rfl, rfl, h349, h352⟩
          refine W_assign rfl rfl rfl ?_
          refine W_end ?_
          refine E_then ?_
          refine C_cond (b := r345.1) rfl (fun hb355 => ?_) (fun hb355 => ?_)
          · have hm := ite_t' hb355 hm
            refine C_seq ?_
            refine C_region ?_
            refine W_move rfl rfl rfl ?_
            refine W_move rfl rfl rfl ?_
            obtain ⟨r356, hc357, hm⟩ := bind_some hm
            refine W_call Proofs.Tryd.call14 rfl rfl rfl (fun w ht => by have h := m_interlock_parser_name_c (hm := hc357) h349 h352 ht; exact h) ?_
            rintro _ H364 _ ⟨hle365, v359, v361, xs362, rfl, rfl, h360, h363⟩
            refine W_build (css := [[.int .i64 (2)], [.string (r356.1)]]) (zs := [.int .i64 (0), .string (⟨#[]⟩), .int .i64 (0), .int .i64 (0)]) (out := [.int .i64 (2), .string (r356.1), .int .i64 (0), .int .i64 (0)]) (places := [(0, 1), (1, 1), (2, 1), (3, 1)]) rfl rfl rfl ⟨rfl, rfl, trivial⟩ Proofs.Tryd.zeroValue49 rfl Proofs.Tryd.runUnderlying49 (fun w => by kernel_rfl) rfl ?_
            obtain ⟨r366, hc367, hm⟩ := bind_some hm
            refine W_call Proofs.Tryd.call37 rfl rfl rfl (fun w ht => by have h := m_interlock_parser_add_c (hm := hc367) h360 h363 ht; exact h) ?_
            rintro _ H374 _ ⟨hle375, v369, v371, xs372, rfl, rfl, h370, h373⟩
            refine W_assign rfl rfl rfl ?_
            refine W_end ?_
            refine E_then ?_
            refine C_ret ?_
            refine E_ret_block ?_
            refine E_ret_then ?_
            obtain rfl := Option.some.inj hm
            exact end1 rfl rfl ⟨(Hp.le_trans (Hp.le_trans (Hp.le_trans (Hp.le_trans hle312 hle333) hle354) hle365) hle375), v369, v371, xs372, rfl, rfl, h370, h373⟩
          · have hm := ite_f' hb355 hm
            refine C_seq ?_
            refine C_region ?_
            refine W_move rfl rfl rfl ?_
            obtain ⟨r376, hc377, hm⟩ := bind_some hm
            refine W_call Proofs.Tryd.call13 rfl rfl rfl (fun w ht => by have h := m_interlock_parser_take_c (hm := hc377) h349 h352 ht; exact h) ?_
            rintro _ H384 _ ⟨hle385, v379, v381, xs382, rfl, rfl, h380, h383⟩
            refine W_assign rfl rfl rfl ?_
            refine W_end ?_
            refine E_then ?_
            refine C_cond (b := r376.1) rfl (fun hb386 => ?_) (fun hb386 => ?_)
            · have hm := ite_t' hb386 hm
              refine C_seq ?_
              refine C_region ?_
              refine W_move rfl rfl rfl ?_
              refine W_move rfl rfl rfl ?_
              obtain ⟨r387, hc388, hm⟩ := bind_some hm
              refine W_call Proofs.Tryd.call14 rfl rfl rfl (fun w ht => by have h := m_interlock_parser_name_c (hm := hc388) h380 h383 ht; exact h) ?_
              rintro _ H395 _ ⟨hle396, v390, v392, xs393, rfl, rfl, h391, h394⟩
              refine W_build (css := [[.int .i64 (3)], [.string (r387.1)]]) (zs := [.int .i64 (0), .string (⟨#[]⟩), .int .i64 (0), .int .i64 (0)]) (out := [.int .i64 (3), .string (r387.1), .int .i64 (0), .int .i64 (0)]) (places := [(0, 1), (1, 1), (2, 1), (3, 1)]) rfl rfl rfl ⟨rfl, rfl, trivial⟩ Proofs.Tryd.zeroValue49 rfl Proofs.Tryd.runUnderlying49 (fun w => by kernel_rfl) rfl ?_
              obtain ⟨r397, hc398, hm⟩ := bind_some hm
              refine W_call Proofs.Tryd.call37 rfl rfl rfl (fun w ht => by have h := m_interlock_parser_add_c (hm := hc398) h391 h394 ht; exact h) ?_
              rintro _ H405 _ ⟨hle406, v400, v402, xs403, rfl, rfl, h401, h404⟩
              refine W_assign rfl rfl rfl ?_
              refine W_end ?_
              refine E_then ?_
              refine C_ret ?_
              refine E_ret_block ?_
              refine E_ret_then ?_
              obtain rfl := Option.some.inj hm
              exact end1 rfl rfl ⟨(Hp.le_trans (Hp.le_trans (Hp.le_trans (Hp.le_trans (Hp.le_trans hle312 hle333) hle354) hle385) hle396) hle406), v400, v402, xs403, rfl, rfl, h401, h404⟩
            · have hm := ite_f' hb386 hm
              refine C_seq ?_
              refine C_region ?_
              refine W_move rfl rfl rfl ?_
              obtain ⟨r407, hc408, hm⟩ := bind_some hm
              refine W_call Proofs.Tryd.call13 rfl rfl rfl (fun w ht => by have h := m_interlock_parser_take_c (hm := hc408) h380 h383 ht; exact h) ?_
              rintro _ H415 _ ⟨hle416, v410, v412, xs413, rfl, rfl, h411, h414⟩
              refine W_assign rfl rfl rfl ?_
              refine W_end ?_
              refine E_then ?_
              refine C_cond (b := r407.1) rfl (fun hb417 => ?_) (fun hb417 => ?_)
              · have hm := ite_t' hb417 hm
                refine C_seq ?_
                refine C_region ?_
                refine W_move rfl rfl rfl ?_
                obtain ⟨r418, hc419, hm⟩ := bind_some hm
                refine W_call Proofs.Tryd.call38 rfl rfl rfl (fun w ht => by have h := ih (hm := hc419) h411 h414 ht; exact h) ?_
                rintro _ H426 _ ⟨hle427, v421, v423, xs424, rfl, rfl, h422, h425⟩
                refine W_assign rfl rfl rfl ?_
                refine W_end ?_
                refine E_then ?_
                refine C_seq ?_
                refine C_region ?_
                refine W_move rfl rfl rfl ?_
                refine W_move rfl rfl rfl ?_
                refine W_build (css := [[.int .i64 (4)], [.int .i64 (r418.1)]]) (zs := [.int .i64 (0), .string (⟨#[]⟩), .int .i64 (0), .int .i64 (0)]) (out := [.int .i64 (4), .string (⟨#[]⟩), .int .i64 (r418.1), .int .i64 (0)]) (places := [(0, 1), (1, 1), (2, 1), (3, 1)]) rfl rfl rfl ⟨rfl, rfl, trivial⟩ Proofs.Tryd.zeroValue49 rfl Proofs.Tryd.runUnderlying49 (fun w => by kernel_rfl) rfl ?_
                obtain ⟨r428, hc429, hm⟩ := bind_some hm
                refine W_call Proofs.Tryd.call37 rfl rfl rfl (fun w ht => by have h := m_interlock_parser_add_c (hm := hc429) h422 h425 ht; exact h) ?_
                rintro _ H436 _ ⟨hle437, v431, v433, xs434, rfl, rfl, h432, h435⟩
                refine W_assign rfl rfl rfl ?_
                refine W_end ?_
                refine E_then ?_
                refine C_ret ?_
                refine E_ret_block ?_
                refine E_ret_then ?_
                obtain rfl := Option.some.inj hm
                exact end1 rfl rfl ⟨(Hp.le_trans (Hp.le_trans (Hp.le_trans (Hp.le_trans (Hp.le_trans (Hp.le_trans hle312 hle333) hle354) hle385) hle416) hle427) hle437), v431, v433, xs434, rfl, rfl, h432, h435⟩
              · have hm := ite_f' hb417 hm
                refine C_seq ?_
                refine C_region ?_
                refine W_move rfl rfl rfl ?_
                obtain ⟨r438, hc439, hm⟩ := bind_some hm
                refine W_call Proofs.Tryd.call13 rfl rfl rfl (fun w ht => by have h := m_interlock_parser_take_c (hm := hc439) h411 h414 ht; exact h) ?_
                rintro _ H446 _ ⟨hle447, v441, v443, xs444, rfl, rfl, h442, h445⟩
                refine W_assign rfl rfl rfl ?_
                refine W_end ?_
                refine E_then ?_
                refine C_cond (b := r438.1) rfl (fun hb448 => ?_) (fun hb448 => ?_)
                · have hm := ite_t' hb448 hm
                  refine C_seq ?_
                  refine C_region ?_
                  refine W_move rfl rfl rfl ?_
                  obtain ⟨r449, hc450, hm⟩ := bind_some hm
                  refine W_call Proofs.Tryd.call15 rfl rfl rfl (fun w ht => by have h := m_interlock_parser_or_c (self := self) ih (hm := hc450) h442 h445 ht; exact h) ?_
                  rintro _ H457 _ ⟨hle458, v452, v454, xs455, rfl, rfl, h453, h456⟩
                  refine W_assign rfl rfl rfl ?_
                  refine W_end ?_
                  refine E_then ?_
                  refine C_seq_join (fun H' M' L' => ∃ l471 : (List ByteArray), ∃ l475 : List S_api_InterlockNode, ∃ c477 : Bool, ∃ v470 : Value, ∃ v473 : Value, ∃ xs474 : List Value, m_interlock_parser_factor_b3 r449 l471 l475 c477 = some r ∧ RdS H' v470 l471 ∧ Rw H' v473 xs474 l475 ∧ H457.le H' ∧ .row v473 49 (Rep.sz S_api_InterlockNode) l475.length xs474 :: .obj b0 (.cells [v470, v473, .bool (c477)].toArray 42 (0, 0)) :: M = M' ∧ [(4, .int .i64 (r449.1))] = L') ?_ (fun J480 => ?_)
                  · rintro H478 _ _ ⟨l471, l475, c477, v470, v473, xs474, hm, h472, hr476, hle479, rfl, rfl⟩
                    unfold m_interlock_parser_factor_b3 at hm
                    refine C_seq ?_
                    refine C_region ?_
                    refine W_move rfl rfl rfl ?_
                    refine W_assign rfl rfl rfl ?_
                    refine W_end ?_
                    refine E_then ?_
                    refine C_ret ?_
                    refine E_ret_block ?_
                    refine E_ret_then ?_
                    obtain rfl := Option.some.inj hm
                    refine E_perm (List.Perm.swap _ _ _) ?_
                    exact end1 rfl rfl ⟨(Hp.le_trans (Hp.le_trans (Hp.le_trans (Hp.le_trans (Hp.le_trans (Hp.le_trans (Hp.le_trans hle312 hle333) hle354) hle385) hle416) hle447) hle458) hle479), v470, v473, xs474, rfl, rfl, h472, hr476⟩
                  · refine C_seq ?_
                    refine C_region ?_
                    refine W_move rfl rfl rfl ?_
                    obtain ⟨r481, hc482, hm⟩ := bind_some hm
                    refine W_call Proofs.Tryd.call13 rfl rfl rfl (fun w ht => by have h := m_interlock_parser_take_c (hm := hc482) h453 h456 ht; exact h) ?_
                    rintro _ H489 _ ⟨hle490, v484, v486, xs487, rfl, rfl, h485, h488⟩
                    refine W_un rfl rfl rfl rfl ?_
                    refine W_end ?_
                    refine E_then ?_
                    refine C_cond (b := !r481.1) rfl (fun hb491 => ?_) (fun hb491 => ?_)
                    · have hm := ite_t' hb491 hm
                      refine C_region ?_
                      refine W_move rfl rfl rfl ?_
                      refine W_nilCheck rfl rfl rfl ?_
                      refine W_field (o := 2) rfl rfl Proofs.Tryd.runUnderlying42 rfl Proofs.Tryd.sizeOf4 rfl rfl rfl ?_
                      refine W_store (cs := [.bool (true)]) (out := [v484, v486, .bool (true)]) rfl Proofs.Tryd.sizeOf4 rfl rfl rfl rfl rfl (all_cons rfl all_nil) rfl ?_
                      refine W_end ?_
                      exact E_keepJ (J480 _ _ _ ⟨r481.2.words, r481.2.nodes, true, v484, v486, xs487, hm, h485, h488, hle490, rfl, rfl⟩) (List.Perm.swap _ _ _) ⟨rfl, trivial⟩
                    · have hm := ite_f' hb491 hm
                      refine C_skip ?_
                      exact E_keepJ (J480 _ _ _ ⟨r481.2.words, r481.2.nodes, r481.2.bad, v484, v486, xs487, hm, h485, h488, hle490, rfl, rfl⟩) (List.Perm.swap _ _ _) ⟨rfl, trivial⟩
                · have hm := ite_f' hb448 hm
                  refine C_region ?_
                  refine W_move rfl rfl rfl ?_
                  refine W_nilCheck rfl rfl rfl ?_
                  refine W_field (o := 2) rfl rfl Proofs.Tryd.runUnderlying42 rfl Proofs.Tryd.sizeOf4 rfl rfl rfl ?_
                  refine W_store (cs := [.bool (true)]) (out := [v441, v443, .bool (true)]) rfl Proofs.Tryd.sizeOf4 rfl rfl rfl rfl rfl (all_cons rfl all_nil) rfl ?_
                  refine W_end ?_
                  refine E_normal_block ?_
                  exact E_keepJ (J301 _ _ _ ⟨r438.2.words, r438.2.nodes, true, v441, v443, xs444, hm, h442, h445, (Hp.le_trans (Hp.le_trans (Hp.le_trans (Hp.le_trans (Hp.le_trans hle312 hle333) hle354) hle385) hle416) hle447), rfl, rfl⟩) (List.Perm.swap _ _ _) trivial
theorem m_interlock_parser_factor_fuel_c : ∀ (n : Nat) {B : Nat} {w0 w : World} {H : Hp} {M : List Res} {p0_p : S_interlock_parser} {b0 : Nat} {v0 : Value} {v1 : Value} {xs0 : List Value} {r : Int × S_interlock_parser} (hm : m_interlock_parser_factor_fuel n p0_p = some r) (h0 : RdS H v0 p0_p.words) (h1 : Rw H v1 xs0 p0_p.nodes) (ht : St B w0 H (.obj b0 (.cells [v0, v1, .bool (p0_p.bad)].toArray 42 (0, 0)) :: .row v1 49 (Rep.sz S_api_InterlockNode) p0_p.nodes.length xs0 :: M) w),
    Calls Proofs.Tryd.prog 38 [.pointer (some ⟨b0, 0, none⟩)].toArray w (Ret B w0 fun H' M' v => H.le H' ∧ ∃ qv0 : Value, ∃ qv1 : Value, ∃ qxs0 : List Value, .obj b0 (.cells [qv0, qv1, .bool (r.2.bad)].toArray 42 (0, 0)) :: .row qv1 49 (Rep.sz S_api_InterlockNode) r.2.nodes.length qxs0 :: M = M' ∧ .int .i64 (r.1) = v ∧ RdS H' qv0 r.2.words ∧ Rw H' qv1 qxs0 r.2.nodes)
  | 0 => fun hm => nomatch hm
  | n + 1 => by
    intros; exact m_interlock_parser_factor_step_c (self := m_interlock_parser_factor_fuel n) (m_interlock_parser_factor_fuel_c n) ‹_› ‹_› ‹_› ‹_›
theorem m_interlock_parser_factor_c {B : Nat} {w0 w : World} {H : Hp} {M : List Res} {p0_p : S_interlock_parser} {b0 : Nat} {v0 : Value} {v1 : Value} {xs0 : List Value} {r : Int × S_interlock_parser} (hm : m_interlock_parser_factor p0_p = some r) (h0 : RdS H v0 p0_p.words) (h1 : Rw H v1 xs0 p0_p.nodes) (ht : St B w0 H (.obj b0 (.cells [v0, v1, .bool (p0_p.bad)].toArray 42 (0, 0)) :: .row v1 49 (Rep.sz S_api_InterlockNode) p0_p.nodes.length xs0 :: M) w) :
    Calls Proofs.Tryd.prog 38 [.pointer (some ⟨b0, 0, none⟩)].toArray w (Ret B w0 fun H' M' v => H.le H' ∧ ∃ qv0 : Value, ∃ qv1 : Value, ∃ qxs0 : List Value, .obj b0 (.cells [qv0, qv1, .bool (r.2.bad)].toArray 42 (0, 0)) :: .row qv1 49 (Rep.sz S_api_InterlockNode) r.2.nodes.length qxs0 :: M = M' ∧ .int .i64 (r.1) = v ∧ RdS H' qv0 r.2.words ∧ Rw H' qv1 qxs0 r.2.nodes) := m_interlock_parser_factor_fuel_c FUEL (hm := hm) h0 h1 ht
end Go.Sim
