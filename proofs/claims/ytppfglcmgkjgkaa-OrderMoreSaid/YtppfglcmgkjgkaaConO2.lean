/-
  Printed by a program: each Go function computes its model.
-/
import Derived.Test.YtppfglcmgkjgkaaConO1
namespace Go.Sim
open Go
set_option linter.unusedVariables false
set_option linter.unusedSimpArgs false
set_option maxRecDepth 100000
theorem m_interlock_Check_c {B : Nat} {w0 w : World} {H : Hp} {M : List Res} {p0_l : (List S_api_InterlockRule)} {v0 : Value} {r : Int} (hm : m_interlock_Check p0_l = some r) (h0 : RdS H v0 p0_l) (ht : St B w0 H (M) w) :
    Calls Proofs.Try.prog 24 [v0].toArray w (Ret B w0 fun H' M' v => H = H' ∧ M = M' ∧ .int .i64 (r) = v) := by
  unfold m_interlock_Check at hm
  refine enter Proofs.Try.func24 rfl rfl rfl ht ?_
  refine C_seq ?_
  refine C_region ?_
  refine W_assign rfl rfl rfl ?_
  refine W_end ?_
  refine E_then ?_
  refine C_seq ?_
  refine C_seq ?_
  refine C_region ?_
  refine W_move rfl rfl rfl ?_
  refine W_lenR rfl rfl Proofs.Try.runUnderlying22 rfl h0 ?_
  refine W_bin rfl rfl rfl rfl rfl ?_
  refine W_end ?_
  refine E_then ?_
  refine C_cond (b := decide (24 < (p0_l.length : Int))) rfl (fun hb101 => ?_) (fun hb101 => ?_)
  · have hm := ite_t' hb101 hm
    refine C_seq ?_
    refine C_region ?_
    refine W_assign rfl rfl rfl ?_
    refine W_end ?_
    refine E_then ?_
    refine C_ret ?_
    refine E_ret_then ?_
    obtain rfl := Option.some.inj hm
    refine E_weak (Hp.le_refl _) ?_
    exact end1 rfl rfl ⟨rfl, rfl, rfl⟩
  · have hm := ite_f' hb101 hm
    refine C_skip ?_
    refine E_then ?_
    refine C_seq ?_
    refine C_seq ?_
    refine C_region ?_
    refine W_move rfl rfl rfl ?_
    refine W_lenR rfl rfl Proofs.Try.runUnderlying22 rfl h0 ?_
    refine W_move rfl rfl rfl ?_
    refine W_end ?_
    refine E_then ?_
    refine C_block ?_
    refine C_keep (L' := [(9, v0), (10, .int .i64 ((p0_l.length : Int))), (11, .int .i64 (((0 : Nat) : Int)))]) ⟨rfl, rfl, rfl, trivial⟩ (List.Perm.refl _) ?_
    refine C_loop (fun n H' M' L' => ∃ (k102 : Nat) (zs130' : List S_api_InterlockRule), (p0_l).drop k102 = zs130' ∧ zs130'.length = n ∧ forI (fun k y s125 n => m_interlock_Check_b1 k y n) (fun _ => some 0) k102 zs130' () = some r ∧ H.le H' ∧ M = M' ∧ [(9, v0), (10, .int .i64 ((p0_l.length : Int))), (11, .int .i64 ((k102 : Int)))] = L') _ ⟨0, _, rfl, rfl, hm, (Hp.le_refl _), rfl, rfl⟩ ?_
    rintro _ H123 _ _ ⟨k102, zs130', hd132, rfl, hm, hle124, rfl, rfl⟩
    refine C_seq ?_
    refine C_region ?_
    refine W_bin rfl rfl rfl rfl rfl ?_
    refine W_end (E_then ?_)
    refine C_seq ?_
    refine C_cond (b := decide ((k102 : Int) < (p0_l.length : Int))) rfl (fun hb134 => ?_) (fun hb134 => ?_)
    · obtain ⟨y129, zs130, rfl, hy131, hd133⟩ := rng_t hd132 hb134
      have hm : m_interlock_Check_b1 k102 y129 (forI (fun k y s125 n => m_interlock_Check_b1 k y n) (fun _ => some 0) (k102 + 1) zs130) = some r := hm
      generalize hn127 : forI (fun k y s125 n => m_interlock_Check_b1 k y n) (fun _ => some 0) (k102 + 1) zs130 = nx126 at hm
      unfold m_interlock_Check_b1 at hm
      refine C_skip (E_then ?_)
      refine C_seq ?_
      refine C_block ?_
      refine C_seq ?_
      refine C_region ?_
      obtain ⟨_, ⟨v136, rfl, h137⟩, hc135⟩ := (h0).elem hy131
      refine W_indexS rfl rfl Proofs.Try.runUnderlying22 Proofs.Try.sizeOf46 rfl (h0.mono hle124) rfl (Int.natCast_nonneg _) hy131 ?_
      refine W_loadAgg rfl rfl Proofs.Try.isAgg46 Proofs.Try.sizeOf46 rfl (hc135.mono hle124).at rfl ?_
      refine W_alloc (cs := [.bool (false), .string (⟨#[]⟩), .slice none 0 0]) rfl rfl Proofs.Try.zeroValue46 rfl (fun b138 => ?_)
      refine W_store (cs := [.bool (y129.Close), .string (y129.Switch), v136]) (out := [.bool (y129.Close), .string (y129.Switch), v136]) rfl Proofs.Try.sizeOf46 rfl rfl rfl rfl rfl (all_cons rfl (all_cons rfl (all_cons (RdS.one1 (h137.mono hle124)) all_nil))) (over_all rfl) ?_
      refine W_end ?_
      refine E_then ?_
      refine C_seq ?_
      refine C_seq ?_
      refine C_region ?_
      refine W_field (o := 1) rfl rfl Proofs.Try.runUnderlying46 rfl Proofs.Try.sizeOf9 rfl rfl rfl ?_
      refine W_load rfl rfl Proofs.Try.isAgg9 rfl (own_at (List.mem_cons_self ..) rfl) ?_
      obtain ⟨r139, hc140, hm⟩ := bind_some hm
      refine W_call Proofs.Try.call31 rfl rfl rfl (fun w ht => by have h := m_netmodel_Name_c (hm := hc140)  ht; exact h) ?_
      rintro _ _ _ ⟨rfl, rfl, rfl⟩
      refine W_un rfl rfl rfl rfl ?_
      refine W_end ?_
      refine E_then ?_
      refine C_cond (b := !r139) rfl (fun hb141 => ?_) (fun hb141 => ?_)
      · have hm := ite_t' hb141 hm
        refine C_seq ?_
        refine C_region ?_
        refine W_assign rfl rfl rfl ?_
        refine W_end ?_
        refine E_then ?_
        refine C_ret ?_
        refine E_ret_then ?_
        refine E_ret_block ?_
        refine E_ret_then ?_
        refine E_ret_then ?_
        refine E_ret_block ?_
        refine E_ret_then ?_
        obtain rfl := Option.some.inj hm
        refine E_drop (List.Sublist.cons _ (List.Sublist.refl _)) ?_
        refine E_weak hle124 ?_
        exact end1 rfl rfl ⟨rfl, rfl, rfl⟩
      · have hm := ite_f' hb141 hm
        refine C_skip ?_
        refine E_then ?_
        refine C_seq ?_
        refine C_region ?_
        refine W_field (o := 2) rfl rfl Proofs.Try.runUnderlying46 rfl Proofs.Try.sizeOf44 rfl rfl rfl ?_
        refine W_load rfl rfl Proofs.Try.isAgg44 rfl (own_at (List.mem_cons_self ..) rfl) ?_
        obtain ⟨r142, hc143, hm⟩ := bind_some hm
        refine W_call Proofs.Try.call32 rfl rfl rfl (fun w ht => by have h := m_interlock_condition_c (hm := hc143) (h137.mono hle124) ht; exact h) ?_
        rintro _ _ _ ⟨rfl, rfl, rfl⟩
        refine W_assign rfl rfl rfl ?_
        refine W_end ?_
        refine E_then ?_
        refine C_seq ?_
        refine C_region ?_
        refine W_move rfl rfl rfl ?_
        refine W_bin rfl rfl rfl rfl rfl ?_
        refine W_end ?_
        refine E_then ?_
        refine C_cond (b := !decide (r142 = 0)) rfl (fun hb144 => ?_) (fun hb144 => ?_)
        · have hm := ite_t' hb144 hm
          refine C_seq ?_
          refine C_region ?_
          refine W_move rfl rfl rfl ?_
          refine W_assign rfl rfl rfl ?_
          refine W_end ?_
          refine E_then ?_
          refine C_ret ?_
          refine E_ret_block ?_
          refine E_ret_then ?_
          refine E_ret_then ?_
          refine E_ret_block ?_
          refine E_ret_then ?_
          obtain rfl := Option.some.inj hm
          refine E_drop (List.Sublist.cons _ (List.Sublist.refl _)) ?_
          refine E_weak hle124 ?_
          exact end1 rfl rfl ⟨rfl, rfl, rfl⟩
        · have hm := ite_f' hb144 hm
          refine C_skip ?_
          refine E_normal_block ?_
          refine E_then ?_
          refine C_region ?_
          refine W_bin rfl rfl rfl rfl rfl ?_
          refine W_move rfl rfl rfl ?_
          refine W_end ?_
          refine E_drop (List.Sublist.cons _ (List.Sublist.refl _)) ?_
          exact E_keepJ (E_back (Nat.lt_succ_self _) ⟨k102 + 1, zs130, hd133, rfl, (by rw [hn127]; exact hm), hle124, rfl, rfl⟩) (List.Perm.refl _) ⟨rfl, rfl, (congrArg (fun z => some (Value.int .i64 z)) (i64_succ hy131 ((h0.mono hle124)).lenMax)), trivial⟩
    · obtain rfl := rng_f hd132 hb134
      have hm : (some 0) = some r := hm
      refine C_exit (E_exit_then ?_)
      refine E_exit_then ?_
      refine E_exit_hit ?_
      refine E_then ?_
      refine C_seq ?_
      refine C_region ?_
      refine W_assign rfl rfl rfl ?_
      refine W_end ?_
      refine E_then ?_
      refine C_ret ?_
      obtain rfl := Option.some.inj hm
      refine E_weak hle124 ?_
      exact end1 rfl rfl ⟨rfl, rfl, rfl⟩

theorem m_interlock_index_1_c {B : Nat} {w0 w : World} {H : Hp} {M : List Res} {p0_s : S_api_InterlockState} {p1_c1 : ByteArray} {b0 : Nat} {r : Bool} (hm : m_interlock_index_1 p0_s p1_c1 = r) (ht : St B w0 H (.obj b0 (.cells [.string (p1_c1)].toArray 9 (0, 0)) :: M) w) :
    Calls Proofs.Try.prog 37 [.agg [.string (p0_s.Name), .bool (p0_s.Closed)].toArray, .pointer (some ⟨b0, 0, none⟩)].toArray w (Ret B w0 fun H' M' v => H = H' ∧ .obj b0 (.cells [.string (p1_c1)].toArray 9 (0, 0)) :: M = M' ∧ .bool (r) = v) := by
  unfold m_interlock_index_1 at hm
  refine enter Proofs.Try.func37 rfl rfl rfl ht ?_
  refine C_seq ?_
  refine C_region ?_
  refine W_box (cs := [.string (p0_s.Name), .bool (p0_s.Closed)]) rfl rfl rfl rfl (fun b101 => ?_)
  refine W_assign rfl rfl rfl ?_
  refine W_end ?_
  refine E_then ?_
  refine C_seq ?_
  refine C_region ?_
  refine W_field (o := 0) rfl rfl Proofs.Try.runUnderlying33 rfl Proofs.Try.sizeOf9 rfl rfl rfl ?_
  refine W_load rfl rfl Proofs.Try.isAgg9 rfl (own_at (List.mem_cons_self ..) rfl) ?_
  refine W_load rfl rfl Proofs.Try.isAgg9 rfl (own_at (List.mem_cons_of_mem _ (List.mem_cons_self ..)) rfl) ?_
  refine W_bin rfl rfl rfl rfl rfl ?_
  refine W_assign rfl rfl rfl ?_
  refine W_end ?_
  refine E_then ?_
  refine C_ret ?_
  obtain rfl := hm
  refine E_drop (List.Sublist.cons _ (List.Sublist.refl _)) ?_
  refine E_weak (Hp.le_refl _) ?_
  exact end1 rfl rfl ⟨rfl, rfl, rfl⟩

theorem m_slices_IndexFunc_api_InterlockState_api_InterlockState__interlock_index_1_c {B : Nat} {w0 w : World} {H : Hp} {M : List Res} {p0_s : (List S_api_InterlockState)} {p1_f_0 : ByteArray} {v0 : Value} {b0 : Nat} {r : Int} (hm : m_slices_IndexFunc_api_InterlockState_api_InterlockState__interlock_index_1 p0_s p1_f_0 = some r) (h0 : RdS H v0 p0_s) (ht : St B w0 H (.obj b0 (.cells [.string (p1_f_0)].toArray 9 (0, 0)) :: M) w) :
    Calls Proofs.Try.prog 36 [v0, .func (.func 37) [].toArray [.pointer (some ⟨b0, 0, none⟩)].toArray].toArray w (Ret B w0 fun H' M' v => H = H' ∧ .obj b0 (.cells [.string (p1_f_0)].toArray 9 (0, 0)) :: M = M' ∧ .int .i64 (r) = v) := by
  unfold m_slices_IndexFunc_api_InterlockState_api_InterlockState__interlock_index_1 at hm
  refine enter Proofs.Try.func36 rfl rfl rfl ht ?_
  refine C_seq ?_
  refine C_region ?_
  refine W_assign rfl rfl rfl ?_
  refine W_end ?_
  refine E_then ?_
  refine C_seq ?_
  refine C_seq ?_
  refine C_region ?_
  refine W_move rfl rfl rfl ?_
  refine W_lenR rfl rfl Proofs.Try.runUnderlying23 rfl h0 ?_
  refine W_move rfl rfl rfl ?_
  refine W_end ?_
  refine E_then ?_
  refine C_block ?_
  refine C_keep (L' := [(0, v0), (1, .func (.func 37) [].toArray [.pointer (some ⟨b0, 0, none⟩)].toArray), (7, .int .i64 ((p0_s.length : Int))), (8, .int .i64 (((0 : Nat) : Int)))]) ⟨rfl, rfl, rfl, rfl, trivial⟩ (List.Perm.refl _) ?_
  refine C_loop (fun n H' M' L' => ∃ (k101 : Nat) (zs119' : Nat), k101 + zs119' = ((p0_s.length : Int) : Int).toNat ∧ zs119' = n ∧ forN (fun k s114 n => m_slices_IndexFunc_api_InterlockState_api_InterlockState__interlock_index_1_b1 p0_s p1_f_0 k n) (fun _ => some ((-1))) zs119' k101 () = some r ∧ H.le H' ∧ .obj b0 (.cells [.string (p1_f_0)].toArray 9 (0, 0)) :: M = M' ∧ [(0, v0), (1, .func (.func 37) [].toArray [.pointer (some ⟨b0, 0, none⟩)].toArray), (7, .int .i64 ((p0_s.length : Int))), (8, .int .i64 ((k101 : Int)))] = L') _ ⟨0, _, Nat.zero_add _, rfl, hm, (Hp.le_refl _), rfl, rfl⟩ ?_
  rintro _ H112 _ _ ⟨k101, zs119', hd121, rfl, hm, hle113, rfl, rfl⟩
  refine C_seq ?_
  refine C_region ?_
  refine W_bin rfl rfl rfl rfl rfl ?_
  refine W_end (E_then ?_)
  refine C_seq ?_
  refine C_cond (b := decide ((k101 : Int) < (p0_s.length : Int))) rfl (fun hb123 => ?_) (fun hb123 => ?_)
  · obtain ⟨zs119, rfl, hd122, hy120⟩ := rngN_t hd121 hb123
    have hm : m_slices_IndexFunc_api_InterlockState_api_InterlockState__interlock_index_1_b1 p0_s p1_f_0 k101 (forN (fun k s114 n => m_slices_IndexFunc_api_InterlockState_api_InterlockState__interlock_index_1_b1 p0_s p1_f_0 k n) (fun _ => some ((-1))) zs119 (k101 + 1)) = some r := hm
    generalize hn116 : forN (fun k s114 n => m_slices_IndexFunc_api_InterlockState_api_InterlockState__interlock_index_1_b1 p0_s p1_f_0 k n) (fun _ => some ((-1))) zs119 (k101 + 1) = nx115 at hm
    unfold m_slices_IndexFunc_api_InterlockState_api_InterlockState__interlock_index_1_b1 at hm
    refine C_skip (E_then ?_)
    refine C_seq ?_
    refine C_block ?_
    refine C_seq ?_
    refine C_region ?_
    refine W_move rfl rfl rfl ?_
    refine W_assign rfl rfl rfl ?_
    refine W_end ?_
    refine E_then ?_
    refine C_seq ?_
    refine C_region ?_
    refine W_move rfl rfl rfl ?_
    refine W_move rfl rfl rfl ?_
    refine W_move rfl rfl rfl ?_
    obtain ⟨y124, h125, he126, hm⟩ := idx_some hm
    obtain ⟨_, ⟨rfl⟩, hc127⟩ := (h0).elem he126
    refine W_indexS rfl rfl Proofs.Try.runUnderlying23 Proofs.Try.sizeOf33 rfl (h0.mono hle113) rfl h125 he126 ?_
    refine W_loadAgg rfl rfl Proofs.Try.isAgg33 Proofs.Try.sizeOf33 rfl (hc127.mono hle113).at rfl ?_
    refine W_callv Proofs.Try.call37 rfl rfl rfl rfl (fun w ht => by have h := m_interlock_index_1_c (hm := (rfl : m_interlock_index_1 y124 p1_f_0 = _))  ht; exact h) ?_
    rintro _ _ _ ⟨rfl, rfl, rfl⟩
    refine W_end ?_
    refine E_then ?_
    refine C_cond (b := (m_interlock_index_1 y124 p1_f_0)) rfl (fun hb128 => ?_) (fun hb128 => ?_)
    · have hm := ite_t' hb128 hm
      refine C_seq ?_
      refine C_region ?_
      refine W_move rfl rfl rfl ?_
      refine W_assign rfl rfl rfl ?_
      refine W_end ?_
      refine E_then ?_
      refine C_ret ?_
      refine E_ret_block ?_
      refine E_ret_then ?_
      refine E_ret_then ?_
      refine E_ret_block ?_
      refine E_ret_then ?_
      obtain rfl := Option.some.inj hm
      refine E_weak hle113 ?_
      exact end1 rfl rfl ⟨rfl, rfl, rfl⟩
    · have hm := ite_f' hb128 hm
      refine C_skip ?_
      refine E_normal_block ?_
      refine E_then ?_
      refine C_region ?_
      refine W_bin rfl rfl rfl rfl rfl ?_
      refine W_move rfl rfl rfl ?_
      refine W_end ?_
      exact E_keepJ (E_back (Nat.lt_succ_self _) ⟨k101 + 1, zs119, hd122, rfl, (by rw [hn116]; exact hm), hle113, rfl, rfl⟩) (List.Perm.refl _) ⟨rfl, rfl, rfl, (congrArg (fun z => some (Value.int .i64 z)) (i64_succN hy120 (toNat_max (len_max (h0).lenMax)))), trivial⟩
  · obtain rfl := rngN_f hd121 hb123
    have hm : (some ((-1))) = some r := hm
    refine C_exit (E_exit_then ?_)
    refine E_exit_then ?_
    refine E_exit_hit ?_
    refine E_then ?_
    refine C_seq ?_
    refine C_region ?_
    refine W_assign rfl rfl rfl ?_
    refine W_end ?_
    refine E_then ?_
    refine C_ret ?_
    obtain rfl := Option.some.inj hm
    refine E_weak hle113 ?_
    exact end1 rfl rfl ⟨rfl, rfl, rfl⟩

theorem m_interlock_index_c {B : Nat} {w0 w : World} {H : Hp} {M : List Res} {p0_l : (List S_api_InterlockState)} {name : ByteArray} {v0 : Value} {r : Int} (hm : m_interlock_index p0_l name = some r) (h0 : RdS H v0 p0_l) (ht : St B w0 H (M) w) :
    Calls Proofs.Try.prog 33 [v0, .string (name)].toArray w (Ret B w0 fun H' M' v => H = H' ∧ M = M' ∧ .int .i64 (r) = v) := by
  unfold m_interlock_index at hm
  refine enter Proofs.Try.func33 rfl rfl rfl ht ?_
  refine C_seq ?_
  refine C_region ?_
  refine W_box (cs := [.string (name)]) rfl rfl rfl rfl (fun b101 => ?_)
  refine W_assign rfl rfl rfl ?_
  refine W_end ?_
  refine E_then ?_
  refine C_seq ?_
  refine C_region ?_
  refine W_move rfl rfl rfl ?_
  refine W_makeFunc rfl rfl rfl rfl ?_
  obtain ⟨r102, hc103, hm⟩ := bind_some hm
  refine W_call Proofs.Try.call36 rfl rfl rfl (fun w ht => by have h := m_slices_IndexFunc_api_InterlockState_api_InterlockState__interlock_index_1_c (hm := hc103) h0 ht; exact h) ?_
  rintro _ _ _ ⟨rfl, rfl, rfl⟩
  refine W_assign rfl rfl rfl ?_
  refine W_end ?_
  refine E_then ?_
  refine C_ret ?_
  obtain rfl := Option.some.inj hm
  refine E_drop (List.Sublist.cons _ (List.Sublist.refl _)) ?_
  refine E_weak (Hp.le_refl _) ?_
  exact end1 rfl rfl ⟨rfl, rfl, rfl⟩

theorem m_interlock_CheckStates_c {B : Nat} {w0 w : World} {H : Hp} {M : List Res} {p0_l : (List S_api_InterlockState)} {v0 : Value} {r : Int} (hm : m_interlock_CheckStates p0_l = some r) (h0 : RdS H v0 p0_l) (ht : St B w0 H (M) w) :
    Calls Proofs.Try.prog 25 [v0].toArray w (Ret B w0 fun H' M' v => H = H' ∧ M = M' ∧ .int .i64 (r) = v) := by
  unfold m_interlock_CheckStates at hm
  refine enter Proofs.Try.func25 rfl rfl rfl ht ?_
  refine C_seq ?_
  refine C_region ?_
  refine W_assign rfl rfl rfl ?_
  refine W_end ?_
  refine E_then ?_
  refine C_seq ?_
  refine C_seq ?_
  refine C_region ?_
  refine W_move rfl rfl rfl ?_
  refine W_lenR rfl rfl Proofs.Try.runUnderlying23 rfl h0 ?_
  refine W_bin rfl rfl rfl rfl rfl ?_
  refine W_end ?_
  refine E_then ?_
  refine C_cond (b := decide (32 < (p0_l.length : Int))) rfl (fun hb101 => ?_) (fun hb101 => ?_)
  · have hm := ite_t' hb101 hm
    refine C_seq ?_
    refine C_region ?_
    refine W_assign rfl rfl rfl ?_
    refine W_end ?_
    refine E_then ?_
    refine C_ret ?_
    refine E_ret_then ?_
    obtain rfl := Option.some.inj hm
    refine E_weak (Hp.le_refl _) ?_
    exact end1 rfl rfl ⟨rfl, rfl, rfl⟩
  · have hm := ite_f' hb101 hm
    refine C_skip ?_
    refine E_then ?_
    refine C_seq ?_
    refine C_seq ?_
    refine C_region ?_
    refine W_move rfl rfl rfl ?_
    refine W_lenR rfl rfl Proofs.Try.runUnderlying23 rfl h0 ?_
    refine W_move rfl rfl rfl ?_
    refine W_end ?_
    refine E_then ?_
    refine C_block ?_
    refine C_keep (L' := [(0, v0), (8, v0), (9, .int .i64 ((p0_l.length : Int))), (10, .int .i64 (((0 : Nat) : Int)))]) ⟨rfl, rfl, rfl, rfl, trivial⟩ (List.Perm.refl _) ?_
    refine C_loop (fun n H' M' L' => ∃ (k102 : Nat) (zs148' : List S_api_InterlockState), (p0_l).drop k102 = zs148' ∧ zs148'.length = n ∧ forI (fun k y s143 n => m_interlock_CheckStates_b1 p0_l k y n) (fun _ => some 0) k102 zs148' () = some r ∧ H.le H' ∧ M = M' ∧ [(0, v0), (8, v0), (9, .int .i64 ((p0_l.length : Int))), (10, .int .i64 ((k102 : Int)))] = L') _ ⟨0, _, rfl, rfl, hm, (Hp.le_refl _), rfl, rfl⟩ ?_
    rintro _ H141 _ _ ⟨k102, zs148', hd150, rfl, hm, hle142, rfl, rfl⟩
    refine C_seq ?_
    refine C_region ?_
    refine W_bin rfl rfl rfl rfl rfl ?_
    refine W_end (E_then ?_)
    refine C_seq ?_
    refine C_cond (b := decide ((k102 : Int) < (p0_l.length : Int))) rfl (fun hb152 => ?_) (fun hb152 => ?_)
    · obtain ⟨y147, zs148, rfl, hy149, hd151⟩ := rng_t hd150 hb152
      have hm : m_interlock_CheckStates_b1 p0_l k102 y147 (forI (fun k y s143 n => m_interlock_CheckStates_b1 p0_l k y n) (fun _ => some 0) (k102 + 1) zs148) = some r := hm
      generalize hn145 : forI (fun k y s143 n => m_interlock_CheckStates_b1 p0_l k y n) (fun _ => some 0) (k102 + 1) zs148 = nx144 at hm
      unfold m_interlock_CheckStates_b1 at hm
      refine C_skip (E_then ?_)
      refine C_seq ?_
      refine C_block ?_
      refine C_seq ?_
      refine C_region ?_
      refine W_move rfl rfl rfl ?_
      obtain ⟨_, ⟨rfl⟩, hc153⟩ := (h0).elem hy149
      refine W_indexS rfl rfl Proofs.Try.runUnderlying23 Proofs.Try.sizeOf33 rfl (h0.mono hle142) rfl (Int.natCast_nonneg _) hy149 ?_
      refine W_loadAgg rfl rfl Proofs.Try.isAgg33 Proofs.Try.sizeOf33 rfl (hc153.mono hle142).at rfl ?_
      refine W_alloc (cs := [.string (⟨#[]⟩), .bool (false)]) rfl rfl Proofs.Try.zeroValue33 rfl (fun b154 => ?_)
      refine W_assign rfl rfl rfl ?_
      refine W_store (cs := [.string (y147.Name), .bool (y147.Closed)]) (out := [.string (y147.Name), .bool (y147.Closed)]) rfl Proofs.Try.sizeOf33 rfl rfl rfl rfl rfl (all_cons rfl (all_cons rfl all_nil)) (over_all rfl) ?_
      refine W_end ?_
      refine E_then ?_
      refine C_block ?_
      refine C_seq ?_
      refine C_region ?_
      refine W_field (o := 0) rfl rfl Proofs.Try.runUnderlying33 rfl Proofs.Try.sizeOf9 rfl rfl rfl ?_
      refine W_load rfl rfl Proofs.Try.isAgg9 rfl (own_at (List.mem_cons_self ..) rfl) ?_
      obtain ⟨r155, hc156, hm⟩ := bind_some hm
      refine W_call Proofs.Try.call31 rfl rfl rfl (fun w ht => by have h := m_netmodel_Name_c (hm := hc156)  ht; exact h) ?_
      rintro _ _ _ ⟨rfl, rfl, rfl⟩
      refine W_un rfl rfl rfl rfl ?_
      refine W_assign rfl rfl rfl ?_
      refine W_end ?_
      refine E_then ?_
      refine C_cond (b := !r155) rfl (fun hb157 => ?_) (fun hb157 => ?_)
      · have hm := ite_t' hb157 hm
        refine C_seq ?_
        refine C_region ?_
        refine W_assign rfl rfl rfl ?_
        refine W_end ?_
        refine E_then ?_
        refine C_ret ?_
        refine E_ret_block ?_
        refine E_ret_block ?_
        refine E_ret_then ?_
        refine E_ret_then ?_
        refine E_ret_block ?_
        refine E_ret_then ?_
        obtain rfl := Option.some.inj hm
        refine E_drop (List.Sublist.cons _ (List.Sublist.refl _)) ?_
        refine E_weak hle142 ?_
        exact end1 rfl rfl ⟨rfl, rfl, rfl⟩
      · have hm := ite_f' hb157 hm
        refine C_seq ?_
        obtain ⟨hz158, hm⟩ := need_some hm
        refine C_region_tok0 5 (phiT [(fun H rs v => [] = rs ∧ v0 = v), (fun H rs v => [] = rs ∧ .int .i64 ((k102 : Int)) = v), (fun H rs v => ∃ v162 : Value, [] = rs ∧ v162 = v ∧ RdS H v162 (slc p0_l 0 (((k102 : Int) : Int).toNat))), (fun H rs v => [] = rs ∧ .pointer (some ⟨b154, 0, none⟩) = v), (fun H rs v => [] = rs ∧ .string (y147.Name) = v)]) [[], [], [], [], []] [[], [], [], [], []] [] [0, 1, 2, 3, 4] Facts.mixed (by kernel_rfl) rfl rfl rfl (by kernel_rfl) (phiT_mono ⟨eq_monoT _ _, eq_monoT _ _, (by rintro H1 H2 rs v hle ⟨v162, rfl, rfl, h163⟩; exact ⟨v162, rfl, rfl, (h163.mono hle)⟩), eq_monoT _ _, eq_monoT _ _, trivial⟩) ⟨?_, ?_, ?_, ?_, ?_, trivial⟩ ?_
        · intro HX hX X Rest hR
          intro hU
          refine W_move rfl rfl rfl ?_
          exact W_end (OneT_end [] (Hp.le_refl _) ⟨rfl, rfl⟩)
        · intro HX hX X Rest hR
          intro hU
          refine W_move rfl rfl rfl ?_
          exact W_end (OneT_end [] (Hp.le_refl _) ⟨rfl, rfl⟩)
        · intro HX hX X Rest hR
          rintro _ _ ⟨rfl, rfl⟩
          rintro _ _ ⟨rfl, rfl⟩
          intro hU
          refine W_sliceR (α := S_api_InterlockState) (l := 0) (h := ((k102 : Int) : Int).toNat) (xs := p0_l) rfl rfl Proofs.Try.runUnderlying23 Proofs.Try.sizeOf33 rfl ((h0.mono hle142).mono hX) (by omega) (by omega) (.inl rfl) (fun cap hcap => by rw [if_pos rfl]; exact (.inl ⟨rfl, rfl⟩)) (fun m hmm => (.inr ⟨_, _, _, rfl, rfl, by omega, by omega, rfl⟩)) (.inl ⟨rfl, rfl⟩) ?_
          intro v162 h163 hc164
          exact W_end (OneT_end [] (Hp.le_refl _) ⟨v162, rfl, rfl, (h163)⟩)
        · intro HX hX X Rest hR
          intro hU
          refine W_field (o := 0) rfl rfl Proofs.Try.runUnderlying33 rfl Proofs.Try.sizeOf9 rfl rfl rfl ?_
          exact W_end (OneT_end [] (Hp.le_refl _) ⟨rfl, rfl⟩)
        · intro HX hX X Rest hR
          rintro _ _ ⟨rfl, rfl⟩
          intro hU
          refine W_load rfl rfl Proofs.Try.isAgg9 rfl (own_at (hR _ (List.mem_cons_self ..)) rfl) ?_
          exact W_end (OneT_end [] (Hp.le_refl _) ⟨rfl, rfl⟩)
        intro H165 hle166
        rintro _ _ ⟨rfl, rfl⟩
        rintro _ _ ⟨rfl, rfl⟩
        rintro _ _ ⟨v162, rfl, rfl, h163⟩
        rintro _ _ ⟨rfl, rfl⟩
        rintro _ _ ⟨rfl, rfl⟩
        obtain ⟨r167, hc168, hm⟩ := bind_some hm
        refine W_call Proofs.Try.call33 rfl rfl rfl (fun w ht => by have h := m_interlock_index_c (hm := hc168) h163 ht; exact h) ?_
        rintro _ _ _ ⟨rfl, rfl, rfl⟩
        refine W_bin rfl rfl rfl rfl rfl ?_
        refine W_assign rfl rfl rfl ?_
        refine W_end ?_
        refine E_then ?_
        refine C_cond (b := decide (0 ≤ r167)) rfl (fun hb169 => ?_) (fun hb169 => ?_)
        · have hm := ite_t' hb169 hm
          refine C_seq ?_
          refine C_region ?_
          refine W_assign rfl rfl rfl ?_
          refine W_end ?_
          refine E_then ?_
          refine C_ret ?_
          refine E_ret_block ?_
          refine E_ret_block ?_
          refine E_ret_then ?_
          refine E_ret_then ?_
          refine E_ret_block ?_
          refine E_ret_then ?_
          obtain rfl := Option.some.inj hm
          refine E_drop (List.Sublist.cons _ (List.Sublist.refl _)) ?_
          refine E_weak (Hp.le_trans hle142 hle166) ?_
          exact end1 rfl rfl ⟨rfl, rfl, rfl⟩
        · have hm := ite_f' hb169 hm
          refine C_skip ?_
          refine E_normal_block ?_
          refine E_normal_block ?_
          refine E_then ?_
          refine C_region ?_
          refine W_bin rfl rfl rfl rfl rfl ?_
          refine W_move rfl rfl rfl ?_
          refine W_end ?_
          refine E_drop (List.Sublist.cons _ (List.Sublist.refl _)) ?_
          exact E_keepJ (E_back (Nat.lt_succ_self _) ⟨k102 + 1, zs148, hd151, rfl, (by rw [hn145]; exact hm), (Hp.le_trans hle142 hle166), rfl, rfl⟩) (List.Perm.refl _) ⟨rfl, rfl, rfl, (congrArg (fun z => some (Value.int .i64 z)) (i64_succ hy149 ((h0.mono hle142)).lenMax)), trivial⟩
    · obtain rfl := rng_f hd150 hb152
      have hm : (some 0) = some r := hm
      refine C_exit (E_exit_then ?_)
      refine E_exit_then ?_
      refine E_exit_hit ?_
      refine E_then ?_
      refine C_seq ?_
      refine C_region ?_
      refine W_assign rfl rfl rfl ?_
      refine W_end ?_
      refine E_then ?_
      refine C_ret ?_
      obtain rfl := Option.some.inj hm
      refine E_weak hle142 ?_
      exact end1 rfl rfl ⟨rfl, rfl, rfl⟩

theorem m_order_check_1_c {B : Nat} {w0 w : World} {H : Hp} {M : List Res} {p0_a : S_api_InterlockState} {p1_b : S_api_InterlockState} {r : Bool} (hm : m_order_check_1 p0_a p1_b = r) (ht : St B w0 H (M) w) :
    Calls Proofs.Try.prog 30 [.agg [.string (p0_a.Name), .bool (p0_a.Closed)].toArray, .agg [.string (p1_b.Name), .bool (p1_b.Closed)].toArray].toArray w (Ret B w0 fun H' M' v => H = H' ∧ M = M' ∧ .bool (r) = v) := by
  unfold m_order_check_1 at hm
  refine enter Proofs.Try.func30 rfl rfl rfl ht ?_
  refine C_seq ?_
  refine C_region ?_
  refine W_box (cs := [.string (p0_a.Name), .bool (p0_a.Closed)]) rfl rfl rfl rfl (fun b101 => ?_)
  refine W_box (cs := [.string (p1_b.Name), .bool (p1_b.Closed)]) rfl rfl rfl rfl (fun b102 => ?_)
  refine W_assign rfl rfl rfl ?_
  refine W_end ?_
  refine E_then ?_
  refine C_seq ?_
  refine C_region ?_
  refine W_field (o := 0) rfl rfl Proofs.Try.runUnderlying33 rfl Proofs.Try.sizeOf9 rfl rfl rfl ?_
  refine W_load rfl rfl Proofs.Try.isAgg9 rfl (own_at (List.mem_cons_of_mem _ (List.mem_cons_self ..)) rfl) ?_
  refine W_field (o := 0) rfl rfl Proofs.Try.runUnderlying33 rfl Proofs.Try.sizeOf9 rfl rfl rfl ?_
  refine W_load rfl rfl Proofs.Try.isAgg9 rfl (own_at (List.mem_cons_self ..) rfl) ?_
  refine W_bin rfl rfl rfl rfl rfl ?_
  refine W_assign rfl rfl rfl ?_
  refine W_end ?_
  refine E_then ?_
  refine C_ret ?_
  obtain rfl := hm
  refine E_drop (List.Sublist.cons _ (List.Sublist.cons _ (List.Sublist.refl _))) ?_
  refine E_weak (Hp.le_refl _) ?_
  exact end1 rfl rfl ⟨rfl, rfl, rfl⟩

theorem m_slices_EqualFunc_api_InterlockState_api_InterlockState_api_InterlockState_api_InterlockState__order_check_1_c {B : Nat} {w0 w : World} {H : Hp} {M : List Res} {p0_s1 : (List S_api_InterlockState)} {p1_s2 : (List S_api_InterlockState)} {v0 : Value} {v1 : Value} {r : Bool} (hm : m_slices_EqualFunc_api_InterlockState_api_InterlockState_api_InterlockState_api_InterlockState__order_check_1 p0_s1 p1_s2 = some r) (h0 : RdS H v0 p0_s1) (h1 : RdS H v1 p1_s2) (ht : St B w0 H (M) w) :
    Calls Proofs.Try.prog 29 [v0, v1, .func (.func 30) [].toArray [].toArray].toArray w (Ret B w0 fun H' M' v => H = H' ∧ M = M' ∧ .bool (r) = v) := by
  unfold m_slices_EqualFunc_api_InterlockState_api_InterlockState_api_InterlockState_api_InterlockState__order_check_1 at hm
  refine enter Proofs.Try.func29 rfl rfl rfl ht ?_
  refine C_seq ?_
  refine C_region ?_
  refine W_assign rfl rfl rfl ?_
  refine W_end ?_
  refine E_then ?_
  refine C_seq ?_
  refine C_seq ?_
  refine C_region ?_
  refine W_move rfl rfl rfl ?_
  refine W_lenR rfl rfl Proofs.Try.runUnderlying23 rfl h0 ?_
  refine W_move rfl rfl rfl ?_
  refine W_lenR rfl rfl Proofs.Try.runUnderlying23 rfl h1 ?_
  refine W_bin rfl rfl rfl rfl rfl ?_
  refine W_end ?_
  refine E_then ?_
  refine C_cond (b := !decide ((p0_s1.length : Int) = (p1_s2.length : Int))) rfl (fun hb101 => ?_) (fun hb101 => ?_)
  · have hm := ite_t' hb101 hm
    refine C_seq ?_
    refine C_region ?_
    refine W_assign rfl rfl rfl ?_
    refine W_end ?_
    refine E_then ?_
    refine C_ret ?_
    refine E_ret_then ?_
    obtain rfl := Option.some.inj hm
    refine E_weak (Hp.le_refl _) ?_
    exact end1 rfl rfl ⟨rfl, rfl, rfl⟩
  · have hm := ite_f' hb101 hm
    refine C_skip ?_
    refine E_then ?_
    refine C_seq ?_
    refine C_seq ?_
    refine C_region ?_
    refine W_move rfl rfl rfl ?_
    refine W_lenR rfl rfl Proofs.Try.runUnderlying23 rfl h0 ?_
    refine W_move rfl rfl rfl ?_
    refine W_end ?_
    refine E_then ?_
    refine C_block ?_
    refine C_keep (L' := [(1, v1), (2, .func (.func 30) [].toArray [].toArray), (15, v0), (16, .int .i64 ((p0_s1.length : Int))), (17, .int .i64 (((0 : Nat) : Int)))]) ⟨rfl, rfl, rfl, rfl, rfl, trivial⟩ (List.Perm.refl _) ?_
    refine C_loop (fun n H' M' L' => ∃ (k102 : Nat) (zs126' : List S_api_InterlockState), (p0_s1).drop k102 = zs126' ∧ zs126'.length = n ∧ forI (fun k y s121 n => m_slices_EqualFunc_api_InterlockState_api_InterlockState_api_InterlockState_api_InterlockState__order_check_1_b1 p1_s2 k y n) (fun _ => some true) k102 zs126' () = some r ∧ H.le H' ∧ M = M' ∧ [(1, v1), (2, .func (.func 30) [].toArray [].toArray), (15, v0), (16, .int .i64 ((p0_s1.length : Int))), (17, .int .i64 ((k102 : Int)))] = L') _ ⟨0, _, rfl, rfl, hm, (Hp.le_refl _), rfl, rfl⟩ ?_
    rintro _ H119 _ _ ⟨k102, zs126', hd128, rfl, hm, hle120, rfl, rfl⟩
    refine C_seq ?_
    refine C_region ?_
    refine W_bin rfl rfl rfl rfl rfl ?_
    refine W_end (E_then ?_)
    refine C_seq ?_
    refine C_cond (b := decide ((k102 : Int) < (p0_s1.length : Int))) rfl (fun hb130 => ?_) (fun hb130 => ?_)
    · obtain ⟨y125, zs126, rfl, hy127, hd129⟩ := rng_t hd128 hb130
      have hm : m_slices_EqualFunc_api_InterlockState_api_InterlockState_api_InterlockState_api_InterlockState__order_check_1_b1 p1_s2 k102 y125 (forI (fun k y s121 n => m_slices_EqualFunc_api_InterlockState_api_InterlockState_api_InterlockState_api_InterlockState__order_check_1_b1 p1_s2 k y n) (fun _ => some true) (k102 + 1) zs126) = some r := hm
      generalize hn123 : forI (fun k y s121 n => m_slices_EqualFunc_api_InterlockState_api_InterlockState_api_InterlockState_api_InterlockState__order_check_1_b1 p1_s2 k y n) (fun _ => some true) (k102 + 1) zs126 = nx122 at hm
      unfold m_slices_EqualFunc_api_InterlockState_api_InterlockState_api_InterlockState_api_InterlockState__order_check_1_b1 at hm
      refine C_skip (E_then ?_)
      refine C_seq ?_
      refine C_block ?_
      refine C_seq ?_
      refine C_region ?_
      refine W_move rfl rfl rfl ?_
      obtain ⟨_, ⟨rfl⟩, hc131⟩ := (h0).elem hy127
      refine W_indexS rfl rfl Proofs.Try.runUnderlying23 Proofs.Try.sizeOf33 rfl (h0.mono hle120) rfl (Int.natCast_nonneg _) hy127 ?_
      refine W_loadAgg rfl rfl Proofs.Try.isAgg33 Proofs.Try.sizeOf33 rfl (hc131.mono hle120).at rfl ?_
      refine W_alloc (cs := [.string (⟨#[]⟩), .bool (false)]) rfl rfl Proofs.Try.zeroValue33 rfl (fun b132 => ?_)
      refine W_assign rfl rfl rfl ?_
      refine W_store (cs := [.string (y125.Name), .bool (y125.Closed)]) (out := [.string (y125.Name), .bool (y125.Closed)]) rfl Proofs.Try.sizeOf33 rfl rfl rfl rfl rfl (all_cons rfl (all_cons rfl all_nil)) (over_all rfl) ?_
      refine W_end ?_
      refine E_then ?_
      refine C_seq ?_
      refine C_region ?_
      refine W_move rfl rfl rfl ?_
      refine W_move rfl rfl rfl ?_
      obtain ⟨y133, h134, he135, hm⟩ := idx_some hm
      obtain ⟨_, ⟨rfl⟩, hc136⟩ := (h1).elem he135
      refine W_indexS rfl rfl Proofs.Try.runUnderlying23 Proofs.Try.sizeOf33 rfl (h1.mono hle120) rfl h134 he135 ?_
      refine W_loadAgg rfl rfl Proofs.Try.isAgg33 Proofs.Try.sizeOf33 rfl (hc136.mono hle120).at rfl ?_
      refine W_alloc (cs := [.string (⟨#[]⟩), .bool (false)]) rfl rfl Proofs.Try.zeroValue33 rfl (fun b137 => ?_)
      refine W_store (cs := [.string (y133.Name), .bool (y133.Closed)]) (out := [.string (y133.Name), .bool (y133.Closed)]) rfl Proofs.Try.sizeOf33 rfl rfl rfl rfl rfl (all_cons rfl (all_cons rfl all_nil)) (over_all rfl) ?_
      refine W_end ?_
      refine E_then ?_
      refine C_seq ?_
      refine C_region ?_
      refine W_move rfl rfl rfl ?_
      refine W_loadAgg rfl rfl Proofs.Try.isAgg33 Proofs.Try.sizeOf33 rfl (own_all (List.mem_cons_of_mem _ (List.mem_cons_self ..))) rfl ?_
      refine W_loadAgg rfl rfl Proofs.Try.isAgg33 Proofs.Try.sizeOf33 rfl (own_all (List.mem_cons_self ..)) rfl ?_
      refine W_callv Proofs.Try.call30 rfl rfl rfl rfl (fun w ht => by have h := m_order_check_1_c (hm := (rfl : m_order_check_1 y125 y133 = _))  ht; exact h) ?_
      rintro _ _ _ ⟨rfl, rfl, rfl⟩
      refine W_un rfl rfl rfl rfl ?_
      refine W_end ?_
      refine E_then ?_
      refine C_cond (b := !(m_order_check_1 y125 y133)) rfl (fun hb138 => ?_) (fun hb138 => ?_)
      · have hm := ite_t' hb138 hm
        refine C_seq ?_
        refine C_region ?_
        refine W_assign rfl rfl rfl ?_
        refine W_end ?_
        refine E_then ?_
        refine C_ret ?_
        refine E_ret_block ?_
        refine E_ret_then ?_
        refine E_ret_then ?_
        refine E_ret_block ?_
        refine E_ret_then ?_
        obtain rfl := Option.some.inj hm
        refine E_drop (List.Sublist.cons _ (List.Sublist.cons _ (List.Sublist.refl _))) ?_
        refine E_weak hle120 ?_
        exact end1 rfl rfl ⟨rfl, rfl, rfl⟩
      · have hm := ite_f' hb138 hm
        refine C_skip ?_
        refine E_normal_block ?_
        refine E_then ?_
        refine C_region ?_
        refine W_bin rfl rfl rfl rfl rfl ?_
        refine W_move rfl rfl rfl ?_
        refine W_end ?_
        refine E_drop (List.Sublist.cons _ (List.Sublist.cons _ (List.Sublist.refl _))) ?_
        exact E_keepJ (E_back (Nat.lt_succ_self _) ⟨k102 + 1, zs126, hd129, rfl, (by rw [hn123]; exact hm), hle120, rfl, rfl⟩) (List.Perm.refl _) ⟨rfl, rfl, rfl, rfl, (congrArg (fun z => some (Value.int .i64 z)) (i64_succ hy127 ((h0.mono hle120)).lenMax)), trivial⟩
    · obtain rfl := rng_f hd128 hb130
      have hm : (some true) = some r := hm
      refine C_exit (E_exit_then ?_)
      refine E_exit_then ?_
      refine E_exit_hit ?_
      refine E_then ?_
      refine C_seq ?_
      refine C_region ?_
      refine W_assign rfl rfl rfl ?_
      refine W_end ?_
      refine E_then ?_
      refine C_ret ?_
      obtain rfl := Option.some.inj hm
      refine E_weak hle120 ?_
      exact end1 rfl rfl ⟨rfl, rfl, rfl⟩

theorem m_order_check_c {B : Nat} {w0 w : World} {H : Hp} {M : List Res} {rules : (List S_api_InterlockRule)} {p1_from : (List S_api_InterlockState)} {to : (List S_api_InterlockState)} {held : (List ByteArray)} {v0 : Value} {v1 : Value} {v2 : Value} {v3 : Value} {r : Int} (hm : m_order_check rules p1_from to held = some r) (h0 : RdS H v0 rules) (h1 : RdS H v1 p1_from) (h2 : RdS H v2 to) (h3 : RdS H v3 held) (ht : St B w0 H (M) w) :
    Calls Proofs.Try.prog 18 [v0, v1, v2, v3].toArray w (Ret B w0 fun H' M' v => H = H' ∧ M = M' ∧ .int .i64 (r) = v) := by
  unfold m_order_check at hm
  refine enter Proofs.Try.func18 rfl rfl rfl ht ?_
  refine C_seq ?_
  refine C_region ?_
  refine W_assign rfl rfl rfl ?_
  refine W_end ?_
  refine E_then ?_
  refine C_seq ?_
  refine C_seq ?_
  refine C_region ?_
  refine W_move rfl rfl rfl ?_
  obtain ⟨r101, hc102, hm⟩ := bind_some hm
  refine W_call Proofs.Try.call24 rfl rfl rfl (fun w ht => by have h := m_interlock_Check_c (hm := hc102) h0 ht; exact h) ?_
  rintro _ _ _ ⟨rfl, rfl, rfl⟩
  refine W_assign rfl rfl rfl ?_
  refine W_end ?_
  refine E_then ?_
  refine C_seq ?_
  refine C_region ?_
  refine W_move rfl rfl rfl ?_
  refine W_bin rfl rfl rfl rfl rfl ?_
  refine W_end ?_
  refine E_then ?_
  refine C_cond (b := !decide (r101 = 0)) rfl (fun hb103 => ?_) (fun hb103 => ?_)
  · have hm := ite_t' hb103 hm
    refine C_seq ?_
    refine C_region ?_
    refine W_move rfl rfl rfl ?_
    refine W_assign rfl rfl rfl ?_
    refine W_end ?_
    refine E_then ?_
    refine C_ret ?_
    refine E_ret_then ?_
    obtain rfl := Option.some.inj hm
    refine E_weak (Hp.le_refl _) ?_
    exact end1 rfl rfl ⟨rfl, rfl, rfl⟩
  · have hm := ite_f' hb103 hm
    refine C_skip ?_
    refine E_then ?_
    refine C_seq ?_
    refine C_seq ?_
    refine C_region ?_
    refine W_move rfl rfl rfl ?_
    refine W_move rfl rfl rfl ?_
    refine W_buildSliceO (α := (List S_api_InterlockState)) (css := [[v1], [v2]]) (zs := [.slice none 0 0, .slice none 0 0]) (out := [v1, v2]) (ys := [p1_from, to]) rfl rfl rfl ⟨(RdS.cells h1), (RdS.cells h2), trivial⟩ Proofs.Try.runUnderlying69 Proofs.Try.sizeOf23 rfl Proofs.Try.zeroValue23 (by kernel_rfl) rfl rfl rfl rfl ⟨[v1], [v2], rfl, ⟨v1, rfl, h1⟩, ⟨[v2], [], rfl, ⟨v2, rfl, h2⟩, rfl⟩⟩ rfl ?_
    intro v104 xs105 hr106
    refine W_lenO (List.mem_cons_self ..) rfl rfl Proofs.Try.runUnderlying69 rfl ?_
    refine W_move rfl rfl rfl ?_
    refine W_end ?_
    refine E_then ?_
    refine C_block ?_
    refine C_rowMax (List.mem_cons_self ..) (fun hmx126 => ?_)
    refine C_keep (L' := [(1, v1), (2, v2), (3, v3), (20, v104), (21, .int .i64 ((([p1_from, to]).length : Int))), (22, .int .i64 (((0 : Nat) : Int)))]) ⟨rfl, rfl, rfl, rfl, rfl, rfl, trivial⟩ (List.Perm.refl _) ?_
    refine C_loop (fun n H' M' L' => ∃ (k107 : Nat) (zs128' : List (List S_api_InterlockState)), ([p1_from, to]).drop k107 = zs128' ∧ zs128'.length = n ∧ forI (fun k y s122 n => m_order_check_b1 k y n) (fun _ => if (decide (8 < (p1_from.length : Int))) || (decide (256 < (held.length : Int))) then (some 2) else ((m_slices_EqualFunc_api_InterlockState_api_InterlockState_api_InterlockState_api_InterlockState__order_check_1 p1_from to).bind fun r142 => if !r142 then (some 3) else (some 0))) k107 zs128' () = some r ∧ H.le H' ∧ .row v104 23 (Rep.sz (List S_api_InterlockState)) ([p1_from, to]).length xs105 :: M = M' ∧ [(1, v1), (2, v2), (3, v3), (20, v104), (21, .int .i64 ((([p1_from, to]).length : Int))), (22, .int .i64 ((k107 : Int)))] = L') _ ⟨0, _, rfl, rfl, hm, (Hp.le_refl _), rfl, rfl⟩ ?_
    rintro _ H120 _ _ ⟨k107, zs128', hd130, rfl, hm, hle121, rfl, rfl⟩
    refine C_seq ?_
    refine C_region ?_
    refine W_bin rfl rfl rfl rfl rfl ?_
    refine W_end (E_then ?_)
    refine C_seq ?_
    refine C_cond (b := decide ((k107 : Int) < (([p1_from, to]).length : Int))) rfl (fun hb132 => ?_) (fun hb132 => ?_)
    · obtain ⟨y127, zs128, rfl, hy129, hd131⟩ := rng_t hd130 hb132
      have hm : m_order_check_b1 k107 y127 (forI (fun k y s122 n => m_order_check_b1 k y n) (fun _ => if (decide (8 < (p1_from.length : Int))) || (decide (256 < (held.length : Int))) then (some 2) else ((m_slices_EqualFunc_api_InterlockState_api_InterlockState_api_InterlockState_api_InterlockState__order_check_1 p1_from to).bind fun r142 => if !r142 then (some 3) else (some 0))) (k107 + 1) zs128) = some r := hm
      generalize hn124 : forI (fun k y s122 n => m_order_check_b1 k y n) (fun _ => if (decide (8 < (p1_from.length : Int))) || (decide (256 < (held.length : Int))) then (some 2) else ((m_slices_EqualFunc_api_InterlockState_api_InterlockState_api_InterlockState_api_InterlockState__order_check_1 p1_from to).bind fun r142 => if !r142 then (some 3) else (some 0))) (k107 + 1) zs128 = nx123 at hm
      unfold m_order_check_b1 at hm
      refine C_skip (E_then ?_)
      refine C_seq ?_
      refine C_block ?_
      refine C_seq ?_
      refine C_region ?_
      refine W_indexO (List.mem_cons_self ..) rfl rfl Proofs.Try.runUnderlying69 Proofs.Try.sizeOf23 rfl rfl (Int.natCast_nonneg _) (List.getElem?_eq_some_iff.1 hy129).1 ?_
      obtain ⟨_, ⟨v134, rfl, h135⟩, hg133⟩ := (hr106).elem hy129
      refine W_load rfl rfl Proofs.Try.isAgg23 rfl (row_one0 (List.mem_cons_self ..) hg133 rfl) ?_
      refine W_assign rfl rfl rfl ?_
      refine W_end ?_
      refine E_then ?_
      refine C_seq ?_
      refine C_region ?_
      refine W_move rfl rfl rfl ?_
      obtain ⟨r136, hc137, hm⟩ := bind_some hm
      refine W_call Proofs.Try.call25 rfl rfl rfl (fun w ht => by have h := m_interlock_CheckStates_c (hm := hc137) (h135.mono hle121) ht; exact h) ?_
      rintro _ _ _ ⟨rfl, rfl, rfl⟩
      refine W_assign rfl rfl rfl ?_
      refine W_end ?_
      refine E_then ?_
      refine C_seq ?_
      refine C_region ?_
      refine W_move rfl rfl rfl ?_
      refine W_bin rfl rfl rfl rfl rfl ?_
      refine W_end ?_
      refine E_then ?_
      refine C_cond (b := !decide (r136 = 0)) rfl (fun hb138 => ?_) (fun hb138 => ?_)
      · have hm := ite_t' hb138 hm
        refine C_seq ?_
        refine C_region ?_
        refine W_move rfl rfl rfl ?_
        refine W_assign rfl rfl rfl ?_
        refine W_end ?_
        refine E_then ?_
        refine C_ret ?_
        refine E_ret_block ?_
        refine E_ret_then ?_
        refine E_ret_then ?_
        refine E_ret_block ?_
        refine E_ret_then ?_
        obtain rfl := Option.some.inj hm
        refine E_drop (List.Sublist.cons _ (List.Sublist.refl _)) ?_
        refine E_weak hle121 ?_
        exact end1 rfl rfl ⟨rfl, rfl, rfl⟩
      · have hm := ite_f' hb138 hm
        refine C_skip ?_
        refine E_normal_block ?_
        refine E_then ?_
        refine C_region ?_
        refine W_bin rfl rfl rfl rfl rfl ?_
        refine W_move rfl rfl rfl ?_
        refine W_end ?_
        exact E_keepJ (E_back (Nat.lt_succ_self _) ⟨k107 + 1, zs128, hd131, rfl, (by rw [hn124]; exact hm), hle121, rfl, rfl⟩) (List.Perm.refl _) ⟨rfl, rfl, rfl, rfl, rfl, (congrArg (fun z => some (Value.int .i64 z)) (i64_succ hy129 hmx126)), trivial⟩
    · obtain rfl := rng_f hd130 hb132
      have hm : (if (decide (8 < (p1_from.length : Int))) || (decide (256 < (held.length : Int))) then (some 2) else ((m_slices_EqualFunc_api_InterlockState_api_InterlockState_api_InterlockState_api_InterlockState__order_check_1 p1_from to).bind fun r142 => if !r142 then (some 3) else (some 0))) = some r := hm
      refine C_exit (E_exit_then ?_)
      refine E_exit_then ?_
      refine E_exit_hit ?_
      refine E_then ?_
      refine C_seq ?_
      refine C_seq_join (fun H' M' L' => H120 = H' ∧ M = M' ∧ [(1, v1), (2, v2), (39, .bool ((decide (8 < (p1_from.length : Int))) || (decide (256 < (held.length : Int)))))] = L') ?_ (fun J140 => ?_)
      · rintro _ _ _ ⟨rfl, rfl, rfl⟩
        refine C_cond (b := (decide (8 < (p1_from.length : Int))) || (decide (256 < (held.length : Int)))) rfl (fun hb141 => ?_) (fun hb141 => ?_)
        · have hm := ite_t' hb141 hm
          refine C_seq ?_
          refine C_region ?_
          refine W_assign rfl rfl rfl ?_
          refine W_end ?_
          refine E_then ?_
          refine C_ret ?_
          refine E_ret_then ?_
          obtain rfl := Option.some.inj hm
          refine E_weak hle121 ?_
          exact end1 rfl rfl ⟨rfl, rfl, rfl⟩
        · have hm := ite_f' hb141 hm
          refine C_skip ?_
          refine E_then ?_
          refine C_seq ?_
          refine C_seq ?_
          refine C_region ?_
          refine W_move rfl rfl rfl ?_
          refine W_move rfl rfl rfl ?_
          obtain ⟨r142, hc143, hm⟩ := bind_some hm
          refine W_call Proofs.Try.call29 rfl rfl rfl (fun w ht => by have h := m_slices_EqualFunc_api_InterlockState_api_InterlockState_api_InterlockState_api_InterlockState__order_check_1_c (hm := hc143) (h1.mono hle121) (h2.mono hle121) ht; exact h) ?_
          rintro _ _ _ ⟨rfl, rfl, rfl⟩
          refine W_un rfl rfl rfl rfl ?_
          refine W_end ?_
          refine E_then ?_
          refine C_cond (b := !r142) rfl (fun hb144 => ?_) (fun hb144 => ?_)
          · have hm := ite_t' hb144 hm
            refine C_seq ?_
            refine C_region ?_
            refine W_assign rfl rfl rfl ?_
            refine W_end ?_
            refine E_then ?_
            refine C_ret ?_
            refine E_ret_then ?_
            obtain rfl := Option.some.inj hm
            refine E_weak hle121 ?_
            exact end1 rfl rfl ⟨rfl, rfl, rfl⟩
          · have hm := ite_f' hb144 hm
            refine C_skip ?_
            refine E_then ?_
            refine C_seq ?_
            refine C_region ?_
            refine W_assign rfl rfl rfl ?_
            refine W_end ?_
            refine E_then ?_
            refine C_ret ?_
            obtain rfl := Option.some.inj hm
            refine E_weak hle121 ?_
            exact end1 rfl rfl ⟨rfl, rfl, rfl⟩
      · refine C_region ?_
        refine W_move rfl rfl rfl ?_
        refine W_lenR rfl rfl Proofs.Try.runUnderlying23 rfl (h1.mono hle121) ?_
        refine W_bin rfl rfl rfl rfl rfl ?_
        refine W_move rfl rfl rfl ?_
        cases hb145 : (decide (8 < (p1_from.length : Int)))
        · refine W_move rfl rfl rfl ?_
          refine W_lenR rfl rfl Proofs.Try.runUnderlying24 rfl (h3.mono hle121) ?_
          refine W_bin rfl rfl rfl rfl rfl ?_
          refine W_pick rfl rfl rfl rfl ?_
          refine W_end ?_
          refine E_drop (List.Sublist.cons _ (List.Sublist.refl _)) ?_
          exact E_keepJ (J140 _ _ _ ⟨rfl, rfl, rfl⟩) (List.Perm.refl _) ⟨rfl, rfl, (by show some (Value.bool (decide (256 < (held.length : Int)))) = some (Value.bool ((decide (8 < (p1_from.length : Int))) || (decide (256 < (held.length : Int))))); simp only [hb103, hb145, Bool.and_true, Bool.true_and, Bool.false_and, Bool.and_false, Bool.or_true, Bool.true_or, Bool.or_false, Bool.false_or, Bool.not_true, Bool.not_false]), trivial⟩
        · refine W_no rfl rfl rfl ?_
          refine W_no rfl rfl rfl ?_
          refine W_no rfl rfl rfl ?_
          refine W_pick rfl rfl rfl rfl ?_
          refine W_end ?_
          refine E_drop (List.Sublist.cons _ (List.Sublist.refl _)) ?_
          exact E_keepJ (J140 _ _ _ ⟨rfl, rfl, rfl⟩) (List.Perm.refl _) ⟨rfl, rfl, (by show some (Value.bool (true)) = some (Value.bool ((decide (8 < (p1_from.length : Int))) || (decide (256 < (held.length : Int))))); simp only [hb103, hb145, Bool.and_true, Bool.true_and, Bool.false_and, Bool.and_false, Bool.or_true, Bool.true_or, Bool.or_false, Bool.false_or, Bool.not_true, Bool.not_false]), trivial⟩

theorem m_order_code_c {B : Nat} {w0 w : World} {H : Hp} {M : List Res} {p0_l : (List S_api_InterlockState)} {v0 : Value} {r : Int} (hm : m_order_code p0_l = some r) (h0 : RdS H v0 p0_l) (ht : St B w0 H (M) w) :
    Calls Proofs.Try.prog 20 [v0].toArray w (Ret B w0 fun H' M' v => H = H' ∧ M = M' ∧ .int .i64 (r) = v) := by
  unfold m_order_code at hm
  refine enter Proofs.Try.func20 rfl rfl rfl ht ?_
  refine C_seq ?_
  refine C_region ?_
  refine W_assign rfl rfl rfl ?_
  refine W_end ?_
  refine E_then ?_
  refine C_seq ?_
  refine C_region ?_
  refine W_assign rfl rfl rfl ?_
  refine W_end ?_
  refine E_then ?_
  refine C_seq ?_
  refine C_seq ?_
  refine C_region ?_
  refine W_move rfl rfl rfl ?_
  refine W_lenR rfl rfl Proofs.Try.runUnderlying23 rfl h0 ?_
  refine W_move rfl rfl rfl ?_
  refine W_end ?_
  refine E_then ?_
  refine C_block ?_
  refine C_keep (L' := [(3, .int .i64 (0)), (6, v0), (7, .int .i64 ((p0_l.length : Int))), (8, .int .i64 (((0 : Nat) : Int)))]) ⟨rfl, rfl, rfl, rfl, trivial⟩ (List.Perm.refl _) ?_
  refine C_loop (fun n H' M' L' => ∃ (k101 : Nat) (zs132' : List S_api_InterlockState), ∃ n124 : Int, (p0_l).drop k101 = zs132' ∧ zs132'.length = n ∧ forI (fun k y s127 n => m_order_code_b3 k y s127 n) (fun s127 => some s127) k101 zs132' n124 = some r ∧ H.le H' ∧ M = M' ∧ [(3, .int .i64 (n124)), (6, v0), (7, .int .i64 ((p0_l.length : Int))), (8, .int .i64 ((k101 : Int)))] = L') _ ⟨0, _, 0, rfl, rfl, hm, (Hp.le_refl _), rfl, rfl⟩ ?_
  rintro _ H125 _ _ ⟨k101, zs132', n124, hd134, rfl, hm, hle126, rfl, rfl⟩
  refine C_seq ?_
  refine C_region ?_
  refine W_bin rfl rfl rfl rfl rfl ?_
  refine W_end (E_then ?_)
  refine C_seq ?_
  refine C_cond (b := decide ((k101 : Int) < (p0_l.length : Int))) rfl (fun hb136 => ?_) (fun hb136 => ?_)
  · obtain ⟨y131, zs132, rfl, hy133, hd135⟩ := rng_t hd134 hb136
    have hm : m_order_code_b3 k101 y131 n124 (forI (fun k y s127 n => m_order_code_b3 k y s127 n) (fun s127 => some s127) (k101 + 1) zs132) = some r := hm
    generalize hn129 : forI (fun k y s127 n => m_order_code_b3 k y s127 n) (fun s127 => some s127) (k101 + 1) zs132 = nx128 at hm
    unfold m_order_code_b3 at hm
    refine C_skip (E_then ?_)
    refine C_seq_join (fun H' M' L' => ∃ n141 : Int, m_order_code_b4 nx128 n141 = some r ∧ H125 = H' ∧ M = M' ∧ [(3, .int .i64 (n141)), (6, v0), (7, .int .i64 ((p0_l.length : Int))), (8, .int .i64 ((k101 : Int)))] = L') ?_ (fun J142 => ?_)
    · rintro _ _ _ ⟨n141, hm, rfl, rfl, rfl⟩
      unfold m_order_code_b4 at hm
      refine C_region ?_
      refine W_bin rfl rfl rfl rfl rfl ?_
      refine W_move rfl rfl rfl ?_
      refine W_end ?_
      exact E_keepJ (E_back (Nat.lt_succ_self _) ⟨k101 + 1, zs132, n141, hd135, rfl, (by rw [hn129]; exact hm), hle126, rfl, rfl⟩) (List.Perm.refl _) ⟨rfl, rfl, rfl, (congrArg (fun z => some (Value.int .i64 z)) (i64_succ hy133 ((h0.mono hle126)).lenMax)), trivial⟩
    · refine C_block ?_
      refine C_seq ?_
      refine C_region ?_
      refine W_move rfl rfl rfl ?_
      obtain ⟨_, ⟨rfl⟩, hc143⟩ := (h0).elem hy133
      refine W_indexS rfl rfl Proofs.Try.runUnderlying23 Proofs.Try.sizeOf33 rfl (h0.mono hle126) rfl (Int.natCast_nonneg _) hy133 ?_
      refine W_loadAgg rfl rfl Proofs.Try.isAgg33 Proofs.Try.sizeOf33 rfl (hc143.mono hle126).at rfl ?_
      refine W_alloc (cs := [.string (⟨#[]⟩), .bool (false)]) rfl rfl Proofs.Try.zeroValue33 rfl (fun b144 => ?_)
      refine W_assign rfl rfl rfl ?_
      refine W_store (cs := [.string (y131.Name), .bool (y131.Closed)]) (out := [.string (y131.Name), .bool (y131.Closed)]) rfl Proofs.Try.sizeOf33 rfl rfl rfl rfl rfl (all_cons rfl (all_cons rfl all_nil)) (over_all rfl) ?_
      refine W_end ?_
      refine E_then ?_
      refine C_seq ?_
      refine C_region ?_
      refine W_field (o := 1) rfl rfl Proofs.Try.runUnderlying33 rfl Proofs.Try.sizeOf4 rfl rfl rfl ?_
      refine W_load rfl rfl Proofs.Try.isAgg4 rfl (own_at (List.mem_cons_self ..) rfl) ?_
      refine W_end ?_
      refine E_then ?_
      refine C_cond (b := y131.Closed) rfl (fun hb145 => ?_) (fun hb145 => ?_)
      · have hm := ite_t' hb145 hm
        refine C_region ?_
        refine W_move rfl rfl rfl ?_
        refine W_move rfl rfl rfl ?_
        obtain ⟨hq146, hm⟩ := need_some hm
        refine W_shl rfl rfl rfl rfl hq146 ?_
        refine W_bin rfl rfl rfl rfl rfl ?_
        refine W_assign rfl rfl rfl ?_
        refine W_end ?_
        refine E_normal_block ?_
        refine E_drop (List.Sublist.cons _ (List.Sublist.refl _)) ?_
        exact E_keepJ (J142 _ _ _ ⟨IntKind.i64.wrap ((BitVec.ofInt (IntKind.i64).bits n124 ||| BitVec.ofInt (IntKind.i64).bits (shlV .i64 1 (k101 : Int))).toNat), hm, rfl, rfl, rfl⟩) (List.Perm.refl _) ⟨rfl, rfl, rfl, rfl, trivial⟩
      · have hm := ite_f' hb145 hm
        refine C_skip ?_
        refine E_normal_block ?_
        refine E_drop (List.Sublist.cons _ (List.Sublist.refl _)) ?_
        exact E_keepJ (J142 _ _ _ ⟨n124, hm, rfl, rfl, rfl⟩) (List.Perm.refl _) ⟨rfl, rfl, rfl, rfl, trivial⟩
  · obtain rfl := rng_f hd134 hb136
    have hm : (some n124) = some r := hm
    refine C_exit (E_exit_then ?_)
    refine E_exit_then ?_
    refine E_exit_hit ?_
    refine E_then ?_
    refine C_seq ?_
    refine C_region ?_
    refine W_move rfl rfl rfl ?_
    refine W_assign rfl rfl rfl ?_
    refine W_end ?_
    refine E_then ?_
    refine C_ret ?_
    obtain rfl := Option.some.inj hm
    refine E_weak hle126 ?_
    exact end1 rfl rfl ⟨rfl, rfl, rfl⟩

theorem m_slices_Index_string_string_c {B : Nat} {w0 w : World} {H : Hp} {M : List Res} {p0_s : (List ByteArray)} {p1_v : ByteArray} {v0 : Value} {r : Int} (hm : m_slices_Index_string_string p0_s p1_v = some r) (h0 : RdS H v0 p0_s) (ht : St B w0 H (M) w) :
    Calls Proofs.Try.prog 34 [v0, .string (p1_v)].toArray w (Ret B w0 fun H' M' v => H = H' ∧ M = M' ∧ .int .i64 (r) = v) := by
  unfold m_slices_Index_string_string at hm
  refine enter Proofs.Try.func34 rfl rfl rfl ht ?_
  refine C_seq ?_
  refine C_region ?_
  refine W_assign rfl rfl rfl ?_
  refine W_end ?_
  refine E_then ?_
  refine C_seq ?_
  refine C_seq ?_
  refine C_region ?_
  refine W_move rfl rfl rfl ?_
  refine W_lenR rfl rfl Proofs.Try.runUnderlying24 rfl h0 ?_
  refine W_move rfl rfl rfl ?_
  refine W_end ?_
  refine E_then ?_
  refine C_block ?_
  refine C_keep (L' := [(0, v0), (1, .string (p1_v)), (7, .int .i64 ((p0_s.length : Int))), (8, .int .i64 (((0 : Nat) : Int)))]) ⟨rfl, rfl, rfl, rfl, trivial⟩ (List.Perm.refl _) ?_
  refine C_loop (fun n H' M' L' => ∃ (k101 : Nat) (zs119' : Nat), k101 + zs119' = ((p0_s.length : Int) : Int).toNat ∧ zs119' = n ∧ forN (fun k s114 n => m_slices_Index_string_string_b1 p0_s p1_v k n) (fun _ => some ((-1))) zs119' k101 () = some r ∧ H.le H' ∧ M = M' ∧ [(0, v0), (1, .string (p1_v)), (7, .int .i64 ((p0_s.length : Int))), (8, .int .i64 ((k101 : Int)))] = L') _ ⟨0, _, Nat.zero_add _, rfl, hm, (Hp.le_refl _), rfl, rfl⟩ ?_
  rintro _ H112 _ _ ⟨k101, zs119', hd121, rfl, hm, hle113, rfl, rfl⟩
  refine C_seq ?_
  refine C_region ?_
  refine W_bin rfl rfl rfl rfl rfl ?_
  refine W_end (E_then ?_)
  refine C_seq ?_
  refine C_cond (b := decide ((k101 : Int) < (p0_s.length : Int))) rfl (fun hb123 => ?_) (fun hb123 => ?_)
  · obtain ⟨zs119, rfl, hd122, hy120⟩ := rngN_t hd121 hb123
    have hm : m_slices_Index_string_string_b1 p0_s p1_v k101 (forN (fun k s114 n => m_slices_Index_string_string_b1 p0_s p1_v k n) (fun _ => some ((-1))) zs119 (k101 + 1)) = some r := hm
    generalize hn116 : forN (fun k s114 n => m_slices_Index_string_string_b1 p0_s p1_v k n) (fun _ => some ((-1))) zs119 (k101 + 1) = nx115 at hm
    unfold m_slices_Index_string_string_b1 at hm
    refine C_skip (E_then ?_)
    refine C_seq ?_
    refine C_block ?_
    refine C_seq ?_
    refine C_region ?_
    refine W_move rfl rfl rfl ?_
    refine W_assign rfl rfl rfl ?_
    refine W_end ?_
    refine E_then ?_
    refine C_seq ?_
    refine C_region ?_
    refine W_move rfl rfl rfl ?_
    refine W_move rfl rfl rfl ?_
    refine W_move rfl rfl rfl ?_
    obtain ⟨y124, h125, he126, hm⟩ := idx_some hm
    obtain ⟨_, rfl, hc127⟩ := (h0).elem he126
    refine W_indexS rfl rfl Proofs.Try.runUnderlying24 Proofs.Try.sizeOf9 rfl (h0.mono hle113) rfl h125 he126 ?_
    refine W_load rfl rfl Proofs.Try.isAgg9 rfl (HCells.one (hc127.mono hle113) 0 rfl).at ?_
    refine W_bin rfl rfl rfl rfl rfl ?_
    refine W_end ?_
    refine E_then ?_
    refine C_cond (b := decide (p1_v = y124)) rfl (fun hb128 => ?_) (fun hb128 => ?_)
    · have hm := ite_t' hb128 hm
      refine C_seq ?_
      refine C_region ?_
      refine W_move rfl rfl rfl ?_
      refine W_assign rfl rfl rfl ?_
      refine W_end ?_
      refine E_then ?_
      refine C_ret ?_
      refine E_ret_block ?_
      refine E_ret_then ?_
      refine E_ret_then ?_
      refine E_ret_block ?_
      refine E_ret_then ?_
      obtain rfl := Option.some.inj hm
      refine E_weak hle113 ?_
      exact end1 rfl rfl ⟨rfl, rfl, rfl⟩
    · have hm := ite_f' hb128 hm
      refine C_skip ?_
      refine E_normal_block ?_
      refine E_then ?_
      refine C_region ?_
      refine W_bin rfl rfl rfl rfl rfl ?_
      refine W_move rfl rfl rfl ?_
      refine W_end ?_
      exact E_keepJ (E_back (Nat.lt_succ_self _) ⟨k101 + 1, zs119, hd122, rfl, (by rw [hn116]; exact hm), hle113, rfl, rfl⟩) (List.Perm.refl _) ⟨rfl, rfl, rfl, (congrArg (fun z => some (Value.int .i64 z)) (i64_succN hy120 (toNat_max (len_max (h0).lenMax)))), trivial⟩
  · obtain rfl := rngN_f hd121 hb123
    have hm : (some ((-1))) = some r := hm
    refine C_exit (E_exit_then ?_)
    refine E_exit_then ?_
    refine E_exit_hit ?_
    refine E_then ?_
    refine C_seq ?_
    refine C_region ?_
    refine W_assign rfl rfl rfl ?_
    refine W_end ?_
    refine E_then ?_
    refine C_ret ?_
    obtain rfl := Option.some.inj hm
    refine E_weak hle113 ?_
    exact end1 rfl rfl ⟨rfl, rfl, rfl⟩

theorem m_slices_Contains_string_string_c {B : Nat} {w0 w : World} {H : Hp} {M : List Res} {p0_s : (List ByteArray)} {p1_v : ByteArray} {v0 : Value} {r : Bool} (hm : m_slices_Contains_string_string p0_s p1_v = some r) (h0 : RdS H v0 p0_s) (ht : St B w0 H (M) w) :
    Calls Proofs.Try.prog 27 [v0, .string (p1_v)].toArray w (Ret B w0 fun H' M' v => H = H' ∧ M = M' ∧ .bool (r) = v) := by
  unfold m_slices_Contains_string_string at hm
  refine enter Proofs.Try.func27 rfl rfl rfl ht ?_
  refine C_seq ?_
  refine C_region ?_
  refine W_assign rfl rfl rfl ?_
  refine W_end ?_
  refine E_then ?_
  refine C_seq ?_
  refine C_region ?_
  refine W_move rfl rfl rfl ?_
  refine W_move rfl rfl rfl ?_
  obtain ⟨r101, hc102, hm⟩ := bind_some hm
  refine W_call Proofs.Try.call34 rfl rfl rfl (fun w ht => by have h := m_slices_Index_string_string_c (hm := hc102) h0 ht; exact h) ?_
  rintro _ _ _ ⟨rfl, rfl, rfl⟩
  refine W_bin rfl rfl rfl rfl rfl ?_
  refine W_assign rfl rfl rfl ?_
  refine W_end ?_
  refine E_then ?_
  refine C_ret ?_
  obtain rfl := Option.some.inj hm
  refine E_weak (Hp.le_refl _) ?_
  exact end1 rfl rfl ⟨rfl, rfl, rfl⟩

theorem m_interlock_holds_c {B : Nat} {w0 w : World} {H : Hp} {M : List Res} {p0_l : (List S_api_InterlockNode)} {states : (List S_api_InterlockState)} {v0 : Value} {v1 : Value} {r : Bool} (hm : m_interlock_holds p0_l states = some r) (h0 : RdS H v0 p0_l) (h1 : RdS H v1 states) (ht : St B w0 H (M) w) :
    Calls Proofs.Try.prog 38 [v0, v1].toArray w (Ret B w0 fun H' M' v => H = H' ∧ M = M' ∧ .bool (r) = v) := by
  unfold m_interlock_holds at hm
  refine enter Proofs.Try.func38 rfl rfl rfl ht ?_
  refine C_seq ?_
  refine C_region ?_
  refine W_assign rfl rfl rfl ?_
  refine W_end ?_
  refine E_then ?_
  refine C_seq ?_
  refine C_region ?_
  refine W_move rfl rfl rfl ?_
  refine W_lenR rfl rfl Proofs.Try.runUnderlying44 rfl h0 ?_
  obtain ⟨hz101, hm⟩ := need_some hm
  refine W_makeSlice (α := Bool) (zs := [.bool (false)]) (ze := false) rfl rfl Proofs.Try.underlying83 ⟨_, rfl, rfl, rfl, rfl⟩ rfl rfl rfl rfl rfl rfl hz101.1 hz101.2 ?_
  intro v102 xs103 hr104
  refine W_assign rfl rfl rfl ?_
  refine W_end ?_
  refine E_then ?_
  refine C_seq ?_
  refine C_seq ?_
  refine C_region ?_
  refine W_move rfl rfl rfl ?_
  refine W_lenR rfl rfl Proofs.Try.runUnderlying44 rfl h0 ?_
  refine W_move rfl rfl rfl ?_
  refine W_end ?_
  refine E_then ?_
  refine C_block ?_
  refine C_keep (L' := [(0, v0), (1, v1), (5, v102), (12, v0), (13, .int .i64 ((p0_l.length : Int))), (14, .int .i64 (((0 : Nat) : Int)))]) ⟨rfl, rfl, rfl, rfl, rfl, rfl, trivial⟩ (List.Perm.refl _) ?_
  refine C_loop (fun n H' M' L' => ∃ (k105 : Nat) (zs623' : List S_api_InterlockNode), ∃ l614 : List Bool, ∃ xs613 : List Value, (p0_l).drop k105 = zs623' ∧ zs623'.length = n ∧ forI (fun k y s618 n => m_interlock_holds_b3 states k y s618 n) (fun s618 => idx s618 (IntKind.i64.wrap ((p0_l.length : Int) - 1)) fun y877 => some y877) k105 zs623' l614 = some r ∧ Rw H' v102 xs613 l614 ∧ H.le H' ∧ .row v102 4 (Rep.sz Bool) l614.length xs613 :: M = M' ∧ [(0, v0), (1, v1), (5, v102), (12, v0), (13, .int .i64 ((p0_l.length : Int))), (14, .int .i64 ((k105 : Int)))] = L') _ ⟨0, _, (List.replicate ((p0_l.length : Int) : Int).toNat (false : Bool)), xs103, rfl, rfl, hm, hr104, (Hp.le_refl _), rfl, rfl⟩ ?_
  rintro _ H616 _ _ ⟨k105, zs623', l614, xs613, hd625, rfl, hm, hr615, hle617, rfl, rfl⟩
  refine C_seq ?_
  refine C_region ?_
  refine W_bin rfl rfl rfl rfl rfl ?_
  refine W_end (E_then ?_)
  refine C_seq ?_
  refine C_cond (b := decide ((k105 : Int) < (p0_l.length : Int))) rfl (fun hb627 => ?_) (fun hb627 => ?_)
  · obtain ⟨y622, zs623, rfl, hy624, hd626⟩ := rng_t hd625 hb627
    have hm : m_interlock_holds_b3 states k105 y622 l614 (forI (fun k y s618 n => m_interlock_holds_b3 states k y s618 n) (fun s618 => idx s618 (IntKind.i64.wrap ((p0_l.length : Int) - 1)) fun y877 => some y877) (k105 + 1) zs623) = some r := hm
    generalize hn620 : forI (fun k y s618 n => m_interlock_holds_b3 states k y s618 n) (fun s618 => idx s618 (IntKind.i64.wrap ((p0_l.length : Int) - 1)) fun y877 => some y877) (k105 + 1) zs623 = nx619 at hm
    unfold m_interlock_holds_b3 at hm
    refine C_skip (E_then ?_)
    refine C_seq_join (fun H' M' L' => ∃ l752 : List Bool, ∃ xs751 : List Value, m_interlock_holds_b4 nx619 l752 = some r ∧ Rw H' v102 xs751 l752 ∧ H616 = H' ∧ .row v102 4 (Rep.sz Bool) l752.length xs751 :: M = M' ∧ [(0, v0), (1, v1), (5, v102), (12, v0), (13, .int .i64 ((p0_l.length : Int))), (14, .int .i64 ((k105 : Int)))] = L') ?_ (fun J754 => ?_)
    · rintro _ _ _ ⟨l752, xs751, hm, hr753, rfl, rfl, rfl⟩
      unfold m_interlock_holds_b4 at hm
      refine C_region ?_
      refine W_bin rfl rfl rfl rfl rfl ?_
      refine W_move rfl rfl rfl ?_
      refine W_end ?_
      exact E_keepJ (E_back (Nat.lt_succ_self _) ⟨k105 + 1, zs623, l752, xs751, hd626, rfl, (by rw [hn620]; exact hm), hr753, hle617, rfl, rfl⟩) (List.Perm.refl _) ⟨rfl, rfl, rfl, rfl, rfl, (congrArg (fun z => some (Value.int .i64 z)) (i64_succ hy624 ((h0.mono hle617)).lenMax)), trivial⟩
    · refine C_block ?_
      refine C_seq ?_
      refine C_region ?_
      refine W_move rfl rfl rfl ?_
      obtain ⟨_, ⟨rfl⟩, hc755⟩ := (h0).elem hy624
      refine W_indexS rfl rfl Proofs.Try.runUnderlying44 Proofs.Try.sizeOf58 rfl (h0.mono hle617) rfl (Int.natCast_nonneg _) hy624 ?_
      refine W_loadAgg rfl rfl Proofs.Try.isAgg58 Proofs.Try.sizeOf58 rfl (hc755.mono hle617).at rfl ?_
      refine W_alloc (cs := [.int .i64 (0), .string (⟨#[]⟩), .int .i64 (0), .int .i64 (0)]) rfl rfl Proofs.Try.zeroValue58 rfl (fun b756 => ?_)
      refine W_assign rfl rfl rfl ?_
      refine W_store (cs := [.int .i64 (y622.Kind), .string (y622.Name), .int .i64 (y622.A), .int .i64 (y622.B_)]) (out := [.int .i64 (y622.Kind), .string (y622.Name), .int .i64 (y622.A), .int .i64 (y622.B_)]) rfl Proofs.Try.sizeOf58 rfl rfl rfl rfl rfl (all_cons rfl (all_cons rfl (all_cons rfl (all_cons rfl all_nil)))) (over_all rfl) ?_
      refine W_end ?_
      refine E_then ?_
      refine C_seq ?_
      refine C_region ?_
      refine W_move rfl rfl rfl ?_
      refine W_field (o := 1) rfl rfl Proofs.Try.runUnderlying58 rfl Proofs.Try.sizeOf9 rfl rfl rfl ?_
      refine W_load rfl rfl Proofs.Try.isAgg9 rfl (own_at (List.mem_cons_self ..) rfl) ?_
      obtain ⟨r757, hc758, hm⟩ := bind_some hm
      refine W_call Proofs.Try.call33 rfl rfl rfl (fun w ht => by have h := m_interlock_index_c (hm := hc758) (h1.mono hle617) ht; exact h) ?_
      rintro _ _ _ ⟨rfl, rfl, rfl⟩
      refine W_assign rfl rfl rfl ?_
      refine W_end ?_
      refine E_then ?_
      refine C_seq ?_
      refine C_region ?_
      refine W_field (o := 0) rfl rfl Proofs.Try.runUnderlying58 rfl Proofs.Try.sizeOf3 rfl rfl rfl ?_
      refine W_load rfl rfl Proofs.Try.isAgg3 rfl (own_at (List.mem_cons_self ..) rfl) ?_
      refine W_end ?_
      refine E_then ?_
      refine C_block ?_
      refine C_seq ?_
      refine C_region ?_
      refine W_bin rfl rfl rfl rfl rfl ?_
      refine W_assign rfl rfl rfl ?_
      refine W_end ?_
      refine E_then ?_
      refine C_cond (b := decide (y622.Kind = 0)) rfl (fun hb759 => ?_) (fun hb759 => ?_)
      · have hm := ite_t' hb759 hm
        refine C_region ?_
        refine W_move rfl rfl rfl ?_
        refine W_move rfl rfl rfl ?_
        obtain ⟨y760, h761, he762, hm⟩ := idx_some hm
        refine W_indexO (List.mem_cons_of_mem _ (List.mem_cons_self ..)) rfl rfl Proofs.Try.runUnderlying83 Proofs.Try.sizeOf4 rfl rfl h761 (List.getElem?_eq_some_iff.1 he762).1 ?_
        obtain ⟨_, rfl, hg763⟩ := (hr615).elem he762
        refine W_perm (List.Perm.swap _ _ _) ?_
        obtain ⟨hr764, he765, hg766⟩ := Rw.put (cs := [.bool (true)]) (o := 0) (c := [.bool (y760)]) (out := [.bool (true)]) (e2 := true) hr615 he762 rfl hg763 rfl rfl rfl
        refine W_storeO2 (i := ((k105 : Int) : Int).toNat * Rep.sz Bool + 0) (cs := [.bool (true)]) rfl Proofs.Try.sizeOf4 rfl (row_ad0 _ _) rfl rfl rfl (Rw.room hr615 he762 rfl) rfl (all_cons rfl all_nil) (n' := (l614.set (((k105 : Int) : Int).toNat) true).length) List.length_set ?_
        generalize over xs613 (((k105 : Int) : Int).toNat * Rep.sz Bool + 0) [.bool (true)] = xs767 at hr764 hg766 ⊢
        refine W_end ?_
        refine E_normal_block ?_
        refine E_normal_block ?_
        refine E_drop (List.Sublist.cons_cons _ (List.Sublist.cons _ (List.Sublist.refl _))) ?_
        exact E_keepJ (J754 _ _ _ ⟨(l614.set (((k105 : Int) : Int).toNat) true), xs767, hm, hr764, rfl, rfl, rfl⟩) (List.Perm.refl _) ⟨rfl, rfl, rfl, rfl, rfl, rfl, trivial⟩
      · have hm := ite_f' hb759 hm
        refine C_seq ?_
        refine C_region ?_
        refine W_bin rfl rfl rfl rfl rfl ?_
        refine W_assign rfl rfl rfl ?_
        refine W_end ?_
        refine E_then ?_
        refine C_cond (b := decide (y622.Kind = 2)) rfl (fun hb768 => ?_) (fun hb768 => ?_)
        · have hm := ite_t' hb768 hm
          refine C_region ?_
          refine W_move rfl rfl rfl ?_
          refine W_move rfl rfl rfl ?_
          refine W_move rfl rfl rfl ?_
          refine W_bin rfl rfl rfl rfl rfl ?_
          refine W_move rfl rfl rfl ?_
          cases hb769 : (decide (0 ≤ r757))
          · have hm := ite_f' hb769 hm
            refine W_no rfl rfl rfl ?_
            refine W_no rfl rfl rfl ?_
            refine W_no rfl rfl rfl ?_
            refine W_no rfl rfl rfl ?_
            refine W_no rfl rfl rfl ?_
            refine W_no rfl rfl rfl ?_
            refine W_pick rfl rfl rfl rfl ?_
            obtain ⟨y770, h771, he772, hm⟩ := idx_some hm
            refine W_indexO (List.mem_cons_of_mem _ (List.mem_cons_self ..)) rfl rfl Proofs.Try.runUnderlying83 Proofs.Try.sizeOf4 rfl rfl h771 (List.getElem?_eq_some_iff.1 he772).1 ?_
            obtain ⟨_, rfl, hg773⟩ := (hr615).elem he772
            refine W_perm (List.Perm.swap _ _ _) ?_
            obtain ⟨hr774, he775, hg776⟩ := Rw.put (cs := [.bool (false)]) (o := 0) (c := [.bool (y770)]) (out := [.bool (false)]) (e2 := false) hr615 he772 rfl hg773 rfl rfl rfl
            refine W_storeO2 (i := ((k105 : Int) : Int).toNat * Rep.sz Bool + 0) (cs := [.bool (false)]) rfl Proofs.Try.sizeOf4 rfl (row_ad0 _ _) rfl rfl rfl (Rw.room hr615 he772 rfl) rfl (all_cons rfl all_nil) (n' := (l614.set (((k105 : Int) : Int).toNat) false).length) List.length_set ?_
            generalize over xs613 (((k105 : Int) : Int).toNat * Rep.sz Bool + 0) [.bool (false)] = xs777 at hr774 hg776 ⊢
            refine W_end ?_
            refine E_normal_block ?_
            refine E_normal_block ?_
            refine E_drop (List.Sublist.cons_cons _ (List.Sublist.cons _ (List.Sublist.refl _))) ?_
            exact E_keepJ (J754 _ _ _ ⟨(l614.set (((k105 : Int) : Int).toNat) false), xs777, hm, hr774, rfl, rfl, rfl⟩) (List.Perm.refl _) ⟨rfl, rfl, rfl, rfl, rfl, rfl, trivial⟩
          · have hm := ite_t' hb769 hm
            refine W_move rfl rfl rfl ?_
            refine W_move rfl rfl rfl ?_
            obtain ⟨y778, h779, he780, hm⟩ := idx_some hm
            obtain ⟨_, ⟨rfl⟩, hc781⟩ := (h1).elem he780
            refine W_indexS rfl rfl Proofs.Try.runUnderlying23 Proofs.Try.sizeOf33 rfl (h1.mono hle617) rfl h779 he780 ?_
            refine W_field (o := 1) rfl rfl Proofs.Try.runUnderlying33 rfl Proofs.Try.sizeOf4 rfl rfl rfl ?_
            refine W_load rfl rfl Proofs.Try.isAgg4 rfl (HCells.one (hc781.mono hle617) 1 rfl).at ?_
            refine W_un rfl rfl rfl rfl ?_
            refine W_pick rfl rfl rfl rfl ?_
            obtain ⟨y782, h783, he784, hm⟩ := idx_some hm
            refine W_indexO (List.mem_cons_of_mem _ (List.mem_cons_self ..)) rfl rfl Proofs.Try.runUnderlying83 Proofs.Try.sizeOf4 rfl rfl h783 (List.getElem?_eq_some_iff.1 he784).1 ?_
            obtain ⟨_, rfl, hg785⟩ := (hr615).elem he784
            refine W_perm (List.Perm.swap _ _ _) ?_
            obtain ⟨hr786, he787, hg788⟩ := Rw.put (cs := [.bool (!y778.Closed)]) (o := 0) (c := [.bool (y782)]) (out := [.bool (!y778.Closed)]) (e2 := (!y778.Closed)) hr615 he784 rfl hg785 rfl rfl rfl
            refine W_storeO2 (i := ((k105 : Int) : Int).toNat * Rep.sz Bool + 0) (cs := [.bool (!y778.Closed)]) rfl Proofs.Try.sizeOf4 rfl (row_ad0 _ _) rfl rfl rfl (Rw.room hr615 he784 rfl) rfl (all_cons rfl all_nil) (n' := (l614.set (((k105 : Int) : Int).toNat) (!y778.Closed)).length) List.length_set ?_
            generalize over xs613 (((k105 : Int) : Int).toNat * Rep.sz Bool + 0) [.bool (!y778.Closed)] = xs789 at hr786 hg788 ⊢
            refine W_end ?_
            refine E_normal_block ?_
            refine E_normal_block ?_
            refine E_drop (List.Sublist.cons_cons _ (List.Sublist.cons _ (List.Sublist.refl _))) ?_
            exact E_keepJ (J754 _ _ _ ⟨(l614.set (((k105 : Int) : Int).toNat) (!y778.Closed)), xs789, hm, hr786, rfl, rfl, rfl⟩) (List.Perm.refl _) ⟨rfl, rfl, rfl, rfl, rfl, rfl, trivial⟩
        · have hm := ite_f' hb768 hm
          refine C_seq ?_
          refine C_region ?_
          refine W_bin rfl rfl rfl rfl rfl ?_
          refine W_assign rfl rfl rfl ?_
          refine W_end ?_
          refine E_then ?_
          refine C_cond (b := decide (y622.Kind = 3)) rfl (fun hb790 => ?_) (fun hb790 => ?_)
          · have hm := ite_t' hb790 hm
            refine C_region ?_
            refine W_move rfl rfl rfl ?_
            refine W_move rfl rfl rfl ?_
            refine W_move rfl rfl rfl ?_
            refine W_bin rfl rfl rfl rfl rfl ?_
            refine W_move rfl rfl rfl ?_
            cases hb791 : (decide (0 ≤ r757))
            · have hm := ite_f' hb791 hm
              refine W_no rfl rfl rfl ?_
              refine W_no rfl rfl rfl ?_
              refine W_no rfl rfl rfl ?_
              refine W_no rfl rfl rfl ?_
              refine W_no rfl rfl rfl ?_
              refine W_pick rfl rfl rfl rfl ?_
              obtain ⟨y792, h793, he794, hm⟩ := idx_some hm
              refine W_indexO (List.mem_cons_of_mem _ (List.mem_cons_self ..)) rfl rfl Proofs.Try.runUnderlying83 Proofs.Try.sizeOf4 rfl rfl h793 (List.getElem?_eq_some_iff.1 he794).1 ?_
              obtain ⟨_, rfl, hg795⟩ := (hr615).elem he794
              refine W_perm (List.Perm.swap _ _ _) ?_
              obtain ⟨hr796, he797, hg798⟩ := Rw.put (cs := [.bool (false)]) (o := 0) (c := [.bool (y792)]) (out := [.bool (false)]) (e2 := false) hr615 he794 rfl hg795 rfl rfl rfl
              refine W_storeO2 (i := ((k105 : Int) : Int).toNat * Rep.sz Bool + 0) (cs := [.bool (false)]) rfl Proofs.Try.sizeOf4 rfl (row_ad0 _ _) rfl rfl rfl (Rw.room hr615 he794 rfl) rfl (all_cons rfl all_nil) (n' := (l614.set (((k105 : Int) : Int).toNat) false).length) List.length_set ?_
              generalize over xs613 (((k105 : Int) : Int).toNat * Rep.sz Bool + 0) [.bool (false)] = xs799 at hr796 hg798 ⊢
              refine W_end ?_
              refine E_normal_block ?_
              refine E_normal_block ?_
              refine E_drop (List.Sublist.cons_cons _ (List.Sublist.cons _ (List.Sublist.refl _))) ?_
              exact E_keepJ (J754 _ _ _ ⟨(l614.set (((k105 : Int) : Int).toNat) false), xs799, hm, hr796, rfl, rfl, rfl⟩) (List.Perm.refl _) ⟨rfl, rfl, rfl, rfl, rfl, rfl, trivial⟩
            · have hm := ite_t' hb791 hm
              refine W_move rfl rfl rfl ?_
              refine W_move rfl rfl rfl ?_
              obtain ⟨y800, h801, he802, hm⟩ := idx_some hm
              obtain ⟨_, ⟨rfl⟩, hc803⟩ := (h1).elem he802
              refine W_indexS rfl rfl Proofs.Try.runUnderlying23 Proofs.Try.sizeOf33 rfl (h1.mono hle617) rfl h801 he802 ?_
              refine W_field (o := 1) rfl rfl Proofs.Try.runUnderlying33 rfl Proofs.Try.sizeOf4 rfl rfl rfl ?_
              refine W_load rfl rfl Proofs.Try.isAgg4 rfl (HCells.one (hc803.mono hle617) 1 rfl).at ?_
              refine W_pick rfl rfl rfl rfl ?_
              obtain ⟨y804, h805, he806, hm⟩ := idx_some hm
              refine W_indexO (List.mem_cons_of_mem _ (List.mem_cons_self ..)) rfl rfl Proofs.Try.runUnderlying83 Proofs.Try.sizeOf4 rfl rfl h805 (List.getElem?_eq_some_iff.1 he806).1 ?_
              obtain ⟨_, rfl, hg807⟩ := (hr615).elem he806
              refine W_perm (List.Perm.swap _ _ _) ?_
              obtain ⟨hr808, he809, hg810⟩ := Rw.put (cs := [.bool (y800.Closed)]) (o := 0) (c := [.bool (y804)]) (out := [.bool (y800.Closed)]) (e2 := y800.Closed) hr615 he806 rfl hg807 rfl rfl rfl
              refine W_storeO2 (i := ((k105 : Int) : Int).toNat * Rep.sz Bool + 0) (cs := [.bool (y800.Closed)]) rfl Proofs.Try.sizeOf4 rfl (row_ad0 _ _) rfl rfl rfl (Rw.room hr615 he806 rfl) rfl (all_cons rfl all_nil) (n' := (l614.set (((k105 : Int) : Int).toNat) y800.Closed).length) List.length_set ?_
              generalize over xs613 (((k105 : Int) : Int).toNat * Rep.sz Bool + 0) [.bool (y800.Closed)] = xs811 at hr808 hg810 ⊢
              refine W_end ?_
              refine E_normal_block ?_
              refine E_normal_block ?_
              refine E_drop (List.Sublist.cons_cons _ (List.Sublist.cons _ (List.Sublist.refl _))) ?_
              exact E_keepJ (J754 _ _ _ ⟨(l614.set (((k105 : Int) : Int).toNat) y800.Closed), xs811, hm, hr808, rfl, rfl, rfl⟩) (List.Perm.refl _) ⟨rfl, rfl, rfl, rfl, rfl, rfl, trivial⟩
          · have hm := ite_f' hb790 hm
            refine C_seq ?_
            refine C_region ?_
            refine W_bin rfl rfl rfl rfl rfl ?_
            refine W_assign rfl rfl rfl ?_
            refine W_end ?_
            refine E_then ?_
            refine C_cond (b := decide (y622.Kind = 4)) rfl (fun hb812 => ?_) (fun hb812 => ?_)
            · have hm := ite_t' hb812 hm
              refine C_region ?_
              refine W_move rfl rfl rfl ?_
              refine W_move rfl rfl rfl ?_
              refine W_move rfl rfl rfl ?_
              refine W_field (o := 2) rfl rfl Proofs.Try.runUnderlying58 rfl Proofs.Try.sizeOf3 rfl rfl rfl ?_
              refine W_load rfl rfl Proofs.Try.isAgg3 rfl (own_at (List.mem_cons_self ..) rfl) ?_
              obtain ⟨y813, h814, he815, hm⟩ := idx_some hm
              refine W_indexO (List.mem_cons_of_mem _ (List.mem_cons_self ..)) rfl rfl Proofs.Try.runUnderlying83 Proofs.Try.sizeOf4 rfl rfl h814 (List.getElem?_eq_some_iff.1 he815).1 ?_
              obtain ⟨_, rfl, hg816⟩ := (hr615).elem he815
              refine W_load rfl rfl Proofs.Try.isAgg4 rfl (row_one0 (List.mem_cons_of_mem _ (List.mem_cons_self ..)) hg816 rfl) ?_
              refine W_un rfl rfl rfl rfl ?_
              obtain ⟨y817, h818, he819, hm⟩ := idx_some hm
              refine W_indexO (List.mem_cons_of_mem _ (List.mem_cons_self ..)) rfl rfl Proofs.Try.runUnderlying83 Proofs.Try.sizeOf4 rfl rfl h818 (List.getElem?_eq_some_iff.1 he819).1 ?_
              obtain ⟨_, rfl, hg820⟩ := (hr615).elem he819
              refine W_perm (List.Perm.swap _ _ _) ?_
              obtain ⟨hr821, he822, hg823⟩ := Rw.put (cs := [.bool (!y813)]) (o := 0) (c := [.bool (y817)]) (out := [.bool (!y813)]) (e2 := (!y813)) hr615 he819 rfl hg820 rfl rfl rfl
              refine W_storeO2 (i := ((k105 : Int) : Int).toNat * Rep.sz Bool + 0) (cs := [.bool (!y813)]) rfl Proofs.Try.sizeOf4 rfl (row_ad0 _ _) rfl rfl rfl (Rw.room hr615 he819 rfl) rfl (all_cons rfl all_nil) (n' := (l614.set (((k105 : Int) : Int).toNat) (!y813)).length) List.length_set ?_
              generalize over xs613 (((k105 : Int) : Int).toNat * Rep.sz Bool + 0) [.bool (!y813)] = xs824 at hr821 hg823 ⊢
              refine W_end ?_
              refine E_normal_block ?_
              refine E_normal_block ?_
              refine E_drop (List.Sublist.cons_cons _ (List.Sublist.cons _ (List.Sublist.refl _))) ?_
              exact E_keepJ (J754 _ _ _ ⟨(l614.set (((k105 : Int) : Int).toNat) (!y813)), xs824, hm, hr821, rfl, rfl, rfl⟩) (List.Perm.refl _) ⟨rfl, rfl, rfl, rfl, rfl, rfl, trivial⟩
            · have hm := ite_f' hb812 hm
              refine C_seq ?_
              refine C_region ?_
              refine W_bin rfl rfl rfl rfl rfl ?_
              refine W_assign rfl rfl rfl ?_
              refine W_end ?_
              refine E_then ?_
              refine C_cond (b := decide (y622.Kind = 5)) rfl (fun hb825 => ?_) (fun hb825 => ?_)
              · have hm := ite_t' hb825 hm
                refine C_region ?_
                refine W_move rfl rfl rfl ?_
                refine W_move rfl rfl rfl ?_
                refine W_move rfl rfl rfl ?_
                refine W_field (o := 2) rfl rfl Proofs.Try.runUnderlying58 rfl Proofs.Try.sizeOf3 rfl rfl rfl ?_
                refine W_load rfl rfl Proofs.Try.isAgg3 rfl (own_at (List.mem_cons_self ..) rfl) ?_
                obtain ⟨y826, h827, he828, hm⟩ := idx_some hm
                refine W_indexO (List.mem_cons_of_mem _ (List.mem_cons_self ..)) rfl rfl Proofs.Try.runUnderlying83 Proofs.Try.sizeOf4 rfl rfl h827 (List.getElem?_eq_some_iff.1 he828).1 ?_
                obtain ⟨_, rfl, hg829⟩ := (hr615).elem he828
                refine W_load rfl rfl Proofs.Try.isAgg4 rfl (row_one0 (List.mem_cons_of_mem _ (List.mem_cons_self ..)) hg829 rfl) ?_
                refine W_move rfl rfl rfl ?_
                cases hb830 : (y826)
                · have hm := ite_f' hb830 hm
                  refine W_no rfl rfl rfl ?_
                  refine W_no rfl rfl rfl ?_
                  refine W_no rfl rfl rfl ?_
                  refine W_no rfl rfl rfl ?_
                  refine W_no rfl rfl rfl ?_
                  refine W_pick rfl rfl rfl rfl ?_
                  obtain ⟨y831, h832, he833, hm⟩ := idx_some hm
                  refine W_indexO (List.mem_cons_of_mem _ (List.mem_cons_self ..)) rfl rfl Proofs.Try.runUnderlying83 Proofs.Try.sizeOf4 rfl rfl h832 (List.getElem?_eq_some_iff.1 he833).1 ?_
                  obtain ⟨_, rfl, hg834⟩ := (hr615).elem he833
                  refine W_perm (List.Perm.swap _ _ _) ?_
                  obtain ⟨hr835, he836, hg837⟩ := Rw.put (cs := [.bool (false)]) (o := 0) (c := [.bool (y831)]) (out := [.bool (false)]) (e2 := false) hr615 he833 rfl hg834 rfl rfl rfl
                  refine W_storeO2 (i := ((k105 : Int) : Int).toNat * Rep.sz Bool + 0) (cs := [.bool (false)]) rfl Proofs.Try.sizeOf4 rfl (row_ad0 _ _) rfl rfl rfl (Rw.room hr615 he833 rfl) rfl (all_cons rfl all_nil) (n' := (l614.set (((k105 : Int) : Int).toNat) false).length) List.length_set ?_
                  generalize over xs613 (((k105 : Int) : Int).toNat * Rep.sz Bool + 0) [.bool (false)] = xs838 at hr835 hg837 ⊢
                  refine W_end ?_
                  refine E_normal_block ?_
                  refine E_normal_block ?_
                  refine E_drop (List.Sublist.cons_cons _ (List.Sublist.cons _ (List.Sublist.refl _))) ?_
                  exact E_keepJ (J754 _ _ _ ⟨(l614.set (((k105 : Int) : Int).toNat) false), xs838, hm, hr835, rfl, rfl, rfl⟩) (List.Perm.refl _) ⟨rfl, rfl, rfl, rfl, rfl, rfl, trivial⟩
                · have hm := ite_t' hb830 hm
                  refine W_move rfl rfl rfl ?_
                  refine W_field (o := 3) rfl rfl Proofs.Try.runUnderlying58 rfl Proofs.Try.sizeOf3 rfl rfl rfl ?_
                  refine W_load rfl rfl Proofs.Try.isAgg3 rfl (own_at (List.mem_cons_self ..) rfl) ?_
                  obtain ⟨y839, h840, he841, hm⟩ := idx_some hm
                  refine W_indexO (List.mem_cons_of_mem _ (List.mem_cons_self ..)) rfl rfl Proofs.Try.runUnderlying83 Proofs.Try.sizeOf4 rfl rfl h840 (List.getElem?_eq_some_iff.1 he841).1 ?_
                  obtain ⟨_, rfl, hg842⟩ := (hr615).elem he841
                  refine W_load rfl rfl Proofs.Try.isAgg4 rfl (row_one0 (List.mem_cons_of_mem _ (List.mem_cons_self ..)) hg842 rfl) ?_
                  refine W_pick rfl rfl rfl rfl ?_
                  obtain ⟨y843, h844, he845, hm⟩ := idx_some hm
                  refine W_indexO (List.mem_cons_of_mem _ (List.mem_cons_self ..)) rfl rfl Proofs.Try.runUnderlying83 Proofs.Try.sizeOf4 rfl rfl h844 (List.getElem?_eq_some_iff.1 he845).1 ?_
                  obtain ⟨_, rfl, hg846⟩ := (hr615).elem he845
                  refine W_perm (List.Perm.swap _ _ _) ?_
                  obtain ⟨hr847, he848, hg849⟩ := Rw.put (cs := [.bool (y839)]) (o := 0) (c := [.bool (y843)]) (out := [.bool (y839)]) (e2 := y839) hr615 he845 rfl hg846 rfl rfl rfl
                  refine W_storeO2 (i := ((k105 : Int) : Int).toNat * Rep.sz Bool + 0) (cs := [.bool (y839)]) rfl Proofs.Try.sizeOf4 rfl (row_ad0 _ _) rfl rfl rfl (Rw.room hr615 he845 rfl) rfl (all_cons rfl all_nil) (n' := (l614.set (((k105 : Int) : Int).toNat) y839).length) List.length_set ?_
                  generalize over xs613 (((k105 : Int) : Int).toNat * Rep.sz Bool + 0) [.bool (y839)] = xs850 at hr847 hg849 ⊢
                  refine W_end ?_
                  refine E_normal_block ?_
                  refine E_normal_block ?_
                  refine E_drop (List.Sublist.cons_cons _ (List.Sublist.cons _ (List.Sublist.refl _))) ?_
                  exact E_keepJ (J754 _ _ _ ⟨(l614.set (((k105 : Int) : Int).toNat) y839), xs850, hm, hr847, rfl, rfl, rfl⟩) (List.Perm.refl _) ⟨rfl, rfl, rfl, rfl, rfl, rfl, trivial⟩
              · have hm := ite_f' hb825 hm
                refine C_seq ?_
                refine C_region ?_
                refine W_bin rfl rfl rfl rfl rfl ?_
                refine W_assign rfl rfl rfl ?_
                refine W_end ?_
                refine E_then ?_
                refine C_cond (b := decide (y622.Kind = 6)) rfl (fun hb851 => ?_) (fun hb851 => ?_)
                · have hm := ite_t' hb851 hm
                  refine C_region ?_
                  refine W_move rfl rfl rfl ?_
                  refine W_move rfl rfl rfl ?_
                  refine W_move rfl rfl rfl ?_
                  refine W_field (o := 2) rfl rfl Proofs.Try.runUnderlying58 rfl Proofs.Try.sizeOf3 rfl rfl rfl ?_
                  refine W_load rfl rfl Proofs.Try.isAgg3 rfl (own_at (List.mem_cons_self ..) rfl) ?_
                  obtain ⟨y852, h853, he854, hm⟩ := idx_some hm
                  refine W_indexO (List.mem_cons_of_mem _ (List.mem_cons_self ..)) rfl rfl Proofs.Try.runUnderlying83 Proofs.Try.sizeOf4 rfl rfl h853 (List.getElem?_eq_some_iff.1 he854).1 ?_
                  obtain ⟨_, rfl, hg855⟩ := (hr615).elem he854
                  refine W_load rfl rfl Proofs.Try.isAgg4 rfl (row_one0 (List.mem_cons_of_mem _ (List.mem_cons_self ..)) hg855 rfl) ?_
                  refine W_move rfl rfl rfl ?_
                  cases hb856 : (y852)
                  · have hm := ite_f' hb856 hm
                    refine W_move rfl rfl rfl ?_
                    refine W_field (o := 3) rfl rfl Proofs.Try.runUnderlying58 rfl Proofs.Try.sizeOf3 rfl rfl rfl ?_
                    refine W_load rfl rfl Proofs.Try.isAgg3 rfl (own_at (List.mem_cons_self ..) rfl) ?_
                    obtain ⟨y857, h858, he859, hm⟩ := idx_some hm
                    refine W_indexO (List.mem_cons_of_mem _ (List.mem_cons_self ..)) rfl rfl Proofs.Try.runUnderlying83 Proofs.Try.sizeOf4 rfl rfl h858 (List.getElem?_eq_some_iff.1 he859).1 ?_
                    obtain ⟨_, rfl, hg860⟩ := (hr615).elem he859
                    refine W_load rfl rfl Proofs.Try.isAgg4 rfl (row_one0 (List.mem_cons_of_mem _ (List.mem_cons_self ..)) hg860 rfl) ?_
                    refine W_pick rfl rfl rfl rfl ?_
                    obtain ⟨y861, h862, he863, hm⟩ := idx_some hm
                    refine W_indexO (List.mem_cons_of_mem _ (List.mem_cons_self ..)) rfl rfl Proofs.Try.runUnderlying83 Proofs.Try.sizeOf4 rfl rfl h862 (List.getElem?_eq_some_iff.1 he863).1 ?_
                    obtain ⟨_, rfl, hg864⟩ := (hr615).elem he863
                    refine W_perm (List.Perm.swap _ _ _) ?_
                    obtain ⟨hr865, he866, hg867⟩ := Rw.put (cs := [.bool (y857)]) (o := 0) (c := [.bool (y861)]) (out := [.bool (y857)]) (e2 := y857) hr615 he863 rfl hg864 rfl rfl rfl
                    refine W_storeO2 (i := ((k105 : Int) : Int).toNat * Rep.sz Bool + 0) (cs := [.bool (y857)]) rfl Proofs.Try.sizeOf4 rfl (row_ad0 _ _) rfl rfl rfl (Rw.room hr615 he863 rfl) rfl (all_cons rfl all_nil) (n' := (l614.set (((k105 : Int) : Int).toNat) y857).length) List.length_set ?_
                    generalize over xs613 (((k105 : Int) : Int).toNat * Rep.sz Bool + 0) [.bool (y857)] = xs868 at hr865 hg867 ⊢
                    refine W_end ?_
                    refine E_normal_block ?_
                    refine E_normal_block ?_
                    refine E_drop (List.Sublist.cons_cons _ (List.Sublist.cons _ (List.Sublist.refl _))) ?_
                    exact E_keepJ (J754 _ _ _ ⟨(l614.set (((k105 : Int) : Int).toNat) y857), xs868, hm, hr865, rfl, rfl, rfl⟩) (List.Perm.refl _) ⟨rfl, rfl, rfl, rfl, rfl, rfl, trivial⟩
                  · have hm := ite_t' hb856 hm
                    refine W_no rfl rfl rfl ?_
                    refine W_no rfl rfl rfl ?_
                    refine W_no rfl rfl rfl ?_
                    refine W_no rfl rfl rfl ?_
                    refine W_no rfl rfl rfl ?_
                    refine W_pick rfl rfl rfl rfl ?_
                    obtain ⟨y869, h870, he871, hm⟩ := idx_some hm
                    refine W_indexO (List.mem_cons_of_mem _ (List.mem_cons_self ..)) rfl rfl Proofs.Try.runUnderlying83 Proofs.Try.sizeOf4 rfl rfl h870 (List.getElem?_eq_some_iff.1 he871).1 ?_
                    obtain ⟨_, rfl, hg872⟩ := (hr615).elem he871
                    refine W_perm (List.Perm.swap _ _ _) ?_
                    obtain ⟨hr873, he874, hg875⟩ := Rw.put (cs := [.bool (true)]) (o := 0) (c := [.bool (y869)]) (out := [.bool (true)]) (e2 := true) hr615 he871 rfl hg872 rfl rfl rfl
                    refine W_storeO2 (i := ((k105 : Int) : Int).toNat * Rep.sz Bool + 0) (cs := [.bool (true)]) rfl Proofs.Try.sizeOf4 rfl (row_ad0 _ _) rfl rfl rfl (Rw.room hr615 he871 rfl) rfl (all_cons rfl all_nil) (n' := (l614.set (((k105 : Int) : Int).toNat) true).length) List.length_set ?_
                    generalize over xs613 (((k105 : Int) : Int).toNat * Rep.sz Bool + 0) [.bool (true)] = xs876 at hr873 hg875 ⊢
                    refine W_end ?_
                    refine E_normal_block ?_
                    refine E_normal_block ?_
                    refine E_drop (List.Sublist.cons_cons _ (List.Sublist.cons _ (List.Sublist.refl _))) ?_
                    exact E_keepJ (J754 _ _ _ ⟨(l614.set (((k105 : Int) : Int).toNat) true), xs876, hm, hr873, rfl, rfl, rfl⟩) (List.Perm.refl _) ⟨rfl, rfl, rfl, rfl, rfl, rfl, trivial⟩
                · have hm := ite_f' hb851 hm
                  refine C_skip ?_
                  refine E_normal_block ?_
                  refine E_normal_block ?_
                  refine E_drop (List.Sublist.cons _ (List.Sublist.refl _)) ?_
                  exact E_keepJ (J754 _ _ _ ⟨l614, xs613, hm, hr615, rfl, rfl, rfl⟩) (List.Perm.refl _) ⟨rfl, rfl, rfl, rfl, rfl, rfl, trivial⟩
  · obtain rfl := rng_f hd625 hb627
    have hm : (idx l614 (IntKind.i64.wrap ((p0_l.length : Int) - 1)) fun y877 => some y877) = some r := hm
    refine C_exit (E_exit_then ?_)
    refine E_exit_then ?_
    refine E_exit_hit ?_
    refine E_then ?_
    refine C_seq ?_
    refine C_region ?_
    refine W_move rfl rfl rfl ?_
    refine W_move rfl rfl rfl ?_
    refine W_lenR rfl rfl Proofs.Try.runUnderlying44 rfl (h0.mono hle617) ?_
    refine W_bin rfl rfl rfl rfl rfl ?_
    obtain ⟨y877, h878, he879, hm⟩ := idx_some hm
    refine W_indexO (List.mem_cons_self ..) rfl rfl Proofs.Try.runUnderlying83 Proofs.Try.sizeOf4 rfl rfl h878 (List.getElem?_eq_some_iff.1 he879).1 ?_
    obtain ⟨_, rfl, hg880⟩ := (hr615).elem he879
    refine W_load rfl rfl Proofs.Try.isAgg4 rfl (row_one0 (List.mem_cons_self ..) hg880 rfl) ?_
    refine W_assign rfl rfl rfl ?_
    refine W_end ?_
    refine E_then ?_
    refine C_ret ?_
    obtain rfl := Option.some.inj hm
    refine E_drop (List.Sublist.cons _ (List.Sublist.refl _)) ?_
    refine E_weak hle617 ?_
    exact end1 rfl rfl ⟨rfl, rfl, rfl⟩

theorem m_interlock_Explain_c {B : Nat} {w0 w : World} {H : Hp} {M : List Res} {p0_l : (List S_api_InterlockRule)} {states : (List S_api_InterlockState)} {closing : Bool} {name : ByteArray} {v0 : Value} {v1 : Value} {r : (List Int) × Int} (hm : m_interlock_Explain p0_l states closing name = some r) (h0 : RdS H v0 p0_l) (h1 : RdS H v1 states) (ht : St B w0 H (M) w) :
    Calls Proofs.Try.prog 35 [v0, v1, .bool (closing), .string (name)].toArray w (Ret B w0 fun H' M' v => H = H' ∧ ∃ qv0 : Value, ∃ qxs0 : List Value, .row qv0 3 (Rep.sz Int) r.1.length qxs0 :: M = M' ∧ .tuple #[qv0, .int .i64 (r.2)] = v ∧ RwF qv0 qxs0 r.1) := by
  unfold m_interlock_Explain at hm
  refine enter Proofs.Try.func35 rfl rfl rfl ht ?_
  refine C_seq ?_
  refine C_region ?_
  refine W_assign rfl rfl rfl ?_
  refine W_assign rfl rfl rfl ?_
  refine W_end ?_
  refine E_then ?_
  refine C_seq ?_
  refine C_seq ?_
  refine C_region ?_
  refine W_move rfl rfl rfl ?_
  obtain ⟨r101, hc102, hm⟩ := bind_some hm
  refine W_call Proofs.Try.call24 rfl rfl rfl (fun w ht => by have h := m_interlock_Check_c (hm := hc102) h0 ht; exact h) ?_
  rintro _ _ _ ⟨rfl, rfl, rfl⟩
  refine W_assign rfl rfl rfl ?_
  refine W_end ?_
  refine E_then ?_
  refine C_seq ?_
  refine C_region ?_
  refine W_move rfl rfl rfl ?_
  refine W_bin rfl rfl rfl rfl rfl ?_
  refine W_end ?_
  refine E_then ?_
  refine C_cond (b := !decide (r101 = 0)) rfl (fun hb103 => ?_) (fun hb103 => ?_)
  · have hm := ite_t' hb103 hm
    refine C_seq ?_
    refine C_region ?_
    refine W_move rfl rfl rfl ?_
    refine W_assign rfl rfl rfl ?_
    refine W_assign rfl rfl rfl ?_
    refine W_end ?_
    refine E_then ?_
    refine C_ret ?_
    refine E_ret_then ?_
    refine E_nilRow 3 (Rep.sz Int) ?_
    obtain rfl := Option.some.inj hm
    refine E_weak (Hp.le_refl _) ?_
    exact end2 rfl rfl rfl ⟨rfl, (.slice none 0 0), [], rfl, rfl, (Rw.nil (H := H)).toF⟩
  · have hm := ite_f' hb103 hm
    refine C_skip ?_
    refine E_then ?_
    refine C_seq ?_
    refine C_seq ?_
    refine C_region ?_
    refine W_move rfl rfl rfl ?_
    obtain ⟨r104, hc105, hm⟩ := bind_some hm
    refine W_call Proofs.Try.call25 rfl rfl rfl (fun w ht => by have h := m_interlock_CheckStates_c (hm := hc105) h1 ht; exact h) ?_
    rintro _ _ _ ⟨rfl, rfl, rfl⟩
    refine W_assign rfl rfl rfl ?_
    refine W_end ?_
    refine E_then ?_
    refine C_seq ?_
    refine C_region ?_
    refine W_move rfl rfl rfl ?_
    refine W_bin rfl rfl rfl rfl rfl ?_
    refine W_end ?_
    refine E_then ?_
    refine C_cond (b := !decide (r104 = 0)) rfl (fun hb106 => ?_) (fun hb106 => ?_)
    · have hm := ite_t' hb106 hm
      refine C_seq ?_
      refine C_region ?_
      refine W_move rfl rfl rfl ?_
      refine W_assign rfl rfl rfl ?_
      refine W_assign rfl rfl rfl ?_
      refine W_end ?_
      refine E_then ?_
      refine C_ret ?_
      refine E_ret_then ?_
      refine E_nilRow 3 (Rep.sz Int) ?_
      obtain rfl := Option.some.inj hm
      refine E_weak (Hp.le_refl _) ?_
      exact end2 rfl rfl rfl ⟨rfl, (.slice none 0 0), [], rfl, rfl, (Rw.nil (H := H)).toF⟩
    · have hm := ite_f' hb106 hm
      refine C_skip ?_
      refine E_then ?_
      refine C_seq ?_
      refine C_seq ?_
      refine C_region ?_
      refine W_move rfl rfl rfl ?_
      refine W_move rfl rfl rfl ?_
      obtain ⟨r107, hc108, hm⟩ := bind_some hm
      refine W_call Proofs.Try.call33 rfl rfl rfl (fun w ht => by have h := m_interlock_index_c (hm := hc108) h1 ht; exact h) ?_
      rintro _ _ _ ⟨rfl, rfl, rfl⟩
      refine W_bin rfl rfl rfl rfl rfl ?_
      refine W_end ?_
      refine E_then ?_
      refine C_cond (b := decide (r107 < 0)) rfl (fun hb109 => ?_) (fun hb109 => ?_)
      · have hm := ite_t' hb109 hm
        refine C_seq ?_
        refine C_region ?_
        refine W_assign rfl rfl rfl ?_
        refine W_assign rfl rfl rfl ?_
        refine W_end ?_
        refine E_then ?_
        refine C_ret ?_
        refine E_ret_then ?_
        refine E_nilRow 3 (Rep.sz Int) ?_
        obtain rfl := Option.some.inj hm
        refine E_weak (Hp.le_refl _) ?_
        exact end2 rfl rfl rfl ⟨rfl, (.slice none 0 0), [], rfl, rfl, (Rw.nil (H := H)).toF⟩
      · have hm := ite_f' hb109 hm
        refine C_skip ?_
        refine E_then ?_
        refine C_seq ?_
        refine C_region ?_
        refine W_assign rfl rfl rfl ?_
        refine W_end ?_
        refine E_then ?_
        refine C_seq ?_
        refine C_seq ?_
        refine C_region ?_
        refine W_move rfl rfl rfl ?_
        refine W_lenR rfl rfl Proofs.Try.runUnderlying22 rfl h0 ?_
        refine W_move rfl rfl rfl ?_
        refine W_end ?_
        refine E_then ?_
        refine C_block ?_
        refine C_nilRow 3 (Rep.sz Int) ?_
        refine C_keep (L' := [(1, v1), (2, .bool (closing)), (3, .string (name)), (12, (.slice none 0 0)), (29, v0), (30, .int .i64 ((p0_l.length : Int))), (31, .int .i64 (((0 : Nat) : Int)))]) ⟨rfl, rfl, rfl, rfl, rfl, rfl, rfl, trivial⟩ (List.Perm.refl _) ?_
        refine C_loop (fun n H' M' L' => ∃ (k110 : Nat) (zs228' : List S_api_InterlockRule), ∃ l219 : List Int, ∃ v217 : Value, ∃ xs218 : List Value, (p0_l).drop k110 = zs228' ∧ zs228'.length = n ∧ forI (fun k y s223 n => m_interlock_Explain_b3 states closing name k y s223 n) (fun s223 => some (s223, 0)) k110 zs228' l219 = some r ∧ Rw H' v217 xs218 l219 ∧ H.le H' ∧ .row v217 3 (Rep.sz Int) l219.length xs218 :: M = M' ∧ [(1, v1), (2, .bool (closing)), (3, .string (name)), (12, v217), (29, v0), (30, .int .i64 ((p0_l.length : Int))), (31, .int .i64 ((k110 : Int)))] = L') _ ⟨0, _, ([] : List Int), (.slice none 0 0), ([]), rfl, rfl, hm, Rw.nil, (Hp.le_refl _), rfl, rfl⟩ ?_
        rintro _ H221 _ _ ⟨k110, zs228', l219, v217, xs218, hd230, rfl, hm, hr220, hle222, rfl, rfl⟩
        refine C_seq ?_
        refine C_region ?_
        refine W_bin rfl rfl rfl rfl rfl ?_
        refine W_end (E_then ?_)
        refine C_seq ?_
        refine C_cond (b := decide ((k110 : Int) < (p0_l.length : Int))) rfl (fun hb232 => ?_) (fun hb232 => ?_)
        · obtain ⟨y227, zs228, rfl, hy229, hd231⟩ := rng_t hd230 hb232
          have hm : m_interlock_Explain_b3 states closing name k110 y227 l219 (forI (fun k y s223 n => m_interlock_Explain_b3 states closing name k y s223 n) (fun s223 => some (s223, 0)) (k110 + 1) zs228) = some r := hm
          generalize hn225 : forI (fun k y s223 n => m_interlock_Explain_b3 states closing name k y s223 n) (fun s223 => some (s223, 0)) (k110 + 1) zs228 = nx224 at hm
          unfold m_interlock_Explain_b3 at hm
          refine C_skip (E_then ?_)
          refine C_seq_join (fun H' M' L' => ∃ l255 : List Int, ∃ v253 : Value, ∃ xs254 : List Value, m_interlock_Explain_b4 nx224 l255 = some r ∧ Rw H' v253 xs254 l255 ∧ H221.le H' ∧ .row v253 3 (Rep.sz Int) l255.length xs254 :: M = M' ∧ [(1, v1), (2, .bool (closing)), (3, .string (name)), (12, v253), (29, v0), (30, .int .i64 ((p0_l.length : Int))), (31, .int .i64 ((k110 : Int)))] = L') ?_ (fun J259 => ?_)
          · rintro H257 _ _ ⟨l255, v253, xs254, hm, hr256, hle258, rfl, rfl⟩
            unfold m_interlock_Explain_b4 at hm
            refine C_region ?_
            refine W_bin rfl rfl rfl rfl rfl ?_
            refine W_move rfl rfl rfl ?_
            refine W_end ?_
            exact E_keepJ (E_back (Nat.lt_succ_self _) ⟨k110 + 1, zs228, l255, v253, xs254, hd231, rfl, (by rw [hn225]; exact hm), hr256, (Hp.le_trans hle222 hle258), rfl, rfl⟩) (List.Perm.refl _) ⟨rfl, rfl, rfl, rfl, rfl, rfl, (congrArg (fun z => some (Value.int .i64 z)) (i64_succ hy229 ((h0.mono hle222)).lenMax)), trivial⟩
          · refine C_block ?_
            refine C_seq ?_
            refine C_region ?_
            refine W_move rfl rfl rfl ?_
            obtain ⟨_, ⟨v261, rfl, h262⟩, hc260⟩ := (h0).elem hy229
            refine W_indexS rfl rfl Proofs.Try.runUnderlying22 Proofs.Try.sizeOf46 rfl (h0.mono hle222) rfl (Int.natCast_nonneg _) hy229 ?_
            refine W_loadAgg rfl rfl Proofs.Try.isAgg46 Proofs.Try.sizeOf46 rfl (hc260.mono hle222).at rfl ?_
            refine W_alloc (cs := [.bool (false), .string (⟨#[]⟩), .slice none 0 0]) rfl rfl Proofs.Try.zeroValue46 rfl (fun b263 => ?_)
            refine W_assign rfl rfl rfl ?_
            refine W_store (cs := [.bool (y227.Close), .string (y227.Switch), v261]) (out := [.bool (y227.Close), .string (y227.Switch), v261]) rfl Proofs.Try.sizeOf46 rfl rfl rfl rfl rfl (all_cons rfl (all_cons rfl (all_cons (RdS.one1 (h262.mono hle222)) all_nil))) (over_all rfl) ?_
            refine W_end ?_
            refine E_then ?_
            refine C_seq ?_
            refine C_region ?_
            refine W_field (o := 0) rfl rfl Proofs.Try.runUnderlying46 rfl Proofs.Try.sizeOf4 rfl rfl rfl ?_
            refine W_load rfl rfl Proofs.Try.isAgg4 rfl (own_at (List.mem_cons_self ..) rfl) ?_
            refine W_move rfl rfl rfl ?_
            refine W_eqBool rfl rfl Proofs.Try.runUnderlying4 rfl rfl ?_
            refine W_move rfl rfl rfl ?_
            cases hb264 : (decide (y227.Close = closing))
            · have hm := ite_f' hb264 hm
              refine W_no rfl rfl rfl ?_
              refine W_no rfl rfl rfl ?_
              refine W_no rfl rfl rfl ?_
              refine W_no rfl rfl rfl ?_
              refine W_pick rfl rfl rfl rfl ?_
              refine W_move rfl rfl rfl ?_
              refine W_no rfl rfl rfl ?_
              refine W_no rfl rfl rfl ?_
              refine W_no rfl rfl rfl ?_
              refine W_no rfl rfl rfl ?_
              refine W_no rfl rfl rfl ?_
              refine W_pick rfl rfl rfl rfl ?_
              refine W_end ?_
              refine E_then ?_
              refine C_cond (b := false) rfl (fun hb => Bool.noConfusion hb) (fun _ => ?_)
              refine C_skip ?_
              refine E_normal_block ?_
              refine E_drop (List.Sublist.cons _ (List.Sublist.refl _)) ?_
              exact E_keepJ (J259 _ _ _ ⟨l219, v217, xs218, hm, hr220, (Hp.le_refl _), rfl, rfl⟩) (List.Perm.refl _) ⟨rfl, rfl, rfl, rfl, rfl, rfl, rfl, trivial⟩
            · have hm := ite_t' hb264 hm
              refine W_field (o := 1) rfl rfl Proofs.Try.runUnderlying46 rfl Proofs.Try.sizeOf9 rfl rfl rfl ?_
              refine W_load rfl rfl Proofs.Try.isAgg9 rfl (own_at (List.mem_cons_self ..) rfl) ?_
              refine W_move rfl rfl rfl ?_
              refine W_bin rfl rfl rfl rfl rfl ?_
              refine W_pick rfl rfl rfl rfl ?_
              refine W_move rfl rfl rfl ?_
              cases hb265 : (decide (y227.Switch = name))
              · have hm := ite_f' hb265 hm
                refine W_no rfl rfl rfl ?_
                refine W_no rfl rfl rfl ?_
                refine W_no rfl rfl rfl ?_
                refine W_no rfl rfl rfl ?_
                refine W_no rfl rfl rfl ?_
                refine W_pick rfl rfl rfl rfl ?_
                refine W_end ?_
                refine E_then ?_
                refine C_cond (b := false) rfl (fun hb => Bool.noConfusion hb) (fun _ => ?_)
                refine C_skip ?_
                refine E_normal_block ?_
                refine E_drop (List.Sublist.cons _ (List.Sublist.refl _)) ?_
                exact E_keepJ (J259 _ _ _ ⟨l219, v217, xs218, hm, hr220, (Hp.le_refl _), rfl, rfl⟩) (List.Perm.refl _) ⟨rfl, rfl, rfl, rfl, rfl, rfl, rfl, trivial⟩
              · have hm := ite_t' hb265 hm
                refine W_field (o := 2) rfl rfl Proofs.Try.runUnderlying46 rfl Proofs.Try.sizeOf44 rfl rfl rfl ?_
                refine W_load rfl rfl Proofs.Try.isAgg44 rfl (own_at (List.mem_cons_self ..) rfl) ?_
                refine W_move rfl rfl rfl ?_
                obtain ⟨r266, hc267, hm⟩ := bind_some hm
                refine W_call Proofs.Try.call38 rfl rfl rfl (fun w ht => by have h := m_interlock_holds_c (hm := hc267) (h262.mono hle222) (h1.mono hle222) ht; exact h) ?_
                rintro _ _ _ ⟨rfl, rfl, rfl⟩
                refine W_un rfl rfl rfl rfl ?_
                refine W_pick rfl rfl rfl rfl ?_
                refine W_end ?_
                refine E_then ?_
                refine C_cond (b := !r266) rfl (fun hb268 => ?_) (fun hb268 => ?_)
                · have hm := ite_t' hb268 hm
                  refine C_region ?_
                  refine W_move rfl rfl rfl ?_
                  refine W_move rfl rfl rfl ?_
                  refine W_buildSlice (α := Int) (css := [[.int .i64 ((k110 : Int))]]) (zs := [.int .i64 (0)]) (out := [.int .i64 ((k110 : Int))]) (ys := [((k110 : Int))]) rfl rfl rfl ⟨rfl, trivial⟩ Proofs.Try.runUnderlying76 Proofs.Try.sizeOf3 rfl Proofs.Try.zeroValue3 (by kernel_rfl) rfl rfl rfl rfl ⟨[.int .i64 ((k110 : Int))], [], rfl, rfl, rfl⟩ rfl ?_
                  intro b269 v270 H271 hv272 hle273 h274
                  have hc275 : Value.cap' v270 = ([((k110 : Int))]).length := by rw [hv272]; rfl
                  obtain ⟨hz276, hm⟩ := need_some hm
                  refine W_perm (List.Perm.swap _ _ _) ?_
                  refine W_appendO (α := Int) (l := l219) (ys := [((k110 : Int))]) rfl rfl Proofs.Try.underlying76 ⟨_, rfl, rfl, rfl, rfl⟩ rfl rfl rfl rfl rfl (hr220.mono hle273) h274 hz276 ?_
                  intro v277 xs278 hr279
                  refine W_assign rfl rfl rfl ?_
                  refine W_end ?_
                  refine E_normal_block ?_
                  refine E_drop (List.Sublist.cons_cons _ (List.Sublist.cons _ (List.Sublist.refl _))) ?_
                  exact E_keepJ (J259 _ _ _ ⟨(l219 ++ ([((k110 : Int))])), v277, xs278, hm, hr279, hle273, rfl, rfl⟩) (List.Perm.refl _) ⟨rfl, rfl, rfl, rfl, rfl, rfl, rfl, trivial⟩
                · have hm := ite_f' hb268 hm
                  refine C_skip ?_
                  refine E_normal_block ?_
                  refine E_drop (List.Sublist.cons _ (List.Sublist.refl _)) ?_
                  exact E_keepJ (J259 _ _ _ ⟨l219, v217, xs218, hm, hr220, (Hp.le_refl _), rfl, rfl⟩) (List.Perm.refl _) ⟨rfl, rfl, rfl, rfl, rfl, rfl, rfl, trivial⟩
        · obtain rfl := rng_f hd230 hb232
          have hm : (some (l219, 0)) = some r := hm
          refine C_exit (E_exit_then ?_)
          refine E_exit_then ?_
          refine E_exit_hit ?_
          refine E_then ?_
          refine C_seq ?_
          refine C_region ?_
          refine W_move rfl rfl rfl ?_
          refine W_assign rfl rfl rfl ?_
          refine W_assign rfl rfl rfl ?_
          refine W_end ?_
          refine E_then ?_
          refine C_ret ?_
          obtain rfl := Option.some.inj hm
          refine E_weak hle222 ?_
          exact end2 rfl rfl rfl ⟨rfl, v217, xs218, rfl, rfl, (hr220).toF⟩

theorem m_interlock_Permitted_c {B : Nat} {w0 w : World} {H : Hp} {M : List Res} {p0_l : (List S_api_InterlockRule)} {states : (List S_api_InterlockState)} {closing : Bool} {name : ByteArray} {v0 : Value} {v1 : Value} {r : Bool × Int} (hm : m_interlock_Permitted p0_l states closing name = some r) (h0 : RdS H v0 p0_l) (h1 : RdS H v1 states) (ht : St B w0 H (M) w) :
    Calls Proofs.Try.prog 28 [v0, v1, .bool (closing), .string (name)].toArray w (Ret B w0 fun H' M' v => H = H' ∧ M = M' ∧ .tuple #[.bool (r.1), .int .i64 (r.2)] = v) := by
  unfold m_interlock_Permitted at hm
  refine enter Proofs.Try.func28 rfl rfl rfl ht ?_
  refine C_seq ?_
  refine C_region ?_
  refine W_assign rfl rfl rfl ?_
  refine W_assign rfl rfl rfl ?_
  refine W_end ?_
  refine E_then ?_
  refine C_seq ?_
  refine C_region ?_
  refine W_move rfl rfl rfl ?_
  refine W_move rfl rfl rfl ?_
  refine W_move rfl rfl rfl ?_
  refine W_move rfl rfl rfl ?_
  obtain ⟨r101, hc102, hm⟩ := bind_some hm
  refine W_call Proofs.Try.call35 rfl rfl rfl (fun w ht => by have h := m_interlock_Explain_c (hm := hc102) h0 h1 ht; exact h) ?_
  rintro _ _ _ ⟨rfl, v103, xs104, rfl, rfl, h105⟩
  have h105 := h105 H
  refine W_move rfl rfl rfl ?_
  refine W_extract rfl rfl rfl rfl ?_
  refine W_extract rfl rfl rfl rfl ?_
  refine W_assign rfl rfl rfl ?_
  refine W_assign rfl rfl rfl ?_
  refine W_end ?_
  refine E_then ?_
  refine C_seq_join (fun H' M' L' => H = H' ∧ M = M' ∧ [(8, .bool ((decide (r101.2 = 0)) && (decide ((r101.1.length : Int) = 0)))), (9, .int .i64 (r101.2))] = L') ?_ (fun J107 => ?_)
  · rintro _ _ _ ⟨rfl, rfl, rfl⟩
    refine C_ret ?_
    obtain rfl := Option.some.inj hm
    refine E_weak (Hp.le_refl _) ?_
    exact end2 rfl rfl rfl ⟨rfl, rfl, rfl⟩
  · refine C_region ?_
    refine W_move rfl rfl rfl ?_
    refine W_bin rfl rfl rfl rfl rfl ?_
    refine W_move rfl rfl rfl ?_
    cases hb108 : (decide (r101.2 = 0))
    · refine W_no rfl rfl rfl ?_
      refine W_no rfl rfl rfl ?_
      refine W_no rfl rfl rfl ?_
      refine W_pick rfl rfl rfl rfl ?_
      refine W_move rfl rfl rfl ?_
      refine W_assign rfl rfl rfl ?_
      refine W_assign rfl rfl rfl ?_
      refine W_end ?_
      refine E_drop (List.Sublist.cons _ (List.Sublist.refl _)) ?_
      exact E_keepJ (J107 _ _ _ ⟨rfl, rfl, rfl⟩) (List.Perm.refl _) ⟨(by show some (Value.bool (false)) = some (Value.bool ((decide (r101.2 = 0)) && (decide ((r101.1.length : Int) = 0)))); simp only [hb108, Bool.and_true, Bool.true_and, Bool.false_and, Bool.and_false, Bool.or_true, Bool.true_or, Bool.or_false, Bool.false_or, Bool.not_true, Bool.not_false]), rfl, trivial⟩
    · refine W_move rfl rfl rfl ?_
      refine W_lenO (List.mem_cons_self ..) rfl rfl Proofs.Try.runUnderlying76 rfl ?_
      refine W_bin rfl rfl rfl rfl rfl ?_
      refine W_pick rfl rfl rfl rfl ?_
      refine W_move rfl rfl rfl ?_
      refine W_assign rfl rfl rfl ?_
      refine W_assign rfl rfl rfl ?_
      refine W_end ?_
      refine E_drop (List.Sublist.cons _ (List.Sublist.refl _)) ?_
      exact E_keepJ (J107 _ _ _ ⟨rfl, rfl, rfl⟩) (List.Perm.refl _) ⟨(by show some (Value.bool (decide ((r101.1.length : Int) = 0))) = some (Value.bool ((decide (r101.2 = 0)) && (decide ((r101.1.length : Int) = 0)))); simp only [hb108, Bool.and_true, Bool.true_and, Bool.false_and, Bool.and_false, Bool.or_true, Bool.true_or, Bool.or_false, Bool.false_or, Bool.not_true, Bool.not_false]), rfl, trivial⟩

theorem clone14_c {B : Nat} {w0 w : World} {H : Hp} {M : List Res} {s : List S_api_InterlockState} {v0 : Value} (h0 : RdS H v0 s) (hz : s.length * 24 ≤ 140737488355328) (ht : St B w0 H M w) :
    Calls Proofs.Try.prog 14 [v0].toArray w (Ret B w0 fun H' M' v => H = H' ∧ ∃ (v' : Value) (xs' : List Value), .row v' 33 (Rep.sz S_api_InterlockState) s.length xs' :: M = M' ∧ v' = v ∧ RwF v' xs' s) := by
  refine enter Proofs.Try.func14 rfl rfl rfl ht ?_
  obtain ⟨o, n, c, rfl⟩ := h0.shape
  refine C_seq ?_
  refine C_region ?_
  refine W_assign rfl rfl rfl ?_
  refine W_end (E_then ?_)
  refine C_seq ?_
  refine C_seq ?_
  refine C_region ?_
  refine W_move rfl rfl rfl ?_
  refine W_eqNil rfl rfl Proofs.Try.runUnderlying23 rfl rfl ?_
  refine W_end (E_then ?_)
  cases o with
  | none =>
    refine C_cond (b := true) rfl (fun _ => ?_) (fun hb => Bool.noConfusion hb)
    obtain rfl := h0.isNil
    refine C_seq ?_
    refine C_region ?_
    refine W_assign rfl rfl rfl ?_
    refine W_end (E_then ?_)
    refine C_ret (E_ret_then ?_)
    refine E_nilRow 33 (Rep.sz S_api_InterlockState) ?_
    exact end1 rfl rfl ⟨rfl, .slice none 0 0, [], rfl, rfl, (Rw.nil (H := H)).toF⟩
  | some a =>
    refine C_cond (b := false) rfl (fun hb => Bool.noConfusion hb) (fun _ => ?_)
    refine C_skip (E_then ?_)
    refine C_seq ?_
    refine C_region ?_
    refine W_build0 S_api_InterlockState rfl rfl Proofs.Try.runUnderlying23 Proofs.Try.sizeOf33 ?_
    intro v1 xs1 h1
    refine W_move rfl rfl rfl ?_
    refine W_appendO (α := S_api_InterlockState) (l := []) (ys := s) (bytes := 24) rfl rfl Proofs.Try.underlying23 ⟨_, rfl, rfl, rfl, rfl⟩ rfl rfl rfl rfl rfl h1 h0 (by simpa using hz) ?_
    intro v2 xs2 h2
    refine W_assign rfl rfl rfl ?_
    refine W_end (E_then ?_)
    refine C_ret ?_
    exact end1 rfl rfl ⟨rfl, v2, xs2, rfl, rfl, h2.toF⟩

theorem m_interlock_Set_c {B : Nat} {w0 w : World} {H : Hp} {M : List Res} {states : (List S_api_InterlockState)} {closing : Bool} {name : ByteArray} {v0 : Value} {r : (List S_api_InterlockState) × Int} (hm : m_interlock_Set states closing name = some r) (h0 : RdS H v0 states) (ht : St B w0 H (M) w) :
    Calls Proofs.Try.prog 26 [v0, .bool (closing), .string (name)].toArray w (Ret B w0 fun H' M' v => H = H' ∧ ∃ qv0 : Value, ∃ qxs0 : List Value, .row qv0 33 (Rep.sz S_api_InterlockState) r.1.length qxs0 :: M = M' ∧ .tuple #[qv0, .int .i64 (r.2)] = v ∧ RwF qv0 qxs0 r.1) := by
  unfold m_interlock_Set at hm
  refine enter Proofs.Try.func26 rfl rfl rfl ht ?_
  refine C_seq ?_
  refine C_region ?_
  refine W_assign rfl rfl rfl ?_
  refine W_assign rfl rfl rfl ?_
  refine W_end ?_
  refine E_then ?_
  refine C_seq ?_
  refine C_seq ?_
  refine C_region ?_
  refine W_move rfl rfl rfl ?_
  obtain ⟨r101, hc102, hm⟩ := bind_some hm
  refine W_call Proofs.Try.call25 rfl rfl rfl (fun w ht => by have h := m_interlock_CheckStates_c (hm := hc102) h0 ht; exact h) ?_
  rintro _ _ _ ⟨rfl, rfl, rfl⟩
  refine W_assign rfl rfl rfl ?_
  refine W_end ?_
  refine E_then ?_
  refine C_seq ?_
  refine C_region ?_
  refine W_move rfl rfl rfl ?_
  refine W_bin rfl rfl rfl rfl rfl ?_
  refine W_end ?_
  refine E_then ?_
  refine C_cond (b := !decide (r101 = 0)) rfl (fun hb103 => ?_) (fun hb103 => ?_)
  · have hm := ite_t' hb103 hm
    refine C_seq ?_
    refine C_region ?_
    refine W_move rfl rfl rfl ?_
    refine W_assign rfl rfl rfl ?_
    refine W_assign rfl rfl rfl ?_
    refine W_end ?_
    refine E_then ?_
    refine C_ret ?_
    refine E_ret_then ?_
    refine E_nilRow 33 (Rep.sz S_api_InterlockState) ?_
    obtain rfl := Option.some.inj hm
    refine E_weak (Hp.le_refl _) ?_
    exact end2 rfl rfl rfl ⟨rfl, (.slice none 0 0), [], rfl, rfl, (Rw.nil (H := H)).toF⟩
  · have hm := ite_f' hb103 hm
    refine C_skip ?_
    refine E_then ?_
    refine C_seq ?_
    refine C_region ?_
    refine W_move rfl rfl rfl ?_
    refine W_move rfl rfl rfl ?_
    obtain ⟨r104, hc105, hm⟩ := bind_some hm
    refine W_call Proofs.Try.call33 rfl rfl rfl (fun w ht => by have h := m_interlock_index_c (hm := hc105) h0 ht; exact h) ?_
    rintro _ _ _ ⟨rfl, rfl, rfl⟩
    refine W_assign rfl rfl rfl ?_
    refine W_end ?_
    refine E_then ?_
    refine C_seq ?_
    refine C_block ?_
    refine C_seq ?_
    refine C_region ?_
    refine W_move rfl rfl rfl ?_
    refine W_bin rfl rfl rfl rfl rfl ?_
    refine W_assign rfl rfl rfl ?_
    refine W_end ?_
    refine E_then ?_
    refine C_cond (b := decide (r104 < 0)) rfl (fun hb106 => ?_) (fun hb106 => ?_)
    · have hm := ite_t' hb106 hm
      refine C_seq ?_
      refine C_region ?_
      refine W_assign rfl rfl rfl ?_
      refine W_assign rfl rfl rfl ?_
      refine W_end ?_
      refine E_then ?_
      refine C_ret ?_
      refine E_ret_block ?_
      refine E_ret_then ?_
      refine E_nilRow 33 (Rep.sz S_api_InterlockState) ?_
      obtain rfl := Option.some.inj hm
      refine E_weak (Hp.le_refl _) ?_
      exact end2 rfl rfl rfl ⟨rfl, (.slice none 0 0), [], rfl, rfl, (Rw.nil (H := H)).toF⟩
    · have hm := ite_f' hb106 hm
      refine C_seq ?_
      refine C_region ?_
      refine W_move rfl rfl rfl ?_
      refine W_move rfl rfl rfl ?_
      obtain ⟨y107, h108, he109, hm⟩ := idx_some hm
      obtain ⟨_, ⟨rfl⟩, hc110⟩ := (h0).elem he109
      refine W_indexS rfl rfl Proofs.Try.runUnderlying23 Proofs.Try.sizeOf33 rfl h0 rfl h108 he109 ?_
      refine W_field (o := 1) rfl rfl Proofs.Try.runUnderlying33 rfl Proofs.Try.sizeOf4 rfl rfl rfl ?_
      refine W_load rfl rfl Proofs.Try.isAgg4 rfl (HCells.one hc110 1 rfl).at ?_
      refine W_move rfl rfl rfl ?_
      refine W_eqBool rfl rfl Proofs.Try.runUnderlying4 rfl rfl ?_
      refine W_assign rfl rfl rfl ?_
      refine W_end ?_
      refine E_then ?_
      refine C_cond (b := decide (y107.Closed = closing)) rfl (fun hb111 => ?_) (fun hb111 => ?_)
      · have hm := ite_t' hb111 hm
        refine C_seq ?_
        refine C_region ?_
        refine W_assign rfl rfl rfl ?_
        refine W_assign rfl rfl rfl ?_
        refine W_end ?_
        refine E_then ?_
        refine C_ret ?_
        refine E_ret_block ?_
        refine E_ret_then ?_
        refine E_nilRow 33 (Rep.sz S_api_InterlockState) ?_
        obtain rfl := Option.some.inj hm
        refine E_weak (Hp.le_refl _) ?_
        exact end2 rfl rfl rfl ⟨rfl, (.slice none 0 0), [], rfl, rfl, (Rw.nil (H := H)).toF⟩
      · have hm := ite_f' hb111 hm
        refine C_skip ?_
        refine E_normal_block ?_
        refine E_then ?_
        refine C_seq ?_
        refine C_region ?_
        refine W_move rfl rfl rfl ?_
        obtain ⟨hz112, hm⟩ := need_some hm
        refine W_call Proofs.Try.call14 rfl rfl rfl (fun w ht => by have h := clone14_c (s := states) h0 hz112 ht; exact h) ?_
        rintro _ _ _ ⟨rfl, v113, xs114, rfl, rfl, hr115⟩
        have hr115 := hr115 H
        refine W_assign rfl rfl rfl ?_
        refine W_end ?_
        refine E_then ?_
        refine C_seq ?_
        refine C_region ?_
        refine W_move rfl rfl rfl ?_
        refine W_move rfl rfl rfl ?_
        refine W_move rfl rfl rfl ?_
        obtain ⟨y116, h117, he118, hm⟩ := idx_some hm
        refine W_indexO (List.mem_cons_self ..) rfl rfl Proofs.Try.runUnderlying23 Proofs.Try.sizeOf33 rfl rfl h117 (List.getElem?_eq_some_iff.1 he118).1 ?_
        obtain ⟨_, rfl, hg119⟩ := (hr115).elem he118
        refine W_field (o := 1) rfl rfl Proofs.Try.runUnderlying33 rfl Proofs.Try.sizeOf4 rfl rfl rfl ?_
        obtain ⟨hr120, he121, hg122⟩ := Rw.put (cs := [.bool (closing)]) (o := 1) (c := [.string (y116.Name), .bool (y116.Closed)]) (out := [.string (y116.Name), .bool (closing)]) (e2 := (S_api_InterlockState.mk y116.Name closing)) hr115 he118 rfl hg119 rfl rfl rfl
        refine W_storeO2 (i := (r104 : Int).toNat * Rep.sz S_api_InterlockState + 1) (cs := [.bool (closing)]) rfl Proofs.Try.sizeOf4 rfl (row_ad _ _ _) rfl rfl rfl (Rw.room hr115 he118 rfl) rfl (all_cons rfl all_nil) (n' := (states.set ((r104 : Int).toNat) (S_api_InterlockState.mk y116.Name closing)).length) List.length_set ?_
        generalize over xs114 ((r104 : Int).toNat * Rep.sz S_api_InterlockState + 1) [.bool (closing)] = xs123 at hr120 hg122 ⊢
        refine W_end ?_
        refine E_then ?_
        refine C_seq ?_
        refine C_region ?_
        refine W_move rfl rfl rfl ?_
        refine W_assign rfl rfl rfl ?_
        refine W_assign rfl rfl rfl ?_
        refine W_end ?_
        refine E_then ?_
        refine C_ret ?_
        obtain rfl := Option.some.inj hm
        refine E_weak (Hp.le_refl _) ?_
        exact end2 rfl rfl rfl ⟨rfl, v113, xs123, rfl, rfl, (hr120).toF⟩

theorem m_order_walk_c {B : Nat} {w0 w : World} {H : Hp} {M : List Res} {rules : (List S_api_InterlockRule)} {p1_from : (List S_api_InterlockState)} {held : (List ByteArray)} {v0 : Value} {v1 : Value} {v2 : Value} {r : (List Int)} (hm : m_order_walk rules p1_from held = some r) (h0 : RdS H v0 rules) (h1 : RdS H v1 p1_from) (h2 : RdS H v2 held) (ht : St B w0 H (M) w) :
    Calls Proofs.Try.prog 19 [v0, v1, v2].toArray w (Ret B w0 fun H' M' v => H = H' ∧ ∃ qxs0 : List Value, M = M' ∧ .agg (qxs0).toArray = v ∧ RdCF qxs0 r ∧ r.length = 256) := by
  unfold m_order_walk at hm
  refine enter Proofs.Try.func19 rfl rfl rfl ht ?_
  refine C_seq ?_
  refine C_region ?_
  refine W_allocArr (α := Int) (z := .agg ((List.replicate 256 (0 : Int)).map (Value.int .i64)).toArray) (cs := (List.replicate 256 (0 : Int)).map (Value.int .i64)) (l := List.replicate 256 (0 : Int)) (n := 256) rfl rfl (fun _ => by kernel_rfl) (by kernel_rfl) (RdC.ints _) (by kernel_rfl) rfl ?_
  intro v101 hr102
  have hl103 : (List.replicate 256 (0 : Int)).length = 256 := by first | rfl | (simp only [List.length_set, List.length_replicate, *])
  refine W_end ?_
  refine E_then ?_
  refine C_seq ?_
  refine C_region ?_
  refine W_allocArr (α := Int) (z := .agg ((List.replicate 256 (0 : Int)).map (Value.int .i64)).toArray) (cs := (List.replicate 256 (0 : Int)).map (Value.int .i64)) (l := List.replicate 256 (0 : Int)) (n := 256) rfl rfl (fun _ => by kernel_rfl) (by kernel_rfl) (RdC.ints _) (by kernel_rfl) rfl ?_
  intro v104 hr105
  have hl106 : (List.replicate 256 (0 : Int)).length = 256 := by first | rfl | (simp only [List.length_set, List.length_replicate, *])
  refine W_end ?_
  refine E_then ?_
  refine C_seq ?_
  refine C_seq ?_
  refine C_region ?_
  refine W_move rfl rfl rfl ?_
  refine W_end ?_
  refine E_then ?_
  refine C_block ?_
  refine C_keep (L' := [(0, v0), (1, v1), (2, v2), (6, .pointer (some (Value.base v101))), (7, .pointer (some (Value.base v104))), (17, .int .i64 (((0 : Nat) : Int)))]) ⟨rfl, rfl, rfl, rfl, rfl, rfl, trivial⟩ (List.Perm.refl _) ?_
  refine C_loop (fun n H' M' L' => ∃ (k107 : Nat) (zs145' : Nat), ∃ l135 : List Int, ∃ xs134 : List Value, k107 + zs145' = (256 : Int).toNat ∧ zs145' = n ∧ forN (fun k s140 n => m_order_walk_b1 k s140 n) (fun s140 => (m_order_code p1_from).bind fun r159 => idx s140 r159 fun y161 => loopF (fun s973 n => m_order_walk_b10 rules held s973.1 s973.2 n) FUEL (([p1_from]), (s140.set ((r159 : Int).toNat) ((-1))))) zs145' k107 l135 = some r ∧ Rw H' v104 xs134 l135 ∧ l135.length = 256 ∧ H.le H' ∧ .row v104 53 (Rep.sz Int) l135.length xs134 :: .row v101 53 (Rep.sz Int) (List.replicate 256 (0 : Int)).length ((List.replicate 256 (0 : Int)).map (Value.int .i64)) :: M = M' ∧ [(0, v0), (1, v1), (2, v2), (6, .pointer (some (Value.base v101))), (7, .pointer (some (Value.base v104))), (17, .int .i64 ((k107 : Int)))] = L') _ ⟨0, _, (List.replicate 256 (0 : Int)), ((List.replicate 256 (0 : Int)).map (Value.int .i64)), Nat.zero_add _, rfl, hm, hr105, hl106, (Hp.le_refl _), rfl, rfl⟩ ?_
  rintro _ H138 _ _ ⟨k107, zs145', l135, xs134, hd147, rfl, hm, hr136, hl137, hle139, rfl, rfl⟩
  refine C_seq ?_
  refine C_region ?_
  refine W_bin rfl rfl rfl rfl rfl ?_
  refine W_end (E_then ?_)
  refine C_seq ?_
  refine C_cond (b := decide ((k107 : Int) < 256)) rfl (fun hb149 => ?_) (fun hb149 => ?_)
  · obtain ⟨zs145, rfl, hd148, hy146⟩ := rngN_t hd147 hb149
    have hm : m_order_walk_b1 k107 l135 (forN (fun k s140 n => m_order_walk_b1 k s140 n) (fun s140 => (m_order_code p1_from).bind fun r159 => idx s140 r159 fun y161 => loopF (fun s973 n => m_order_walk_b10 rules held s973.1 s973.2 n) FUEL (([p1_from]), (s140.set ((r159 : Int).toNat) ((-1))))) zs145 (k107 + 1)) = some r := hm
    generalize hn142 : forN (fun k s140 n => m_order_walk_b1 k s140 n) (fun s140 => (m_order_code p1_from).bind fun r159 => idx s140 r159 fun y161 => loopF (fun s973 n => m_order_walk_b10 rules held s973.1 s973.2 n) FUEL (([p1_from]), (s140.set ((r159 : Int).toNat) ((-1))))) zs145 (k107 + 1) = nx141 at hm
    unfold m_order_walk_b1 at hm
    refine C_skip (E_then ?_)
    refine C_seq ?_
    refine C_block ?_
    refine C_seq ?_
    refine C_region ?_
    refine W_move rfl rfl rfl ?_
    refine W_assign rfl rfl rfl ?_
    refine W_end ?_
    refine E_then ?_
    refine C_region ?_
    refine W_move rfl rfl rfl ?_
    obtain ⟨y150, h151, he152, hm⟩ := idx_some hm
    refine W_indexArr (List.mem_cons_self ..) rfl rfl Proofs.Try.runUnderlying53 Proofs.Try.sizeOf3 hl137 rfl rfl h151 (List.getElem?_eq_some_iff.1 he152).1 ?_
    obtain ⟨_, rfl, hg153⟩ := (hr136).elem he152
    obtain ⟨hr154, he155, hg156⟩ := Rw.put (cs := [.int .i64 ((-2))]) (o := 0) (c := [.int .i64 (y150)]) (out := [.int .i64 ((-2))]) (e2 := ((-2))) hr136 he152 rfl hg153 rfl rfl rfl
    refine W_storeO2 (i := ((k107 : Int) : Int).toNat * Rep.sz Int + 0) (cs := [.int .i64 ((-2))]) rfl Proofs.Try.sizeOf3 rfl (row_ad0 _ _) rfl rfl rfl (Rw.room hr136 he152 rfl) rfl (all_cons rfl all_nil) (n' := (l135.set (((k107 : Int) : Int).toNat) ((-2))).length) List.length_set ?_
    generalize over xs134 (((k107 : Int) : Int).toNat * Rep.sz Int + 0) [.int .i64 ((-2))] = xs157 at hr154 hg156 ⊢
    have hl158 : (l135.set (((k107 : Int) : Int).toNat) ((-2))).length = 256 := by rw [List.length_set]; exact hl137
    refine W_end ?_
    refine E_normal_block ?_
    refine E_then ?_
    refine C_region ?_
    refine W_bin rfl rfl rfl rfl rfl ?_
    refine W_move rfl rfl rfl ?_
    refine W_end ?_
    exact E_keepJ (E_back (Nat.lt_succ_self _) ⟨k107 + 1, zs145, (l135.set (((k107 : Int) : Int).toNat) ((-2))), xs157, hd148, rfl, (by rw [hn142]; exact hm), hr154, hl158, hle139, rfl, rfl⟩) (List.Perm.refl _) ⟨rfl, rfl, rfl, rfl, rfl, (congrArg (fun z => some (Value.int .i64 z)) (i64_succN hy146 (toNat_max (by decide)))), trivial⟩
  · obtain rfl := rngN_f hd147 hb149
    have hm : ((m_order_code p1_from).bind fun r159 => idx l135 r159 fun y161 => loopF (fun s973 n => m_order_walk_b10 rules held s973.1 s973.2 n) FUEL (([p1_from]), (l135.set ((r159 : Int).toNat) ((-1))))) = some r := hm
    refine C_exit (E_exit_then ?_)
    refine E_exit_then ?_
    refine E_exit_hit ?_
    refine E_then ?_
    refine C_seq ?_
    refine C_region ?_
    refine W_move rfl rfl rfl ?_
    obtain ⟨r159, hc160, hm⟩ := bind_some hm
    refine W_call Proofs.Try.call20 rfl rfl rfl (fun w ht => by have h := m_order_code_c (hm := hc160) (h1.mono hle139) ht; exact h) ?_
    rintro _ _ _ ⟨rfl, rfl, rfl⟩
    obtain ⟨y161, h162, he163, hm⟩ := idx_some hm
    refine W_indexArr (List.mem_cons_self ..) rfl rfl Proofs.Try.runUnderlying53 Proofs.Try.sizeOf3 hl137 rfl rfl h162 (List.getElem?_eq_some_iff.1 he163).1 ?_
    obtain ⟨_, rfl, hg164⟩ := (hr136).elem he163
    obtain ⟨hr165, he166, hg167⟩ := Rw.put (cs := [.int .i64 ((-1))]) (o := 0) (c := [.int .i64 (y161)]) (out := [.int .i64 ((-1))]) (e2 := ((-1))) hr136 he163 rfl hg164 rfl rfl rfl
    refine W_storeO2 (i := (r159 : Int).toNat * Rep.sz Int + 0) (cs := [.int .i64 ((-1))]) rfl Proofs.Try.sizeOf3 rfl (row_ad0 _ _) rfl rfl rfl (Rw.room hr136 he163 rfl) rfl (all_cons rfl all_nil) (n' := (l135.set ((r159 : Int).toNat) ((-1))).length) List.length_set ?_
    generalize over xs134 ((r159 : Int).toNat * Rep.sz Int + 0) [.int .i64 ((-1))] = xs168 at hr165 hg167 ⊢
    have hl169 : (l135.set ((r159 : Int).toNat) ((-1))).length = 256 := by rw [List.length_set]; exact hl137
    refine W_end ?_
    refine E_then ?_
    refine C_seq ?_
    refine C_seq ?_
    refine C_region ?_
    refine W_move rfl rfl rfl ?_
    refine W_buildSliceO (α := (List S_api_InterlockState)) (css := [[v1]]) (zs := [.slice none 0 0]) (out := [v1]) (ys := [p1_from]) rfl rfl rfl ⟨(RdS.cells (h1.mono hle139)), trivial⟩ Proofs.Try.runUnderlying69 Proofs.Try.sizeOf23 rfl Proofs.Try.zeroValue23 (by kernel_rfl) rfl rfl rfl rfl ⟨[v1], [], rfl, ⟨v1, rfl, (h1.mono hle139)⟩, rfl⟩ rfl ?_
    intro v170 xs171 hr172
    refine W_assign rfl rfl rfl ?_
    refine W_end ?_
    refine E_then ?_
    refine C_block ?_
    refine C_keep (L' := [(0, v0), (2, v2), (6, .pointer (some (Value.base v101))), (7, .pointer (some (Value.base v104))), (9, v170)]) ⟨rfl, rfl, rfl, rfl, rfl, trivial⟩ (List.Perm.refl _) ?_
    refine C_loop (fun n H' M' L' => ∃ l965 : List (List S_api_InterlockState), ∃ l968 : List Int, ∃ v963 : Value, ∃ xs964 : List Value, ∃ xs967 : List Value, loopF (fun s973 n => m_order_walk_b10 rules held s973.1 s973.2 n) n (l965, l968) = some r ∧ Rw H' v963 xs964 l965 ∧ Rw H' v104 xs967 l968 ∧ l968.length = 256 ∧ H138.le H' ∧ .row v963 23 (Rep.sz (List S_api_InterlockState)) l965.length xs964 :: .row v104 53 (Rep.sz Int) l968.length xs967 :: .row v101 53 (Rep.sz Int) (List.replicate 256 (0 : Int)).length ((List.replicate 256 (0 : Int)).map (Value.int .i64)) :: M = M' ∧ [(0, v0), (2, v2), (6, .pointer (some (Value.base v101))), (7, .pointer (some (Value.base v104))), (9, v963)] = L') FUEL ⟨([p1_from]), (l135.set ((r159 : Int).toNat) ((-1))), v170, xs171, xs168, hm, hr172, hr165, hl169, (Hp.le_refl _), rfl, rfl⟩ ?_
    rintro n976 H971 _ _ ⟨l965, l968, v963, xs964, xs967, hm, hr966, hr969, hl970, hle972, rfl, rfl⟩
    cases n976 with
    | zero => cases hm
    | succ n976 =>
      have hm : m_order_walk_b10 rules held l965 l968 (loopF (fun s973 n => m_order_walk_b10 rules held s973.1 s973.2 n) n976) = some r := hm
      generalize hn975 : loopF (fun s973 n => m_order_walk_b10 rules held s973.1 s973.2 n) n976 = nx974 at hm
      unfold m_order_walk_b10 at hm
      refine C_seq ?_
      refine C_seq ?_
      refine C_region ?_
      refine W_move rfl rfl rfl ?_
      refine W_lenO (List.mem_cons_self ..) rfl rfl Proofs.Try.runUnderlying69 rfl ?_
      refine W_bin rfl rfl rfl rfl rfl ?_
      refine W_end ?_
      refine E_then ?_
      refine C_cond (b := decide (0 < (l965.length : Int))) rfl (fun hb982 => ?_) (fun hb982 => ?_)
      · have hm := ite_t' hb982 hm
        refine C_skip ?_
        refine E_then ?_
        refine C_block ?_
        refine C_seq ?_
        refine C_region ?_
        refine W_move rfl rfl rfl ?_
        obtain ⟨y983, h984, he985, hm⟩ := idx_some hm
        refine W_indexO (List.mem_cons_self ..) rfl rfl Proofs.Try.runUnderlying69 Proofs.Try.sizeOf23 rfl rfl h984 (List.getElem?_eq_some_iff.1 he985).1 ?_
        obtain ⟨_, ⟨v987, rfl, h988⟩, hg986⟩ := (hr966).elem he985
        refine W_load rfl rfl Proofs.Try.isAgg23 rfl (row_one0 (List.mem_cons_self ..) hg986 rfl) ?_
        refine W_assign rfl rfl rfl ?_
        refine W_end ?_
        refine E_then ?_
        refine C_seq ?_
        refine C_region ?_
        refine W_move rfl rfl rfl ?_
        obtain ⟨hz989, hm⟩ := need_some hm
        refine W_sliceO (α := (List S_api_InterlockState)) (l := (1 : Int).toNat) (h := l965.length) rfl rfl Proofs.Try.runUnderlying69 Proofs.Try.sizeOf23 rfl rfl hr966 (by omega) (by omega) (fun m hmm => (.inl ⟨rfl, rfl⟩)) (.inr ⟨_, _, _, rfl, rfl, by omega, by omega, rfl⟩) ?_
        intro v990 xs991 hr992
        refine W_assign rfl rfl rfl ?_
        refine W_end ?_
        refine E_then ?_
        refine C_seq ?_
        refine C_region ?_
        refine W_move rfl rfl rfl ?_
        refine W_lenR rfl rfl Proofs.Try.runUnderlying23 rfl h988 ?_
        refine W_move rfl rfl rfl ?_
        refine W_end ?_
        refine E_then ?_
        refine C_block ?_
        refine C_keep (L' := [(0, v0), (2, v2), (6, .pointer (some (Value.base v101))), (7, .pointer (some (Value.base v104))), (9, v990), (10, v987), (36, v987), (37, .int .i64 ((y983.length : Int))), (38, .int .i64 (((0 : Nat) : Int)))]) ⟨rfl, rfl, rfl, rfl, rfl, rfl, rfl, rfl, rfl, trivial⟩ (List.Perm.refl _) ?_
        refine C_loop (fun n H' M' L' => ∃ (k993 : Nat) (zs1251' : List S_api_InterlockState), ∃ l1238 : List (List S_api_InterlockState), ∃ l1241 : List Int, ∃ v1236 : Value, ∃ xs1237 : List Value, ∃ xs1240 : List Value, (y983).drop k993 = zs1251' ∧ zs1251'.length = n ∧ forI (fun k y s1246 n => m_order_walk_b13 rules held y983 k y s1246.1 s1246.2 n) (fun s1246 => nx974 (s1246.1, s1246.2)) k993 zs1251' (l1238, l1241) = some r ∧ Rw H' v1236 xs1237 l1238 ∧ Rw H' v104 xs1240 l1241 ∧ l1241.length = 256 ∧ H971.le H' ∧ .row v1236 23 (Rep.sz (List S_api_InterlockState)) l1238.length xs1237 :: .row v104 53 (Rep.sz Int) l1241.length xs1240 :: .row v101 53 (Rep.sz Int) (List.replicate 256 (0 : Int)).length ((List.replicate 256 (0 : Int)).map (Value.int .i64)) :: M = M' ∧ [(0, v0), (2, v2), (6, .pointer (some (Value.base v101))), (7, .pointer (some (Value.base v104))), (9, v1236), (10, v987), (36, v987), (37, .int .i64 ((y983.length : Int))), (38, .int .i64 ((k993 : Int)))] = L') _ ⟨0, _, (slc l965 (1 : Int).toNat l965.length), l968, v990, xs991, xs967, rfl, rfl, hm, hr992, hr969, hl970, (Hp.le_refl _), rfl, rfl⟩ ?_
        rintro _ H1244 _ _ ⟨k993, zs1251', l1238, l1241, v1236, xs1237, xs1240, hd1253, rfl, hm, hr1239, hr1242, hl1243, hle1245, rfl, rfl⟩
        refine C_seq ?_
        refine C_region ?_
        refine W_bin rfl rfl rfl rfl rfl ?_
        refine W_end (E_then ?_)
        refine C_seq ?_
        refine C_cond (b := decide ((k993 : Int) < (y983.length : Int))) rfl (fun hb1255 => ?_) (fun hb1255 => ?_)
        · obtain ⟨y1250, zs1251, rfl, hy1252, hd1254⟩ := rng_t hd1253 hb1255
          have hm : m_order_walk_b13 rules held y983 k993 y1250 l1238 l1241 (forI (fun k y s1246 n => m_order_walk_b13 rules held y983 k y s1246.1 s1246.2 n) (fun s1246 => nx974 (s1246.1, s1246.2)) (k993 + 1) zs1251) = some r := hm
          generalize hn1248 : forI (fun k y s1246 n => m_order_walk_b13 rules held y983 k y s1246.1 s1246.2 n) (fun s1246 => nx974 (s1246.1, s1246.2)) (k993 + 1) zs1251 = nx1247 at hm
          unfold m_order_walk_b13 at hm
          refine C_skip (E_then ?_)
          refine C_seq_join (fun H' M' L' => ∃ l1308 : List (List S_api_InterlockState), ∃ l1311 : List Int, ∃ v1306 : Value, ∃ xs1307 : List Value, ∃ xs1310 : List Value, m_order_walk_b14 nx1247 l1308 l1311 = some r ∧ Rw H' v1306 xs1307 l1308 ∧ Rw H' v104 xs1310 l1311 ∧ l1311.length = 256 ∧ H1244.le H' ∧ .row v1306 23 (Rep.sz (List S_api_InterlockState)) l1308.length xs1307 :: .row v104 53 (Rep.sz Int) l1311.length xs1310 :: .row v101 53 (Rep.sz Int) (List.replicate 256 (0 : Int)).length ((List.replicate 256 (0 : Int)).map (Value.int .i64)) :: M = M' ∧ [(0, v0), (2, v2), (6, .pointer (some (Value.base v101))), (7, .pointer (some (Value.base v104))), (9, v1306), (10, v987), (36, v987), (37, .int .i64 ((y983.length : Int))), (38, .int .i64 ((k993 : Int)))] = L') ?_ (fun J1316 => ?_)
          · rintro H1314 _ _ ⟨l1308, l1311, v1306, xs1307, xs1310, hm, hr1309, hr1312, hl1313, hle1315, rfl, rfl⟩
            unfold m_order_walk_b14 at hm
            refine C_region ?_
            refine W_bin rfl rfl rfl rfl rfl ?_
            refine W_move rfl rfl rfl ?_
            refine W_end ?_
            exact E_keepJ (E_back (Nat.lt_succ_self _) ⟨k993 + 1, zs1251, l1308, l1311, v1306, xs1307, xs1310, hd1254, rfl, (by rw [hn1248]; exact hm), hr1309, hr1312, hl1313, (Hp.le_trans hle1245 hle1315), rfl, rfl⟩) (List.Perm.refl _) ⟨rfl, rfl, rfl, rfl, rfl, rfl, rfl, rfl, (congrArg (fun z => some (Value.int .i64 z)) (i64_succ hy1252 ((h988.mono hle1245)).lenMax)), trivial⟩
          · refine C_block ?_
            refine C_seq ?_
            refine C_region ?_
            refine W_move rfl rfl rfl ?_
            obtain ⟨_, ⟨rfl⟩, hc1317⟩ := (h988).elem hy1252
            refine W_indexS rfl rfl Proofs.Try.runUnderlying23 Proofs.Try.sizeOf33 rfl (h988.mono hle1245) rfl (Int.natCast_nonneg _) hy1252 ?_
            refine W_loadAgg rfl rfl Proofs.Try.isAgg33 Proofs.Try.sizeOf33 rfl (hc1317.mono hle1245).at rfl ?_
            refine W_alloc (cs := [.string (⟨#[]⟩), .bool (false)]) rfl rfl Proofs.Try.zeroValue33 rfl (fun b1318 => ?_)
            refine W_assign rfl rfl rfl ?_
            refine W_store (cs := [.string (y1250.Name), .bool (y1250.Closed)]) (out := [.string (y1250.Name), .bool (y1250.Closed)]) rfl Proofs.Try.sizeOf33 rfl rfl rfl rfl rfl (all_cons rfl (all_cons rfl all_nil)) (over_all rfl) ?_
            refine W_end ?_
            refine E_then ?_
            refine C_seq ?_
            refine C_seq ?_
            obtain ⟨r1319, hc1320, hm⟩ := bind_some hm
            cases hb1321 : (r1319)
            · have hm := ite_f' hb1321 hm
              obtain ⟨r1322, hc1323, hm⟩ := bind_some hm
              obtain ⟨hq1324, hm⟩ := need_some hm
              refine C_region_tok0 9 (phiT [(fun H rs v => [] = rs ∧ v2 = v), (fun H rs v => [] = rs ∧ .pointer (some ⟨b1318, 0, none⟩) = v), (fun H rs v => [] = rs ∧ .string (y1250.Name) = v), (fun H rs v => [] = rs ∧ .bool (false) = v), (fun H rs v => [] = rs ∧ .bool (false) = v), (fun H rs v => [] = rs ∧ v987 = v), (fun H rs v => [] = rs ∧ .int .i64 (r1322) = v), (fun H rs v => [] = rs ∧ .int .i64 ((k993 : Int)) = v), (fun H rs v => [] = rs ∧ .int .i64 (shlV .i64 1 (k993 : Int)) = v)]) [[], [], [], [], [], [], [], [], []] [[], [], [], [], [], [], [], [], []] [] [0, 1, 2, 3, 4, 5, 6, 7, 8] Facts.mixed (by kernel_rfl) rfl rfl rfl (by kernel_rfl) (phiT_mono ⟨eq_monoT _ _, eq_monoT _ _, eq_monoT _ _, eq_monoT _ _, eq_monoT _ _, eq_monoT _ _, eq_monoT _ _, eq_monoT _ _, eq_monoT _ _, trivial⟩) ⟨?_, ?_, ?_, ?_, ?_, ?_, ?_, ?_, ?_, trivial⟩ ?_
              · intro HX hX X Rest hR
                intro hU
                refine W_move rfl rfl rfl ?_
                exact W_end (OneT_end [] (Hp.le_refl _) ⟨rfl, rfl⟩)
              · intro HX hX X Rest hR
                intro hU
                refine W_field (o := 0) rfl rfl Proofs.Try.runUnderlying33 rfl Proofs.Try.sizeOf9 rfl rfl rfl ?_
                exact W_end (OneT_end [] (Hp.le_refl _) ⟨rfl, rfl⟩)
              · intro HX hX X Rest hR
                rintro _ _ ⟨rfl, rfl⟩
                intro hU
                refine W_load rfl rfl Proofs.Try.isAgg9 rfl (own_at (hR _ (List.mem_cons_self ..)) rfl) ?_
                exact W_end (OneT_end [] (Hp.le_refl _) ⟨rfl, rfl⟩)
              · intro HX hX X Rest hR
                rintro _ _ ⟨rfl, rfl⟩
                rintro _ _ ⟨rfl, rfl⟩
                intro hU
                refine W_call Proofs.Try.call27 rfl rfl rfl (fun w ht => by have h := m_slices_Contains_string_string_c (hm := hc1320) ((((h2.mono hle139).mono hle972).mono hle1245).mono hX) ht; exact h) ?_
                rintro _ _ _ ⟨rfl, rfl, rfl⟩
                exact W_end (OneT_end [] (Hp.le_refl _) ⟨rfl, (by rw [hb1321]; try rfl)⟩)
              · intro HX hX X Rest hR
                rintro _ _ ⟨rfl, rfl⟩
                rintro _ _ ⟨rfl, rfl⟩
                intro hU
                refine W_move rfl rfl rfl ?_
                exact W_end (OneT_end [] (Hp.le_refl _) ⟨rfl, rfl⟩)
              · intro HX hX X Rest hR
                rintro _ _ ⟨rfl, rfl⟩
                intro hU
                refine W_move rfl rfl rfl ?_
                exact W_end (OneT_end [] (Hp.le_refl _) ⟨rfl, rfl⟩)
              · intro HX hX X Rest hR
                rintro _ _ ⟨rfl, rfl⟩
                rintro _ _ ⟨rfl, rfl⟩
                rintro _ _ ⟨rfl, rfl⟩
                intro hU
                refine W_call Proofs.Try.call20 rfl rfl rfl (fun w ht => by have h := m_order_code_c (hm := hc1323) ((h988.mono hle1245).mono hX) ht; exact h) ?_
                rintro _ _ _ ⟨rfl, rfl, rfl⟩
                exact W_end (OneT_end [] (Hp.le_refl _) ⟨rfl, rfl⟩)
              · intro HX hX X Rest hR
                rintro _ _ ⟨rfl, rfl⟩
                intro hU
                refine W_move rfl rfl rfl ?_
                exact W_end (OneT_end [] (Hp.le_refl _) ⟨rfl, rfl⟩)
              · intro HX hX X Rest hR
                rintro _ _ ⟨rfl, rfl⟩
                rintro _ _ ⟨rfl, rfl⟩
                intro hU
                refine W_shl rfl rfl rfl rfl hq1324 ?_
                exact W_end (OneT_end [] (Hp.le_refl _) ⟨rfl, rfl⟩)
              intro H1325 hle1326
              rintro _ _ ⟨rfl, rfl⟩
              rintro _ _ ⟨rfl, rfl⟩
              rintro _ _ ⟨rfl, rfl⟩
              rintro _ _ ⟨rfl, rfl⟩
              rintro _ _ ⟨rfl, rfl⟩
              rintro _ _ ⟨rfl, rfl⟩
              rintro _ _ ⟨rfl, rfl⟩
              rintro _ _ ⟨rfl, rfl⟩
              rintro _ _ ⟨rfl, rfl⟩
              refine W_bin rfl rfl rfl rfl rfl ?_
              obtain ⟨y1327, h1328, he1329, hm⟩ := idx_some hm
              refine W_indexArr (List.mem_cons_of_mem _ (List.mem_cons_of_mem _ (List.mem_cons_self ..))) rfl rfl Proofs.Try.runUnderlying53 Proofs.Try.sizeOf3 hl1243 rfl rfl h1328 (List.getElem?_eq_some_iff.1 he1329).1 ?_
              obtain ⟨_, rfl, hg1330⟩ := (hr1242).elem he1329
              refine W_load rfl rfl Proofs.Try.isAgg3 rfl (row_one0 (List.mem_cons_of_mem _ (List.mem_cons_of_mem _ (List.mem_cons_self ..))) hg1330 rfl) ?_
              refine W_bin rfl rfl rfl rfl rfl ?_
              refine W_pick rfl rfl rfl rfl ?_
              refine W_end ?_
              refine E_then ?_
              refine C_cond (b := !decide (y1327 = (-2))) rfl (fun hb1331 => ?_) (fun hb1331 => ?_)
              · have hm := ite_t' hb1331 hm
                refine C_exit ?_
                refine E_exit_then ?_
                refine E_exit_hit ?_
                refine E_drop (List.Sublist.cons _ (List.Sublist.refl _)) ?_
                exact E_keepJ (J1316 _ _ _ ⟨l1238, l1241, v1236, xs1237, xs1240, hm, (hr1239.mono hle1326), (hr1242.mono hle1326), hl1243, hle1326, rfl, rfl⟩) (List.Perm.refl _) ⟨rfl, rfl, rfl, rfl, rfl, rfl, rfl, rfl, rfl, trivial⟩
              · have hm := ite_f' hb1331 hm
                refine C_skip ?_
                refine E_then ?_
                refine C_seq ?_
                refine C_region ?_
                refine W_move rfl rfl rfl ?_
                refine W_move rfl rfl rfl ?_
                refine W_field (o := 1) rfl rfl Proofs.Try.runUnderlying33 rfl Proofs.Try.sizeOf4 rfl rfl rfl ?_
                refine W_load rfl rfl Proofs.Try.isAgg4 rfl (own_at (List.mem_cons_self ..) rfl) ?_
                refine W_un rfl rfl rfl rfl ?_
                refine W_field (o := 0) rfl rfl Proofs.Try.runUnderlying33 rfl Proofs.Try.sizeOf9 rfl rfl rfl ?_
                refine W_load rfl rfl Proofs.Try.isAgg9 rfl (own_at (List.mem_cons_self ..) rfl) ?_
                obtain ⟨r1332, hc1333, hm⟩ := bind_some hm
                refine W_call Proofs.Try.call28 rfl rfl rfl (fun w ht => by have h := m_interlock_Permitted_c (hm := hc1333) ((((h0.mono hle139).mono hle972).mono hle1245).mono hle1326) ((h988.mono hle1245).mono hle1326) ht; exact h) ?_
                rintro _ _ _ ⟨rfl, rfl, rfl⟩
                refine W_move rfl rfl rfl ?_
                refine W_extract rfl rfl rfl rfl ?_
                refine W_extract rfl rfl rfl rfl ?_
                refine W_assign rfl rfl rfl ?_
                refine W_assign rfl rfl rfl ?_
                refine W_end ?_
                refine E_then ?_
                refine C_seq ?_
                refine C_region ?_
                refine W_move rfl rfl rfl ?_
                refine W_end ?_
                refine E_then ?_
                refine C_cond (b := r1332.1) rfl (fun hb1334 => ?_) (fun hb1334 => ?_)
                · have hm := ite_t' hb1334 hm
                  refine C_seq ?_
                  refine C_region ?_
                  refine W_move rfl rfl rfl ?_
                  refine W_field (o := 1) rfl rfl Proofs.Try.runUnderlying33 rfl Proofs.Try.sizeOf4 rfl rfl rfl ?_
                  refine W_load rfl rfl Proofs.Try.isAgg4 rfl (own_at (List.mem_cons_self ..) rfl) ?_
                  refine W_un rfl rfl rfl rfl ?_
                  refine W_field (o := 0) rfl rfl Proofs.Try.runUnderlying33 rfl Proofs.Try.sizeOf9 rfl rfl rfl ?_
                  refine W_load rfl rfl Proofs.Try.isAgg9 rfl (own_at (List.mem_cons_self ..) rfl) ?_
                  obtain ⟨r1335, hc1336, hm⟩ := bind_some hm
                  refine W_call Proofs.Try.call26 rfl rfl rfl (fun w ht => by have h := m_interlock_Set_c (hm := hc1336) ((h988.mono hle1245).mono hle1326) ht; exact h) ?_
                  rintro _ _ _ ⟨rfl, v1337, xs1338, rfl, rfl, h1339⟩
                  have h1339 := h1339 H1325
                  refine W_move rfl rfl rfl ?_
                  refine W_extract rfl rfl rfl rfl ?_
                  refine W_extract rfl rfl rfl rfl ?_
                  refine W_assign rfl rfl rfl ?_
                  refine W_assign rfl rfl rfl ?_
                  refine W_end ?_
                  refine E_then ?_
                  refine C_seq ?_
                  refine C_region ?_
                  refine W_move rfl rfl rfl ?_
                  obtain ⟨r1340, hc1341, hm⟩ := bind_some hm
                  refine W_call Proofs.Try.call20 rfl rfl rfl (fun w ht => by obtain ⟨H0_, hl0_, ht0_, hr0_, bk0_⟩ := ht.lendRow h1339 rfl; have h := m_order_code_c (hm := hc1341) hr0_ ht0_; exact lend_back bk0_ (h)) ?_
                  rintro _ _ _ ⟨rfl, ⟨_, rfl, rfl, rfl⟩⟩
                  refine W_move rfl rfl rfl ?_
                  obtain ⟨y1342, h1343, he1344, hm⟩ := idx_some hm
                  refine W_indexArr (List.mem_cons_of_mem _ (List.mem_cons_of_mem _ (List.mem_cons_of_mem _ (List.mem_cons_self ..)))) rfl rfl Proofs.Try.runUnderlying53 Proofs.Try.sizeOf3 hl1243 rfl rfl h1343 (List.getElem?_eq_some_iff.1 he1344).1 ?_
                  obtain ⟨_, rfl, hg1345⟩ := (hr1242).elem he1344
                  refine W_perm (List.Perm.trans (List.Perm.cons _ (List.Perm.cons _ (List.Perm.swap _ _ _))) (List.Perm.trans (List.Perm.cons _ (List.Perm.swap _ _ _)) (List.Perm.swap _ _ _))) ?_
                  obtain ⟨hr1346, he1347, hg1348⟩ := Rw.put (cs := [.int .i64 ((k993 : Int))]) (o := 0) (c := [.int .i64 (y1342)]) (out := [.int .i64 ((k993 : Int))]) (e2 := ((k993 : Int))) (hr1242.mono hle1326) he1344 rfl hg1345 rfl rfl rfl
                  refine W_storeO2 (i := (r1340 : Int).toNat * Rep.sz Int + 0) (cs := [.int .i64 ((k993 : Int))]) rfl Proofs.Try.sizeOf3 rfl (row_ad0 _ _) rfl rfl rfl (Rw.room (hr1242.mono hle1326) he1344 rfl) rfl (all_cons rfl all_nil) (n' := (l1241.set ((r1340 : Int).toNat) ((k993 : Int))).length) List.length_set ?_
                  generalize over xs1240 ((r1340 : Int).toNat * Rep.sz Int + 0) [.int .i64 ((k993 : Int))] = xs1349 at hr1346 hg1348 ⊢
                  have hl1350 : (l1241.set ((r1340 : Int).toNat) ((k993 : Int))).length = 256 := by rw [List.length_set]; exact hl1243
                  refine W_end ?_
                  refine E_then ?_
                  refine C_region ?_
                  refine W_move rfl rfl rfl ?_
                  refine W_move rfl rfl rfl ?_
                  refine W_perm (List.Perm.swap _ _ _) ?_
                  refine W_freeze (h1339).rd rfl (fun H1351 hle1352 h1353 => ?_)
                  refine W_buildSlice (α := (List S_api_InterlockState)) (css := [[v1337]]) (zs := [.slice none 0 0]) (out := [v1337]) (ys := [r1335.1]) rfl rfl rfl ⟨(RdS.cells h1353), trivial⟩ Proofs.Try.runUnderlying69 Proofs.Try.sizeOf23 rfl Proofs.Try.zeroValue23 (by kernel_rfl) rfl rfl rfl rfl ⟨[v1337], [], rfl, ⟨v1337, rfl, h1353⟩, rfl⟩ rfl ?_
                  intro b1354 v1355 H1356 hv1357 hle1358 h1359
                  have hc1360 : Value.cap' v1355 = ([r1335.1]).length := by rw [hv1357]; rfl
                  obtain ⟨hz1361, hm⟩ := need_some hm
                  refine W_perm (List.Perm.trans (List.Perm.cons _ (List.Perm.swap _ _ _)) (List.Perm.swap _ _ _)) ?_
                  refine W_appendO (α := (List S_api_InterlockState)) (l := l1238) (ys := [r1335.1]) rfl rfl Proofs.Try.underlying69 ⟨_, rfl, rfl, rfl, rfl⟩ rfl rfl rfl rfl rfl (((hr1239.mono hle1326).mono hle1352).mono hle1358) h1359 hz1361 ?_
                  intro v1362 xs1363 hr1364
                  refine W_assign rfl rfl rfl ?_
                  refine W_end ?_
                  refine E_normal_block ?_
                  refine E_drop (List.Sublist.cons_cons _ (List.Sublist.cons_cons _ (List.Sublist.cons _ (List.Sublist.refl _)))) ?_
                  exact E_keepJ (J1316 _ _ _ ⟨(l1238 ++ ([r1335.1])), (l1241.set ((r1340 : Int).toNat) ((k993 : Int))), v1362, xs1363, xs1349, hm, hr1364, ((hr1346.mono hle1352).mono hle1358), hl1350, (Hp.le_trans (Hp.le_trans hle1326 hle1352) hle1358), rfl, rfl⟩) (List.Perm.refl _) ⟨rfl, rfl, rfl, rfl, rfl, rfl, rfl, rfl, rfl, trivial⟩
                · have hm := ite_f' hb1334 hm
                  refine C_skip ?_
                  refine E_normal_block ?_
                  refine E_drop (List.Sublist.cons _ (List.Sublist.refl _)) ?_
                  exact E_keepJ (J1316 _ _ _ ⟨l1238, l1241, v1236, xs1237, xs1240, hm, (hr1239.mono hle1326), (hr1242.mono hle1326), hl1243, hle1326, rfl, rfl⟩) (List.Perm.refl _) ⟨rfl, rfl, rfl, rfl, rfl, rfl, rfl, rfl, rfl, trivial⟩
            · have hm := ite_t' hb1321 hm
              refine C_region_tok0 9 (phiT [(fun H rs v => [] = rs ∧ v2 = v), (fun H rs v => [] = rs ∧ .pointer (some ⟨b1318, 0, none⟩) = v), (fun H rs v => [] = rs ∧ .string (y1250.Name) = v), (fun H rs v => [] = rs ∧ .bool (true) = v), (fun H rs v => [] = rs ∧ .bool (true) = v), (fun H rs v => [] = rs ∧ undef = v), (fun H rs v => [] = rs ∧ undef = v), (fun H rs v => [] = rs ∧ undef = v), (fun H rs v => [] = rs ∧ undef = v)]) [[], [], [], [], [], [], [], [], []] [[], [], [], [], [], [], [], [], []] [] [0, 1, 2, 3, 4, 5, 6, 7, 8] Facts.mixed (by kernel_rfl) rfl rfl rfl (by kernel_rfl) (phiT_mono ⟨eq_monoT _ _, eq_monoT _ _, eq_monoT _ _, eq_monoT _ _, eq_monoT _ _, eq_monoT _ _, eq_monoT _ _, eq_monoT _ _, eq_monoT _ _, trivial⟩) ⟨?_, ?_, ?_, ?_, ?_, ?_, ?_, ?_, ?_, trivial⟩ ?_
              · intro HX hX X Rest hR
                intro hU
                refine W_move rfl rfl rfl ?_
                exact W_end (OneT_end [] (Hp.le_refl _) ⟨rfl, rfl⟩)
              · intro HX hX X Rest hR
                intro hU
                refine W_field (o := 0) rfl rfl Proofs.Try.runUnderlying33 rfl Proofs.Try.sizeOf9 rfl rfl rfl ?_
                exact W_end (OneT_end [] (Hp.le_refl _) ⟨rfl, rfl⟩)
              · intro HX hX X Rest hR
                rintro _ _ ⟨rfl, rfl⟩
                intro hU
                refine W_load rfl rfl Proofs.Try.isAgg9 rfl (own_at (hR _ (List.mem_cons_self ..)) rfl) ?_
                exact W_end (OneT_end [] (Hp.le_refl _) ⟨rfl, rfl⟩)
              · intro HX hX X Rest hR
                rintro _ _ ⟨rfl, rfl⟩
                rintro _ _ ⟨rfl, rfl⟩
                intro hU
                refine W_call Proofs.Try.call27 rfl rfl rfl (fun w ht => by have h := m_slices_Contains_string_string_c (hm := hc1320) ((((h2.mono hle139).mono hle972).mono hle1245).mono hX) ht; exact h) ?_
                rintro _ _ _ ⟨rfl, rfl, rfl⟩
                exact W_end (OneT_end [] (Hp.le_refl _) ⟨rfl, (by rw [hb1321]; try rfl)⟩)
              · intro HX hX X Rest hR
                rintro _ _ ⟨rfl, rfl⟩
                rintro _ _ ⟨rfl, rfl⟩
                intro hU
                refine W_move rfl rfl rfl ?_
                exact W_end (OneT_end [] (Hp.le_refl _) ⟨rfl, rfl⟩)
              · intro HX hX X Rest hR
                rintro _ _ ⟨rfl, rfl⟩
                intro hU
                refine W_no rfl rfl rfl ?_
                exact W_end (OneT_end [] (Hp.le_refl _) ⟨rfl, rfl⟩)
              · intro HX hX X Rest hR
                rintro _ _ ⟨rfl, rfl⟩
                rintro _ _ ⟨rfl, rfl⟩
                rintro _ _ ⟨rfl, rfl⟩
                intro hU
                refine W_no rfl rfl rfl ?_
                exact W_end (OneT_end [] (Hp.le_refl _) ⟨rfl, rfl⟩)
              · intro HX hX X Rest hR
                rintro _ _ ⟨rfl, rfl⟩
                intro hU
                refine W_no rfl rfl rfl ?_
                exact W_end (OneT_end [] (Hp.le_refl _) ⟨rfl, rfl⟩)
              · intro HX hX X Rest hR
                rintro _ _ ⟨rfl, rfl⟩
                rintro _ _ ⟨rfl, rfl⟩
                intro hU
                refine W_no rfl rfl rfl ?_
                exact W_end (OneT_end [] (Hp.le_refl _) ⟨rfl, rfl⟩)
              intro H1365 hle1366
              rintro _ _ ⟨rfl, rfl⟩
              rintro _ _ ⟨rfl, rfl⟩
              rintro _ _ ⟨rfl, rfl⟩
              rintro _ _ ⟨rfl, rfl⟩
              rintro _ _ ⟨rfl, rfl⟩
              rintro _ _ ⟨rfl, rfl⟩
              rintro _ _ ⟨rfl, rfl⟩
              rintro _ _ ⟨rfl, rfl⟩
              rintro _ _ ⟨rfl, rfl⟩
              refine W_no rfl rfl rfl ?_
              refine W_no rfl rfl rfl ?_
              refine W_no rfl rfl rfl ?_
              refine W_no rfl rfl rfl ?_
              refine W_pick rfl rfl rfl rfl ?_
              refine W_end ?_
              refine E_then ?_
              refine C_cond (b := true) rfl (fun _ => ?_) (fun hb => Bool.noConfusion hb)
              refine C_exit ?_
              refine E_exit_then ?_
              refine E_exit_hit ?_
              refine E_drop (List.Sublist.cons _ (List.Sublist.refl _)) ?_
              exact E_keepJ (J1316 _ _ _ ⟨l1238, l1241, v1236, xs1237, xs1240, hm, (hr1239.mono hle1366), (hr1242.mono hle1366), hl1243, hle1366, rfl, rfl⟩) (List.Perm.refl _) ⟨rfl, rfl, rfl, rfl, rfl, rfl, rfl, rfl, rfl, trivial⟩
        · obtain rfl := rng_f hd1253 hb1255
          have hm : (nx974 (l1238, l1241)) = some r := hm
          refine C_exit (E_exit_then ?_)
          refine E_exit_then ?_
          refine E_exit_hit ?_
          refine E_normal_block ?_
          exact E_keepJ (E_back (Nat.lt_succ_self _) ⟨l1238, l1241, v1236, xs1237, xs1240, (by rw [hn975]; exact hm), hr1239, hr1242, hl1243, (Hp.le_trans hle972 hle1245), rfl, rfl⟩) (List.Perm.refl _) ⟨rfl, rfl, rfl, rfl, rfl, trivial⟩
      · have hm := ite_f' hb982 hm
        refine C_exit ?_
        refine E_exit_then ?_
        refine E_exit_then ?_
        refine E_exit_hit ?_
        refine E_then ?_
        refine C_seq ?_
        refine C_region ?_
        refine W_loadArr (m := 256) (List.mem_cons_of_mem _ (List.mem_cons_self ..)) rfl rfl Proofs.Try.isAgg53 Proofs.Try.sizeOf53 (by rw [(hr969).rd.len, hl970]; rfl) rfl ?_
        refine W_perm (List.Perm.trans (List.Perm.cons _ (List.Perm.swap _ _ _)) (List.Perm.swap _ _ _)) ?_
        refine W_storeArr (l := (List.replicate 256 (0 : Int))) (l2 := l968) rfl Proofs.Try.sizeOf53 rfl rfl ((hr102.mono hle139).mono hle972) (hr969).rd (hl970.trans hl103.symm) rfl rfl (by rw [hl970]; rfl) ?_
        intro hr1367
        refine W_end ?_
        refine E_then ?_
        refine C_ret ?_
        obtain rfl := Option.some.inj hm
        exact endC1 (Hp.le_trans hle139 hle972) rfl (ResV.arr rfl Proofs.Try.isAgg53 Proofs.Try.sizeOf53 (List.mem_cons_self ..) (by rw [(hr1367).rd.len, hl970]; rfl)) (List.Sublist.cons _ (List.Sublist.cons _ (List.Sublist.cons _ (List.Sublist.refl _)))) (List.Perm.refl _) ⟨rfl, xs967, rfl, rfl, ((hr1367).rd).toF, hl970⟩

theorem m_slices_Reverse_api_OrderStep_api_OrderStep_c {B : Nat} {w0 w : World} {H : Hp} {M : List Res} {p0_s : (List S_api_OrderStep)} {v0 : Value} {xs0 : List Value} {r : (List S_api_OrderStep)} (hm : m_slices_Reverse_api_OrderStep_api_OrderStep p0_s = some r) (h0 : Rw H v0 xs0 p0_s) (ht : St B w0 H (.row v0 36 (Rep.sz S_api_OrderStep) p0_s.length xs0 :: M) w) :
    Calls Proofs.Try.prog 21 [v0].toArray w (Ret B w0 fun H' M' v => H = H' ∧ ∃ qxs0 : List Value, .row v0 36 (Rep.sz S_api_OrderStep) r.length qxs0 :: M = M' ∧ .tuple #[] = v ∧ RwF v0 qxs0 r) := by
  unfold m_slices_Reverse_api_OrderStep_api_OrderStep at hm
  refine enter Proofs.Try.func21 rfl rfl rfl ht ?_
  refine C_seq ?_
  refine C_region ?_
  refine W_move rfl rfl rfl ?_
  refine W_lenO (List.mem_cons_self ..) rfl rfl Proofs.Try.runUnderlying25 rfl ?_
  refine W_bin rfl rfl rfl rfl rfl ?_
  refine W_assign rfl rfl rfl ?_
  refine W_assign rfl rfl rfl ?_
  refine W_end ?_
  refine E_then ?_
  refine C_block ?_
  refine C_keep (L' := [(0, v0), (2, .int .i64 (0)), (3, .int .i64 (IntKind.i64.wrap ((p0_s.length : Int) - 1)))]) ⟨rfl, rfl, rfl, trivial⟩ (List.Perm.refl _) ?_
  refine C_loop (fun n H' M' L' => ∃ l181 : List S_api_OrderStep, ∃ n183 : Int, ∃ n184 : Int, ∃ xs180 : List Value, loopF (fun s187 n => m_slices_Reverse_api_OrderStep_api_OrderStep_b1 s187.1 s187.2.1 s187.2.2 n) n (l181, n183, n184) = some r ∧ Rw H' v0 xs180 l181 ∧ H.le H' ∧ .row v0 36 (Rep.sz S_api_OrderStep) l181.length xs180 :: M = M' ∧ [(0, v0), (2, .int .i64 (n183)), (3, .int .i64 (n184))] = L') FUEL ⟨p0_s, 0, IntKind.i64.wrap ((p0_s.length : Int) - 1), xs0, hm, h0, (Hp.le_refl _), rfl, rfl⟩ ?_
  rintro n190 H185 _ _ ⟨l181, n183, n184, xs180, hm, hr182, hle186, rfl, rfl⟩
  cases n190 with
  | zero => cases hm
  | succ n190 =>
    have hm : m_slices_Reverse_api_OrderStep_api_OrderStep_b1 l181 n183 n184 (loopF (fun s187 n => m_slices_Reverse_api_OrderStep_api_OrderStep_b1 s187.1 s187.2.1 s187.2.2 n) n190) = some r := hm
    generalize hn189 : loopF (fun s187 n => m_slices_Reverse_api_OrderStep_api_OrderStep_b1 s187.1 s187.2.1 s187.2.2 n) n190 = nx188 at hm
    unfold m_slices_Reverse_api_OrderStep_api_OrderStep_b1 at hm
    refine C_seq ?_
    refine C_seq ?_
    refine C_region ?_
    refine W_move rfl rfl rfl ?_
    refine W_move rfl rfl rfl ?_
    refine W_bin rfl rfl rfl rfl rfl ?_
    refine W_end ?_
    refine E_then ?_
    refine C_cond (b := decide (n183 < n184)) rfl (fun hb196 => ?_) (fun hb196 => ?_)
    · have hm := ite_t' hb196 hm
      refine C_skip ?_
      refine E_then ?_
      refine C_seq ?_
      refine C_block ?_
      obtain ⟨y197, h198, he199, hm⟩ := idx_some hm
      obtain ⟨_, rfl, hg200⟩ := (hr182).elem he199
      obtain ⟨y201, h202, he203, hm⟩ := idx_some hm
      obtain ⟨_, rfl, hg204⟩ := (hr182).elem he203
      obtain ⟨y205, h206, he207, hm⟩ := idx_some hm
      obtain ⟨_, rfl, hg208⟩ := (hr182).elem he207
      refine C_perm (List.Perm.refl _) ?_
      refine C_as (M' := [[.row v0 36 (Rep.sz S_api_OrderStep) l181.length xs180]].flatten ++ (M)) rfl ?_
      refine C_region_tok0 14 (phiT [(fun H rs v => [] = rs ∧ v0 = v), (fun H rs v => [] = rs ∧ .int .i64 (n183) = v), (fun H rs v => [] = rs ∧ v0 = v), (fun H rs v => [] = rs ∧ .int .i64 (n184) = v), (fun H rs v => [] = rs ∧ v0 = v), (fun H rs v => [] = rs ∧ .int .i64 (n184) = v), (fun H rs v => [] = rs ∧ .pointer (some ((Value.base (v0)).add ((n184 : Int).toNat * Rep.sz S_api_OrderStep))) = v), (fun H rs v => [] = rs ∧ .agg [.bool (y197.Close), .string (y197.Switch)].toArray = v), (fun H rs v => [] = rs ∧ v0 = v), (fun H rs v => [] = rs ∧ .int .i64 (n183) = v), (fun H rs v => [] = rs ∧ .pointer (some ((Value.base (v0)).add ((n183 : Int).toNat * Rep.sz S_api_OrderStep))) = v), (fun H rs v => [] = rs ∧ .agg [.bool (y201.Close), .string (y201.Switch)].toArray = v), (fun H rs v => [] = rs ∧ .pointer (some ((Value.base (v0)).add ((n183 : Int).toNat * Rep.sz S_api_OrderStep))) = v), (fun H rs v => ∃ xs216 : List Value, [.row v0 36 (Rep.sz S_api_OrderStep) (l181.set ((n183 : Int).toNat) y197).length xs216] = rs ∧ .pointer (some ((Value.base (v0)).add ((n183 : Int).toNat * Rep.sz S_api_OrderStep))) = v ∧ Rw H v0 xs216 (l181.set ((n183 : Int).toNat) y197))]) [[], [], [], [], [], [], [], [], [], [], [], [], [], [14]] [[], [], [], [], [], [], [14], [14], [], [], [14], [14], [14], []] [[.row v0 36 (Rep.sz S_api_OrderStep) l181.length xs180]] [0, 1, 2, 3, 4, 5, 6, 7, 8, 9, 10, 11, 12, 13] Facts.mixed (by kernel_rfl) rfl rfl rfl (by kernel_rfl) (phiT_mono ⟨eq_monoT _ _, eq_monoT _ _, eq_monoT _ _, eq_monoT _ _, eq_monoT _ _, eq_monoT _ _, eq_monoT _ _, eq_monoT _ _, eq_monoT _ _, eq_monoT _ _, eq_monoT _ _, eq_monoT _ _, eq_monoT _ _, (by rintro H1 H2 rs v hle ⟨xs216, rfl, hv_, hr213⟩; exact ⟨xs216, rfl, hv_, (hr213.mono hle)⟩), trivial⟩) ⟨?_, ?_, ?_, ?_, ?_, ?_, ?_, ?_, ?_, ?_, ?_, ?_, ?_, ?_, trivial⟩ ?_
      · intro HX hX X Rest hR
        intro hU
        refine W_move rfl rfl rfl ?_
        exact W_end (OneT_end [] (Hp.le_refl _) ⟨rfl, rfl⟩)
      · intro HX hX X Rest hR
        intro hU
        refine W_move rfl rfl rfl ?_
        exact W_end (OneT_end [] (Hp.le_refl _) ⟨rfl, rfl⟩)
      · intro HX hX X Rest hR
        intro hU
        refine W_move rfl rfl rfl ?_
        exact W_end (OneT_end [] (Hp.le_refl _) ⟨rfl, rfl⟩)
      · intro HX hX X Rest hR
        intro hU
        refine W_move rfl rfl rfl ?_
        exact W_end (OneT_end [] (Hp.le_refl _) ⟨rfl, rfl⟩)
      · intro HX hX X Rest hR
        intro hU
        refine W_move rfl rfl rfl ?_
        exact W_end (OneT_end [] (Hp.le_refl _) ⟨rfl, rfl⟩)
      · intro HX hX X Rest hR
        intro hU
        refine W_move rfl rfl rfl ?_
        exact W_end (OneT_end [] (Hp.le_refl _) ⟨rfl, rfl⟩)
      · intro HX hX X Rest hR
        rintro _ _ ⟨rfl, rfl⟩
        rintro _ _ ⟨rfl, rfl⟩
        intro hU
        have hU2 : ∀ s ∈ [.row v0 36 (Rep.sz S_api_OrderStep) l181.length xs180], s ∈ Rest := hU
        refine W_indexO (hU2 _ (List.mem_cons_self ..)) rfl rfl Proofs.Try.runUnderlying25 Proofs.Try.sizeOf36 rfl rfl h198 (List.getElem?_eq_some_iff.1 he199).1 ?_
        exact W_end (OneT_end [] (Hp.le_refl _) ⟨rfl, rfl⟩)
      · intro HX hX X Rest hR
        rintro _ _ ⟨rfl, rfl⟩
        intro hU
        have hU2 : ∀ s ∈ [.row v0 36 (Rep.sz S_api_OrderStep) l181.length xs180], s ∈ Rest := hU
        refine W_loadAgg (cs := [.bool (y197.Close), .string (y197.Switch)]) rfl rfl Proofs.Try.isAgg36 Proofs.Try.sizeOf36 rfl (row_cells (hU2 _ (List.mem_cons_self ..)) hg200) rfl ?_
        exact W_end (OneT_end [] (Hp.le_refl _) ⟨rfl, rfl⟩)
      · intro HX hX X Rest hR
        intro hU
        refine W_move rfl rfl rfl ?_
        exact W_end (OneT_end [] (Hp.le_refl _) ⟨rfl, rfl⟩)
      · intro HX hX X Rest hR
        intro hU
        refine W_move rfl rfl rfl ?_
        exact W_end (OneT_end [] (Hp.le_refl _) ⟨rfl, rfl⟩)
      · intro HX hX X Rest hR
        rintro _ _ ⟨rfl, rfl⟩
        rintro _ _ ⟨rfl, rfl⟩
        intro hU
        have hU2 : ∀ s ∈ [.row v0 36 (Rep.sz S_api_OrderStep) l181.length xs180], s ∈ Rest := hU
        refine W_indexO (hU2 _ (List.mem_cons_self ..)) rfl rfl Proofs.Try.runUnderlying25 Proofs.Try.sizeOf36 rfl rfl h202 (List.getElem?_eq_some_iff.1 he203).1 ?_
        exact W_end (OneT_end [] (Hp.le_refl _) ⟨rfl, rfl⟩)
      · intro HX hX X Rest hR
        rintro _ _ ⟨rfl, rfl⟩
        intro hU
        have hU2 : ∀ s ∈ [.row v0 36 (Rep.sz S_api_OrderStep) l181.length xs180], s ∈ Rest := hU
        refine W_loadAgg (cs := [.bool (y201.Close), .string (y201.Switch)]) rfl rfl Proofs.Try.isAgg36 Proofs.Try.sizeOf36 rfl (row_cells (hU2 _ (List.mem_cons_self ..)) hg204) rfl ?_
        exact W_end (OneT_end [] (Hp.le_refl _) ⟨rfl, rfl⟩)
      · intro HX hX X Rest hR
        rintro _ _ ⟨rfl, rfl⟩
        rintro _ _ ⟨rfl, rfl⟩
        rintro _ _ ⟨rfl, rfl⟩
        rintro _ _ ⟨rfl, rfl⟩
        rintro _ _ ⟨rfl, rfl⟩
        rintro _ _ ⟨rfl, rfl⟩
        rintro _ _ ⟨rfl, rfl⟩
        rintro _ _ ⟨rfl, rfl⟩
        rintro _ _ ⟨rfl, rfl⟩
        intro hU
        have hU2 : ∀ s ∈ [.row v0 36 (Rep.sz S_api_OrderStep) l181.length xs180], s ∈ Rest := hU
        refine W_indexO (hU2 _ (List.mem_cons_self ..)) rfl rfl Proofs.Try.runUnderlying25 Proofs.Try.sizeOf36 rfl rfl h206 (List.getElem?_eq_some_iff.1 he207).1 ?_
        exact W_end (OneT_end [] (Hp.le_refl _) ⟨rfl, rfl⟩)
      · intro HX hX X Rest hR
        rintro _ _ ⟨rfl, rfl⟩
        rintro _ _ ⟨rfl, rfl⟩
        rintro _ _ ⟨rfl, rfl⟩
        rintro _ _ ⟨rfl, rfl⟩
        rintro _ _ ⟨rfl, rfl⟩
        rintro _ _ ⟨rfl, rfl⟩
        rintro _ _ ⟨rfl, rfl⟩
        rintro _ _ ⟨rfl, rfl⟩
        rintro _ _ ⟨rfl, rfl⟩
        intro hU
        refine W_as (M' := .row v0 36 (Rep.sz S_api_OrderStep) l181.length xs180 :: Rest) rfl ?_
        obtain ⟨hr213, he214, hg215⟩ := Rw.put (cs := [.bool (y197.Close), .string (y197.Switch)]) (o := 0) (c := [.bool (y205.Close), .string (y205.Switch)]) (out := [.bool (y197.Close), .string (y197.Switch)]) (e2 := y197) (hr182.mono hX) he207 rfl hg208 rfl rfl rfl
        refine W_storeO2 (i := (n183 : Int).toNat * Rep.sz S_api_OrderStep + 0) (cs := [.bool (y197.Close), .string (y197.Switch)]) rfl Proofs.Try.sizeOf36 rfl (row_ad0 _ _) rfl rfl rfl (Rw.room (hr182.mono hX) he207 rfl) rfl (all_cons rfl (all_cons rfl all_nil)) (n' := (l181.set ((n183 : Int).toNat) y197).length) List.length_set ?_
        generalize over xs180 ((n183 : Int).toNat * Rep.sz S_api_OrderStep + 0) [.bool (y197.Close), .string (y197.Switch)] = xs216 at hr213 hg215 ⊢
        exact W_end (OneT_endL rfl [.row v0 36 (Rep.sz S_api_OrderStep) (l181.set ((n183 : Int).toNat) y197).length xs216] (Hp.le_refl _) ⟨xs216, rfl, rfl, (hr213)⟩)
      intro H217 hle218
      rintro _ _ ⟨rfl, rfl⟩
      rintro _ _ ⟨rfl, rfl⟩
      rintro _ _ ⟨rfl, rfl⟩
      rintro _ _ ⟨rfl, rfl⟩
      rintro _ _ ⟨rfl, rfl⟩
      rintro _ _ ⟨rfl, rfl⟩
      rintro _ _ ⟨rfl, rfl⟩
      rintro _ _ ⟨rfl, rfl⟩
      rintro _ _ ⟨rfl, rfl⟩
      rintro _ _ ⟨rfl, rfl⟩
      rintro _ _ ⟨rfl, rfl⟩
      rintro _ _ ⟨rfl, rfl⟩
      rintro _ _ ⟨rfl, rfl⟩
      rintro _ _ _ ⟨xs216, rfl, _, hr213⟩
      refine W_as (M' := .row v0 36 (Rep.sz S_api_OrderStep) (l181.set ((n183 : Int).toNat) y197).length xs216 :: M) rfl ?_
      obtain ⟨y219, h220, he221, hm⟩ := idx_some hm
      refine W_indexO (List.mem_cons_self ..) rfl rfl Proofs.Try.runUnderlying25 Proofs.Try.sizeOf36 rfl rfl h220 (List.getElem?_eq_some_iff.1 he221).1 ?_
      obtain ⟨_, rfl, hg222⟩ := (hr213).elem he221
      obtain ⟨hr223, he224, hg225⟩ := Rw.put (cs := [.bool (y201.Close), .string (y201.Switch)]) (o := 0) (c := [.bool (y219.Close), .string (y219.Switch)]) (out := [.bool (y201.Close), .string (y201.Switch)]) (e2 := y201) hr213 he221 rfl hg222 rfl rfl rfl
      refine W_storeO2 (i := (n184 : Int).toNat * Rep.sz S_api_OrderStep + 0) (cs := [.bool (y201.Close), .string (y201.Switch)]) rfl Proofs.Try.sizeOf36 rfl (row_ad0 _ _) rfl rfl rfl (Rw.room hr213 he221 rfl) rfl (all_cons rfl (all_cons rfl all_nil)) (n' := ((l181.set ((n183 : Int).toNat) y197).set ((n184 : Int).toNat) y201).length) List.length_set ?_
      generalize over xs216 ((n184 : Int).toNat * Rep.sz S_api_OrderStep + 0) [.bool (y201.Close), .string (y201.Switch)] = xs226 at hr223 hg225 ⊢
      refine W_end ?_
      refine E_normal_block ?_
      refine E_then ?_
      refine C_region ?_
      refine W_move rfl rfl rfl ?_
      refine W_bin rfl rfl rfl rfl rfl ?_
      refine W_move rfl rfl rfl ?_
      refine W_bin rfl rfl rfl rfl rfl ?_
      refine W_assign rfl rfl rfl ?_
      refine W_assign rfl rfl rfl ?_
      refine W_end ?_
      exact E_keepJ (E_back (Nat.lt_succ_self _) ⟨((l181.set ((n183 : Int).toNat) y197).set ((n184 : Int).toNat) y201), IntKind.i64.wrap (n183 + 1), IntKind.i64.wrap (n184 - 1), xs226, (by rw [hn189]; exact hm), hr223, (Hp.le_trans hle186 hle218), rfl, rfl⟩) (List.Perm.refl _) ⟨rfl, rfl, rfl, trivial⟩
    · have hm := ite_f' hb196 hm
      refine C_exit ?_
      refine E_exit_then ?_
      refine E_exit_then ?_
      refine E_exit_hit ?_
      refine E_off ?_
      obtain rfl := Option.some.inj hm
      refine E_weak hle186 ?_
      exact end0 rfl ⟨rfl, xs180, rfl, rfl, (hr182).toF⟩

theorem m_order_Plan_c {B : Nat} {w0 w : World} {H : Hp} {M : List Res} {rules : (List S_api_InterlockRule)} {p1_from : (List S_api_InterlockState)} {to : (List S_api_InterlockState)} {held : (List ByteArray)} {v0 : Value} {v1 : Value} {v2 : Value} {v3 : Value} {r : (List S_api_OrderStep) × Int} (hm : m_order_Plan rules p1_from to held = some r) (h0 : RdS H v0 rules) (h1 : RdS H v1 p1_from) (h2 : RdS H v2 to) (h3 : RdS H v3 held) (ht : St B w0 H (M) w) :
    Calls Proofs.Try.prog 8 [v0, v1, v2, v3].toArray w (Ret B w0 fun H' M' v => H = H' ∧ ∃ qv0 : Value, ∃ qxs0 : List Value, .row qv0 36 (Rep.sz S_api_OrderStep) r.1.length qxs0 :: M = M' ∧ .tuple #[qv0, .int .i64 (r.2)] = v ∧ RwF qv0 qxs0 r.1) := by
  unfold m_order_Plan at hm
  refine enter Proofs.Try.func8 rfl rfl rfl ht ?_
  refine C_seq ?_
  refine C_region ?_
  refine W_assign rfl rfl rfl ?_
  refine W_assign rfl rfl rfl ?_
  refine W_end ?_
  refine E_then ?_
  refine C_seq ?_
  refine C_seq ?_
  refine C_region ?_
  refine W_move rfl rfl rfl ?_
  refine W_move rfl rfl rfl ?_
  refine W_move rfl rfl rfl ?_
  refine W_move rfl rfl rfl ?_
  obtain ⟨r101, hc102, hm⟩ := bind_some hm
  refine W_call Proofs.Try.call18 rfl rfl rfl (fun w ht => by have h := m_order_check_c (hm := hc102) h0 h1 h2 h3 ht; exact h) ?_
  rintro _ _ _ ⟨rfl, rfl, rfl⟩
  refine W_assign rfl rfl rfl ?_
  refine W_end ?_
  refine E_then ?_
  refine C_seq ?_
  refine C_region ?_
  refine W_move rfl rfl rfl ?_
  refine W_bin rfl rfl rfl rfl rfl ?_
  refine W_end ?_
  refine E_then ?_
  refine C_cond (b := !decide (r101 = 0)) rfl (fun hb103 => ?_) (fun hb103 => ?_)
  · have hm := ite_t' hb103 hm
    refine C_seq ?_
    refine C_region ?_
    refine W_move rfl rfl rfl ?_
    refine W_assign rfl rfl rfl ?_
    refine W_assign rfl rfl rfl ?_
    refine W_end ?_
    refine E_then ?_
    refine C_ret ?_
    refine E_ret_then ?_
    refine E_nilRow 36 (Rep.sz S_api_OrderStep) ?_
    obtain rfl := Option.some.inj hm
    refine E_weak (Hp.le_refl _) ?_
    exact end2 rfl rfl rfl ⟨rfl, (.slice none 0 0), [], rfl, rfl, (Rw.nil (H := H)).toF⟩
  · have hm := ite_f' hb103 hm
    refine C_skip ?_
    refine E_then ?_
    refine C_seq ?_
    refine C_region ?_
    refine W_move rfl rfl rfl ?_
    refine W_move rfl rfl rfl ?_
    refine W_move rfl rfl rfl ?_
    obtain ⟨r104, hc105, hm⟩ := bind_some hm
    refine W_call Proofs.Try.call19 rfl rfl rfl (fun w ht => by have h := m_order_walk_c (hm := hc105) h0 h1 h3 ht; exact h) ?_
    rintro _ _ _ ⟨rfl, xs106, rfl, rfl, h107, hl108⟩
    have h107 := h107 H
    refine W_allocArr (α := Int) (z := .agg ((List.replicate 256 (0 : Int)).map (Value.int .i64)).toArray) (cs := (List.replicate 256 (0 : Int)).map (Value.int .i64)) (l := List.replicate 256 (0 : Int)) (n := 256) rfl rfl (fun _ => by kernel_rfl) (by kernel_rfl) (RdC.ints _) (by kernel_rfl) rfl ?_
    intro v109 hr110
    have hl111 : (List.replicate 256 (0 : Int)).length = 256 := by first | rfl | (simp only [List.length_set, List.length_replicate, *])
    refine W_storeArr (l := (List.replicate 256 (0 : Int))) (l2 := r104) rfl Proofs.Try.sizeOf53 rfl rfl hr110 h107 (hl108.trans hl111.symm) rfl rfl (by rw [hl108]; rfl) ?_
    intro hr112
    refine W_end ?_
    refine E_then ?_
    refine C_seq ?_
    refine C_region ?_
    refine W_move rfl rfl rfl ?_
    obtain ⟨r113, hc114, hm⟩ := bind_some hm
    refine W_call Proofs.Try.call20 rfl rfl rfl (fun w ht => by have h := m_order_code_c (hm := hc114) h2 ht; exact h) ?_
    rintro _ _ _ ⟨rfl, rfl, rfl⟩
    refine W_assign rfl rfl rfl ?_
    refine W_end ?_
    refine E_then ?_
    refine C_seq ?_
    refine C_seq ?_
    refine C_region ?_
    refine W_move rfl rfl rfl ?_
    obtain ⟨y115, h116, he117, hm⟩ := idx_some hm
    refine W_indexArr (List.mem_cons_self ..) rfl rfl Proofs.Try.runUnderlying53 Proofs.Try.sizeOf3 hl108 rfl rfl h116 (List.getElem?_eq_some_iff.1 he117).1 ?_
    obtain ⟨_, rfl, hg118⟩ := (hr112).elem he117
    refine W_load rfl rfl Proofs.Try.isAgg3 rfl (row_one0 (List.mem_cons_self ..) hg118 rfl) ?_
    refine W_bin rfl rfl rfl rfl rfl ?_
    refine W_end ?_
    refine E_then ?_
    refine C_cond (b := decide (y115 = (-2))) rfl (fun hb119 => ?_) (fun hb119 => ?_)
    · have hm := ite_t' hb119 hm
      refine C_seq ?_
      refine C_region ?_
      refine W_assign rfl rfl rfl ?_
      refine W_assign rfl rfl rfl ?_
      refine W_end ?_
      refine E_then ?_
      refine C_ret ?_
      refine E_ret_then ?_
      refine E_nilRow 36 (Rep.sz S_api_OrderStep) ?_
      obtain rfl := Option.some.inj hm
      refine E_drop (List.Sublist.cons_cons _ (List.Sublist.cons _ (List.Sublist.refl _))) ?_
      refine E_weak (Hp.le_refl _) ?_
      exact end2 rfl rfl rfl ⟨rfl, (.slice none 0 0), [], rfl, rfl, (Rw.nil (H := H)).toF⟩
    · have hm := ite_f' hb119 hm
      refine C_skip ?_
      refine E_then ?_
      refine C_seq ?_
      refine C_region ?_
      refine W_assign rfl rfl rfl ?_
      refine W_end ?_
      refine E_then ?_
      refine C_seq_join (fun H' M' L' => ∃ l257 : List S_api_OrderStep, ∃ v255 : Value, ∃ xs256 : List Value, m_order_Plan_b2 l257 = some r ∧ Rw H' v255 xs256 l257 ∧ H.le H' ∧ .row v255 36 (Rep.sz S_api_OrderStep) l257.length xs256 :: M = M' ∧ [(13, v255)] = L') ?_ (fun J261 => ?_)
      · rintro H259 _ _ ⟨l257, v255, xs256, hm, hr258, hle260, rfl, rfl⟩
        unfold m_order_Plan_b2 at hm
        refine C_seq ?_
        refine C_region ?_
        refine W_move rfl rfl rfl ?_
        obtain ⟨r262, hc263, hm⟩ := bind_some hm
        refine W_call Proofs.Try.call21 rfl rfl rfl (fun w ht => by have h := m_slices_Reverse_api_OrderStep_api_OrderStep_c (hm := hc263) hr258 ht; exact h) ?_
        rintro _ _ _ ⟨rfl, xs265, rfl, rfl, h266⟩
        have h266 := h266 H259
        refine W_end ?_
        refine E_then ?_
        refine C_seq ?_
        refine C_region ?_
        refine W_move rfl rfl rfl ?_
        refine W_assign rfl rfl rfl ?_
        refine W_assign rfl rfl rfl ?_
        refine W_end ?_
        refine E_then ?_
        refine C_ret ?_
        obtain rfl := Option.some.inj hm
        refine E_weak hle260 ?_
        exact end2 rfl rfl rfl ⟨rfl, v255, xs265, rfl, rfl, (h266).toF⟩
      · refine C_block ?_
        refine C_nilRow 36 (Rep.sz S_api_OrderStep) ?_
        refine C_keep (L' := [(1, v1), (11, .pointer (some (Value.base v109))), (12, .int .i64 (r113)), (13, (.slice none 0 0))]) ⟨rfl, rfl, rfl, rfl, trivial⟩ (List.Perm.refl _) ?_
        refine C_loop (fun n H' M' L' => ∃ n351 : Int, ∃ l354 : List S_api_OrderStep, ∃ v352 : Value, ∃ xs353 : List Value, loopF (fun s358 n => m_order_Plan_b3 p1_from r104 s358.1 s358.2 n) n (n351, l354) = some r ∧ Rw H' v352 xs353 l354 ∧ H.le H' ∧ .row v352 36 (Rep.sz S_api_OrderStep) l354.length xs353 :: .row v109 53 (Rep.sz Int) r104.length xs106 :: M = M' ∧ [(1, v1), (11, .pointer (some (Value.base v109))), (12, .int .i64 (n351)), (13, v352)] = L') FUEL ⟨r113, ([] : List S_api_OrderStep), (.slice none 0 0), ([]), hm, Rw.nil, (Hp.le_refl _), rfl, rfl⟩ ?_
        rintro n361 H356 _ _ ⟨n351, l354, v352, xs353, hm, hr355, hle357, rfl, rfl⟩
        cases n361 with
        | zero => cases hm
        | succ n361 =>
          have hm : m_order_Plan_b3 p1_from r104 n351 l354 (loopF (fun s358 n => m_order_Plan_b3 p1_from r104 s358.1 s358.2 n) n361) = some r := hm
          generalize hn360 : loopF (fun s358 n => m_order_Plan_b3 p1_from r104 s358.1 s358.2 n) n361 = nx359 at hm
          unfold m_order_Plan_b3 at hm
          refine C_seq ?_
          refine C_seq ?_
          refine C_region ?_
          refine W_move rfl rfl rfl ?_
          obtain ⟨y367, h368, he369, hm⟩ := idx_some hm
          refine W_indexArr (List.mem_cons_of_mem _ (List.mem_cons_self ..)) rfl rfl Proofs.Try.runUnderlying53 Proofs.Try.sizeOf3 hl108 rfl rfl h368 (List.getElem?_eq_some_iff.1 he369).1 ?_
          obtain ⟨_, rfl, hg370⟩ := (hr112).elem he369
          refine W_load rfl rfl Proofs.Try.isAgg3 rfl (row_one0 (List.mem_cons_of_mem _ (List.mem_cons_self ..)) hg370 rfl) ?_
          refine W_bin rfl rfl rfl rfl rfl ?_
          refine W_end ?_
          refine E_then ?_
          refine C_cond (b := decide (0 ≤ y367)) rfl (fun hb371 => ?_) (fun hb371 => ?_)
          · have hm := ite_t' hb371 hm
            refine C_skip ?_
            refine E_then ?_
            refine C_block ?_
            refine C_seq ?_
            refine C_region ?_
            refine W_move rfl rfl rfl ?_
            obtain ⟨y372, h373, he374, hm⟩ := idx_some hm
            refine W_indexArr (List.mem_cons_of_mem _ (List.mem_cons_self ..)) rfl rfl Proofs.Try.runUnderlying53 Proofs.Try.sizeOf3 hl108 rfl rfl h373 (List.getElem?_eq_some_iff.1 he374).1 ?_
            obtain ⟨_, rfl, hg375⟩ := (hr112).elem he374
            refine W_load rfl rfl Proofs.Try.isAgg3 rfl (row_one0 (List.mem_cons_of_mem _ (List.mem_cons_self ..)) hg375 rfl) ?_
            refine W_assign rfl rfl rfl ?_
            refine W_end ?_
            refine E_then ?_
            refine C_seq ?_
            obtain ⟨hq376, hm⟩ := need_some hm
            obtain ⟨y377, h378, he379, hm⟩ := idx_some hm
            obtain ⟨_, ⟨rfl⟩, hc380⟩ := (h1).elem he379
            refine C_region_tok0 13 (phiT [(fun H rs v => [] = rs ∧ v352 = v), (fun H rs v => [] = rs ∧ .int .i64 (n351) = v), (fun H rs v => [] = rs ∧ .int .i64 (y372) = v), (fun H rs v => [] = rs ∧ .int .i64 (shrV .i64 n351 y372) = v), (fun H rs v => [] = rs ∧ .int .i64 (IntKind.i64.wrap ((BitVec.ofInt (IntKind.i64).bits (shrV .i64 n351 y372) &&& BitVec.ofInt (IntKind.i64).bits 1).toNat)) = v), (fun H rs v => [] = rs ∧ .bool (decide ((IntKind.i64.wrap ((BitVec.ofInt (IntKind.i64).bits (shrV .i64 n351 y372) &&& BitVec.ofInt (IntKind.i64).bits 1).toNat)) = 1)) = v), (fun H rs v => [] = rs ∧ v1 = v), (fun H rs v => [] = rs ∧ .int .i64 (y372) = v), (fun H rs v => [] = rs ∧ .pointer (some ((Value.base (v1)).add ((y372 : Int).toNat * 2))) = v), (fun H rs v => [] = rs ∧ .pointer (some ((Value.base (v1)).add ((y372 : Int).toNat * 2))) = v), (fun H rs v => [] = rs ∧ .string (y377.Name) = v), (fun H rs v => [] = rs ∧ .agg [.bool (decide ((IntKind.i64.wrap ((BitVec.ofInt (IntKind.i64).bits (shrV .i64 n351 y372) &&& BitVec.ofInt (IntKind.i64).bits 1).toNat)) = 1)), .string (y377.Name)].toArray = v), (fun H rs v => ∃ v389 : Value, [] = rs ∧ v389 = v ∧ RdS H v389 ([(S_api_OrderStep.mk (decide ((IntKind.i64.wrap ((BitVec.ofInt (IntKind.i64).bits (shrV .i64 n351 y372) &&& BitVec.ofInt (IntKind.i64).bits 1).toNat)) = 1)) y377.Name)]) ∧ Value.cap' v389 = ([(S_api_OrderStep.mk (decide ((IntKind.i64.wrap ((BitVec.ofInt (IntKind.i64).bits (shrV .i64 n351 y372) &&& BitVec.ofInt (IntKind.i64).bits 1).toNat)) = 1)) y377.Name)]).length)]) [[], [], [], [], [], [], [], [], [], [], [], [], []] [[], [], [], [], [], [], [], [], [], [], [], [], []] [] [0, 1, 2, 3, 4, 5, 6, 7, 8, 9, 10, 11, 12] Facts.mixed (by kernel_rfl) rfl rfl rfl (by kernel_rfl) (phiT_mono ⟨eq_monoT _ _, eq_monoT _ _, eq_monoT _ _, eq_monoT _ _, eq_monoT _ _, eq_monoT _ _, eq_monoT _ _, eq_monoT _ _, eq_monoT _ _, eq_monoT _ _, eq_monoT _ _, eq_monoT _ _, (by rintro H1 H2 rs v hle ⟨v389, rfl, rfl, h393, hc394⟩; exact ⟨v389, rfl, rfl, (h393.mono hle), (hc394)⟩), trivial⟩) ⟨?_, ?_, ?_, ?_, ?_, ?_, ?_, ?_, ?_, ?_, ?_, ?_, ?_, trivial⟩ ?_
            · intro HX hX X Rest hR
              intro hU
              refine W_move rfl rfl rfl ?_
              exact W_end (OneT_end [] (Hp.le_refl _) ⟨rfl, rfl⟩)
            · intro HX hX X Rest hR
              intro hU
              refine W_move rfl rfl rfl ?_
              exact W_end (OneT_end [] (Hp.le_refl _) ⟨rfl, rfl⟩)
            · intro HX hX X Rest hR
              intro hU
              refine W_move rfl rfl rfl ?_
              exact W_end (OneT_end [] (Hp.le_refl _) ⟨rfl, rfl⟩)
            · intro HX hX X Rest hR
              rintro _ _ ⟨rfl, rfl⟩
              rintro _ _ ⟨rfl, rfl⟩
              intro hU
              refine W_shr rfl rfl rfl rfl hq376 ?_
              exact W_end (OneT_end [] (Hp.le_refl _) ⟨rfl, rfl⟩)
            · intro HX hX X Rest hR
              rintro _ _ ⟨rfl, rfl⟩
              intro hU
              refine W_bin rfl rfl rfl rfl rfl ?_
              exact W_end (OneT_end [] (Hp.le_refl _) ⟨rfl, rfl⟩)
            · intro HX hX X Rest hR
              rintro _ _ ⟨rfl, rfl⟩
              intro hU
              refine W_bin rfl rfl rfl rfl rfl ?_
              exact W_end (OneT_end [] (Hp.le_refl _) ⟨rfl, rfl⟩)
            · intro HX hX X Rest hR
              intro hU
              refine W_move rfl rfl rfl ?_
              exact W_end (OneT_end [] (Hp.le_refl _) ⟨rfl, rfl⟩)
            · intro HX hX X Rest hR
              intro hU
              refine W_move rfl rfl rfl ?_
              exact W_end (OneT_end [] (Hp.le_refl _) ⟨rfl, rfl⟩)
            · intro HX hX X Rest hR
              rintro _ _ ⟨rfl, rfl⟩
              rintro _ _ ⟨rfl, rfl⟩
              intro hU
              refine W_indexS rfl rfl Proofs.Try.runUnderlying23 Proofs.Try.sizeOf33 rfl ((h1.mono hle357).mono hX) rfl h378 he379 ?_
              exact W_end (OneT_end [] (Hp.le_refl _) ⟨rfl, rfl⟩)
            · intro HX hX X Rest hR
              rintro _ _ ⟨rfl, rfl⟩
              intro hU
              refine W_field (o := 0) rfl rfl Proofs.Try.runUnderlying33 rfl Proofs.Try.sizeOf9 rfl rfl rfl ?_
              exact W_end (OneT_end [] (Hp.le_refl _) ⟨rfl, rfl⟩)
            · intro HX hX X Rest hR
              rintro _ _ ⟨rfl, rfl⟩
              intro hU
              refine W_load rfl rfl Proofs.Try.isAgg9 rfl (HCells.one ((hc380.mono hle357).mono hX) 0 rfl).at ?_
              exact W_end (OneT_end [] (Hp.le_refl _) ⟨rfl, rfl⟩)
            · intro HX hX X Rest hR
              rintro _ _ ⟨rfl, rfl⟩
              rintro _ _ ⟨rfl, rfl⟩
              intro hU
              refine W_build (css := [[.bool (decide ((IntKind.i64.wrap ((BitVec.ofInt (IntKind.i64).bits (shrV .i64 n351 y372) &&& BitVec.ofInt (IntKind.i64).bits 1).toNat)) = 1))], [.string (y377.Name)]]) (zs := [.bool (false), .string (⟨#[]⟩)]) (out := [.bool (decide ((IntKind.i64.wrap ((BitVec.ofInt (IntKind.i64).bits (shrV .i64 n351 y372) &&& BitVec.ofInt (IntKind.i64).bits 1).toNat)) = 1)), .string (y377.Name)]) (places := [(0, 1), (1, 1)]) rfl rfl rfl ⟨rfl, rfl, trivial⟩ Proofs.Try.zeroValue36 rfl Proofs.Try.runUnderlying36 (fun w => by kernel_rfl) rfl ?_
              exact W_end (OneT_end [] (Hp.le_refl _) ⟨rfl, rfl⟩)
            · intro HX hX X Rest hR
              rintro _ _ ⟨rfl, rfl⟩
              intro hU
              refine W_buildSlice (α := S_api_OrderStep) (css := [[.bool (decide ((IntKind.i64.wrap ((BitVec.ofInt (IntKind.i64).bits (shrV .i64 n351 y372) &&& BitVec.ofInt (IntKind.i64).bits 1).toNat)) = 1)), .string (y377.Name)]]) (zs := [.bool (false), .string (⟨#[]⟩)]) (out := [.bool (decide ((IntKind.i64.wrap ((BitVec.ofInt (IntKind.i64).bits (shrV .i64 n351 y372) &&& BitVec.ofInt (IntKind.i64).bits 1).toNat)) = 1)), .string (y377.Name)]) (ys := [(S_api_OrderStep.mk (decide ((IntKind.i64.wrap ((BitVec.ofInt (IntKind.i64).bits (shrV .i64 n351 y372) &&& BitVec.ofInt (IntKind.i64).bits 1).toNat)) = 1)) y377.Name)]) rfl rfl rfl ⟨rfl, trivial⟩ Proofs.Try.runUnderlying25 Proofs.Try.sizeOf36 rfl Proofs.Try.zeroValue36 (by kernel_rfl) rfl rfl rfl rfl ⟨[.bool (decide ((IntKind.i64.wrap ((BitVec.ofInt (IntKind.i64).bits (shrV .i64 n351 y372) &&& BitVec.ofInt (IntKind.i64).bits 1).toNat)) = 1)), .string (y377.Name)], [], rfl, rfl, rfl⟩ rfl ?_
              intro b388 v389 H390 hv391 hle392 h393
              have hc394 : Value.cap' v389 = ([(S_api_OrderStep.mk (decide ((IntKind.i64.wrap ((BitVec.ofInt (IntKind.i64).bits (shrV .i64 n351 y372) &&& BitVec.ofInt (IntKind.i64).bits 1).toNat)) = 1)) y377.Name)]).length := by rw [hv391]; rfl
              exact W_end (OneT_end [] hle392 ⟨v389, rfl, rfl, (h393), (hc394)⟩)
            intro H395 hle396
            rintro _ _ ⟨rfl, rfl⟩
            rintro _ _ ⟨rfl, rfl⟩
            rintro _ _ ⟨rfl, rfl⟩
            rintro _ _ ⟨rfl, rfl⟩
            rintro _ _ ⟨rfl, rfl⟩
            rintro _ _ ⟨rfl, rfl⟩
            rintro _ _ ⟨rfl, rfl⟩
            rintro _ _ ⟨rfl, rfl⟩
            rintro _ _ ⟨rfl, rfl⟩
            rintro _ _ ⟨rfl, rfl⟩
            rintro _ _ ⟨rfl, rfl⟩
            rintro _ _ ⟨rfl, rfl⟩
            rintro _ _ ⟨v389, rfl, rfl, h393, hc394⟩
            obtain ⟨hz397, hm⟩ := need_some hm
            refine W_appendO (α := S_api_OrderStep) (l := l354) (ys := [(S_api_OrderStep.mk (decide ((IntKind.i64.wrap ((BitVec.ofInt (IntKind.i64).bits (shrV .i64 n351 y372) &&& BitVec.ofInt (IntKind.i64).bits 1).toNat)) = 1)) y377.Name)]) rfl rfl Proofs.Try.underlying25 ⟨_, rfl, rfl, rfl, rfl⟩ rfl rfl rfl rfl rfl (hr355.mono hle396) h393 hz397 ?_
            intro v398 xs399 hr400
            refine W_assign rfl rfl rfl ?_
            refine W_end ?_
            refine E_then ?_
            refine C_region ?_
            refine W_move rfl rfl rfl ?_
            refine W_move rfl rfl rfl ?_
            obtain ⟨hq401, hm⟩ := need_some hm
            refine W_shl rfl rfl rfl rfl hq401 ?_
            refine W_bin rfl rfl rfl rfl rfl ?_
            refine W_assign rfl rfl rfl ?_
            refine W_end ?_
            refine E_normal_block ?_
            exact E_keepJ (E_back (Nat.lt_succ_self _) ⟨IntKind.i64.wrap ((BitVec.ofInt (IntKind.i64).bits n351 ^^^ BitVec.ofInt (IntKind.i64).bits (shlV .i64 1 y372)).toNat), (l354 ++ ([(S_api_OrderStep.mk (decide ((IntKind.i64.wrap ((BitVec.ofInt (IntKind.i64).bits (shrV .i64 n351 y372) &&& BitVec.ofInt (IntKind.i64).bits 1).toNat)) = 1)) y377.Name)])), v398, xs399, (by rw [hn360]; exact hm), hr400, (Hp.le_trans hle357 hle396), rfl, rfl⟩) (List.Perm.refl _) ⟨rfl, rfl, rfl, rfl, trivial⟩
          · have hm := ite_f' hb371 hm
            refine C_exit ?_
            refine E_exit_then ?_
            refine E_exit_then ?_
            refine E_exit_hit ?_
            refine E_drop (List.Sublist.cons_cons _ (List.Sublist.cons _ (List.Sublist.refl _))) ?_
            exact E_keepJ (J261 _ _ _ ⟨l354, v352, xs353, hm, hr355, hle357, rfl, rfl⟩) (List.Perm.refl _) ⟨rfl, trivial⟩

theorem m_gridhallkeep4_orderFact_c {B : Nat} {w0 w : World} {H : Hp} {M : List Res} {r : Bool} (hm : m_gridhallkeep4_orderFact = some r) (ht : St B w0 H (M) w) :
    Calls Proofs.Try.prog 9 [].toArray w (Ret B w0 fun H' M' v => H = H' ∧ M = M' ∧ .bool (r) = v) := by
  unfold m_gridhallkeep4_orderFact at hm
  refine enter Proofs.Try.func9 rfl rfl rfl ht ?_
  refine C_seq ?_
  refine C_region ?_
  refine W_assign rfl rfl rfl ?_
  refine W_end ?_
  refine E_then ?_
  refine C_seq ?_
  refine C_region ?_
  refine W_build (css := [[.int .i64 (2)], [.string (⟨#[66]⟩)]]) (zs := [.int .i64 (0), .string (⟨#[]⟩), .int .i64 (0), .int .i64 (0)]) (out := [.int .i64 (2), .string (⟨#[66]⟩), .int .i64 (0), .int .i64 (0)]) (places := [(0, 1), (1, 1), (2, 1), (3, 1)]) rfl rfl rfl ⟨rfl, rfl, trivial⟩ Proofs.Try.zeroValue58 rfl Proofs.Try.runUnderlying58 (fun w => by kernel_rfl) rfl ?_
  refine W_buildSliceO (α := S_api_InterlockNode) (css := [[.int .i64 (2), .string (⟨#[66]⟩), .int .i64 (0), .int .i64 (0)]]) (zs := [.int .i64 (0), .string (⟨#[]⟩), .int .i64 (0), .int .i64 (0)]) (out := [.int .i64 (2), .string (⟨#[66]⟩), .int .i64 (0), .int .i64 (0)]) (ys := [(S_api_InterlockNode.mk 2 (⟨#[66]⟩) 0 0)]) rfl rfl rfl ⟨rfl, trivial⟩ Proofs.Try.runUnderlying44 Proofs.Try.sizeOf58 rfl Proofs.Try.zeroValue58 (by kernel_rfl) rfl rfl rfl rfl ⟨[.int .i64 (2), .string (⟨#[66]⟩), .int .i64 (0), .int .i64 (0)], [], rfl, rfl, rfl⟩ rfl ?_
  intro v101 xs102 hr103
  refine W_build (css := [[.bool (true)], [.string (⟨#[65]⟩)], [v101]]) (zs := [.bool (false), .string (⟨#[]⟩), .slice none 0 0]) (out := [.bool (true), .string (⟨#[65]⟩), v101]) (places := [(0, 1), (1, 1), (2, 1)]) rfl rfl rfl ⟨rfl, rfl, (Rw.cells hr103), trivial⟩ Proofs.Try.zeroValue46 rfl Proofs.Try.runUnderlying46 (fun w => by kernel_rfl) rfl ?_
  refine W_freeze (hr103).rd rfl (fun H104 hle105 h106 => ?_)
  refine W_buildSliceO (α := S_api_InterlockRule) (css := [[.bool (true), .string (⟨#[65]⟩), v101]]) (zs := [.bool (false), .string (⟨#[]⟩), .slice none 0 0]) (out := [.bool (true), .string (⟨#[65]⟩), v101]) (ys := [(S_api_InterlockRule.mk true (⟨#[65]⟩) ([(S_api_InterlockNode.mk 2 (⟨#[66]⟩) 0 0)]))]) rfl rfl rfl ⟨rfl, trivial⟩ Proofs.Try.runUnderlying22 Proofs.Try.sizeOf46 rfl Proofs.Try.zeroValue46 (by kernel_rfl) rfl rfl rfl rfl ⟨[.bool (true), .string (⟨#[65]⟩), v101], [], rfl, ⟨v101, rfl, h106⟩, rfl⟩ rfl ?_
  intro v107 xs108 hr109
  refine W_assign rfl rfl rfl ?_
  refine W_end ?_
  refine E_then ?_
  refine C_seq ?_
  refine C_region ?_
  refine W_move rfl rfl rfl ?_
  refine W_build (css := [[.string (⟨#[65]⟩)]]) (zs := [.string (⟨#[]⟩), .bool (false)]) (out := [.string (⟨#[65]⟩), .bool (false)]) (places := [(0, 1), (1, 1)]) rfl rfl rfl ⟨rfl, trivial⟩ Proofs.Try.zeroValue33 rfl Proofs.Try.runUnderlying33 (fun w => by kernel_rfl) rfl ?_
  refine W_build (css := [[.string (⟨#[66]⟩)], [.bool (true)]]) (zs := [.string (⟨#[]⟩), .bool (false)]) (out := [.string (⟨#[66]⟩), .bool (true)]) (places := [(0, 1), (1, 1)]) rfl rfl rfl ⟨rfl, rfl, trivial⟩ Proofs.Try.zeroValue33 rfl Proofs.Try.runUnderlying33 (fun w => by kernel_rfl) rfl ?_
  refine W_buildSliceO (α := S_api_InterlockState) (css := [[.string (⟨#[65]⟩), .bool (false)], [.string (⟨#[66]⟩), .bool (true)]]) (zs := [.string (⟨#[]⟩), .bool (false), .string (⟨#[]⟩), .bool (false)]) (out := [.string (⟨#[65]⟩), .bool (false), .string (⟨#[66]⟩), .bool (true)]) (ys := [(S_api_InterlockState.mk (⟨#[65]⟩) false), (S_api_InterlockState.mk (⟨#[66]⟩) true)]) rfl rfl rfl ⟨rfl, rfl, trivial⟩ Proofs.Try.runUnderlying23 Proofs.Try.sizeOf33 rfl Proofs.Try.zeroValue33 (by kernel_rfl) rfl rfl rfl rfl ⟨[.string (⟨#[65]⟩), .bool (false)], [.string (⟨#[66]⟩), .bool (true)], rfl, rfl, ⟨[.string (⟨#[66]⟩), .bool (true)], [], rfl, rfl, rfl⟩⟩ rfl ?_
  intro v110 xs111 hr112
  refine W_build (css := [[.string (⟨#[65]⟩)], [.bool (true)]]) (zs := [.string (⟨#[]⟩), .bool (false)]) (out := [.string (⟨#[65]⟩), .bool (true)]) (places := [(0, 1), (1, 1)]) rfl rfl rfl ⟨rfl, rfl, trivial⟩ Proofs.Try.zeroValue33 rfl Proofs.Try.runUnderlying33 (fun w => by kernel_rfl) rfl ?_
  refine W_build (css := [[.string (⟨#[66]⟩)]]) (zs := [.string (⟨#[]⟩), .bool (false)]) (out := [.string (⟨#[66]⟩), .bool (false)]) (places := [(0, 1), (1, 1)]) rfl rfl rfl ⟨rfl, trivial⟩ Proofs.Try.zeroValue33 rfl Proofs.Try.runUnderlying33 (fun w => by kernel_rfl) rfl ?_
  refine W_buildSliceO (α := S_api_InterlockState) (css := [[.string (⟨#[65]⟩), .bool (true)], [.string (⟨#[66]⟩), .bool (false)]]) (zs := [.string (⟨#[]⟩), .bool (false), .string (⟨#[]⟩), .bool (false)]) (out := [.string (⟨#[65]⟩), .bool (true), .string (⟨#[66]⟩), .bool (false)]) (ys := [(S_api_InterlockState.mk (⟨#[65]⟩) true), (S_api_InterlockState.mk (⟨#[66]⟩) false)]) rfl rfl rfl ⟨rfl, rfl, trivial⟩ Proofs.Try.runUnderlying23 Proofs.Try.sizeOf33 rfl Proofs.Try.zeroValue33 (by kernel_rfl) rfl rfl rfl rfl ⟨[.string (⟨#[65]⟩), .bool (true)], [.string (⟨#[66]⟩), .bool (false)], rfl, rfl, ⟨[.string (⟨#[66]⟩), .bool (false)], [], rfl, rfl, rfl⟩⟩ rfl ?_
  intro v113 xs114 hr115
  refine W_perm (List.Perm.trans (List.Perm.cons _ (List.Perm.swap _ _ _)) (List.Perm.trans (List.Perm.swap _ _ _) (List.Perm.cons _ (List.Perm.swap _ _ _)))) ?_
  obtain ⟨r116, hc117, hm⟩ := bind_some hm
  refine W_call Proofs.Try.call8 rfl rfl rfl (fun w ht => by obtain ⟨H0_, hl0_, ht0_, hr0_, bk0_⟩ := ht.lendRow hr109 rfl; obtain ⟨H1_, hl1_, ht1_, hr1_, bk1_⟩ := ht0_.lendRow (hr112.mono hl0_) rfl; obtain ⟨H2_, hl2_, ht2_, hr2_, bk2_⟩ := ht1_.lendRow ((hr115.mono hl0_).mono hl1_) rfl; have h := m_order_Plan_c (hm := hc117) ((hr0_.mono hl1_).mono hl2_) (hr1_.mono hl2_) hr2_ RdS.nil ht2_; exact lend_back bk0_ (lend_back bk1_ (lend_back bk2_ (h)))) ?_
  rintro _ _ _ ⟨rfl, ⟨_, rfl, ⟨_, rfl, ⟨_, rfl, v118, xs119, rfl, rfl, h120⟩⟩⟩⟩
  have h120 := h120 H104
  refine W_move rfl rfl rfl ?_
  refine W_extract rfl rfl rfl rfl ?_
  refine W_extract rfl rfl rfl rfl ?_
  refine W_assign rfl rfl rfl ?_
  refine W_assign rfl rfl rfl ?_
  refine W_end ?_
  refine E_then ?_
  refine C_seq ?_
  refine C_region ?_
  refine W_move rfl rfl rfl ?_
  refine W_bin rfl rfl rfl rfl rfl ?_
  refine W_move rfl rfl rfl ?_
  cases hb121 : (decide (r116.2 = 0))
  · have hm := ite_f' hb121 hm
    refine W_no rfl rfl rfl ?_
    refine W_no rfl rfl rfl ?_
    refine W_no rfl rfl rfl ?_
    refine W_pick rfl rfl rfl rfl ?_
    refine W_move rfl rfl rfl ?_
    refine W_no rfl rfl rfl ?_
    refine W_no rfl rfl rfl ?_
    refine W_no rfl rfl rfl ?_
    refine W_no rfl rfl rfl ?_
    refine W_no rfl rfl rfl ?_
    refine W_pick rfl rfl rfl rfl ?_
    refine W_move rfl rfl rfl ?_
    refine W_no rfl rfl rfl ?_
    refine W_no rfl rfl rfl ?_
    refine W_no rfl rfl rfl ?_
    refine W_no rfl rfl rfl ?_
    refine W_no rfl rfl rfl ?_
    refine W_pick rfl rfl rfl rfl ?_
    refine W_assign rfl rfl rfl ?_
    refine W_end ?_
    refine E_then ?_
    refine C_ret ?_
    obtain rfl := Option.some.inj hm
    refine E_drop (List.Sublist.cons _ (List.Sublist.cons _ (List.Sublist.cons _ (List.Sublist.cons _ (List.Sublist.refl _))))) ?_
    refine E_weak hle105 ?_
    exact end1 rfl rfl ⟨rfl, rfl, rfl⟩
  · have hm := ite_t' hb121 hm
    refine W_move rfl rfl rfl ?_
    refine W_lenO (List.mem_cons_of_mem _ (List.mem_cons_of_mem _ (List.mem_cons_of_mem _ (List.mem_cons_self ..)))) rfl rfl Proofs.Try.runUnderlying25 rfl ?_
    refine W_bin rfl rfl rfl rfl rfl ?_
    refine W_pick rfl rfl rfl rfl ?_
    refine W_move rfl rfl rfl ?_
    cases hb122 : (decide ((r116.1.length : Int) = 2))
    · have hm := ite_f' hb122 hm
      refine W_no rfl rfl rfl ?_
      refine W_no rfl rfl rfl ?_
      refine W_no rfl rfl rfl ?_
      refine W_no rfl rfl rfl ?_
      refine W_no rfl rfl rfl ?_
      refine W_pick rfl rfl rfl rfl ?_
      refine W_move rfl rfl rfl ?_
      refine W_no rfl rfl rfl ?_
      refine W_no rfl rfl rfl ?_
      refine W_no rfl rfl rfl ?_
      refine W_no rfl rfl rfl ?_
      refine W_no rfl rfl rfl ?_
      refine W_pick rfl rfl rfl rfl ?_
      refine W_assign rfl rfl rfl ?_
      refine W_end ?_
      refine E_then ?_
      refine C_ret ?_
      obtain rfl := Option.some.inj hm
      refine E_drop (List.Sublist.cons _ (List.Sublist.cons _ (List.Sublist.cons _ (List.Sublist.cons _ (List.Sublist.refl _))))) ?_
      refine E_weak hle105 ?_
      exact end1 rfl rfl ⟨rfl, rfl, rfl⟩
    · have hm := ite_t' hb122 hm
      refine W_move rfl rfl rfl ?_
      obtain ⟨y123, h124, he125, hm⟩ := idx_some hm
      refine W_indexO (List.mem_cons_of_mem _ (List.mem_cons_of_mem _ (List.mem_cons_of_mem _ (List.mem_cons_self ..)))) rfl rfl Proofs.Try.runUnderlying25 Proofs.Try.sizeOf36 rfl rfl h124 (List.getElem?_eq_some_iff.1 he125).1 ?_
      obtain ⟨_, rfl, hg126⟩ := (h120).elem he125
      refine W_loadAgg (cs := [.bool (y123.Close), .string (y123.Switch)]) rfl rfl Proofs.Try.isAgg36 Proofs.Try.sizeOf36 rfl (row_cells (List.mem_cons_of_mem _ (List.mem_cons_of_mem _ (List.mem_cons_of_mem _ (List.mem_cons_self ..)))) hg126) rfl ?_
      refine W_build (css := [[.string (⟨#[66]⟩)]]) (zs := [.bool (false), .string (⟨#[]⟩)]) (out := [.bool (false), .string (⟨#[66]⟩)]) (places := [(0, 1), (1, 1)]) rfl rfl rfl ⟨rfl, trivial⟩ Proofs.Try.zeroValue36 rfl Proofs.Try.runUnderlying36 (fun w => by kernel_rfl) rfl ?_
      refine W_eqAgg (b := decide (y123.Close = false) && (decide (y123.Switch = (⟨#[66]⟩)) && true)) rfl rfl (by kernel_rfl) rfl rfl (fun w => run_equal_struct (bs := [decide (y123.Close = false), decide (y123.Switch = (⟨#[66]⟩))]) Proofs.Try.runUnderlying36 (by kernel_rfl) ⟨(by decide), (fldEq_bool Proofs.Try.isAgg4 Proofs.Try.runUnderlying4 rfl rfl), (by decide), (fldEq_str Proofs.Try.isAgg9 Proofs.Try.runUnderlying9 rfl rfl), trivial⟩) ?_
      refine W_pick rfl rfl rfl rfl ?_
      refine W_move rfl rfl rfl ?_
      cases hb127 : (decide (y123.Close = false) && (decide (y123.Switch = (⟨#[66]⟩)) && true))
      · have hm := ite_f' hb127 hm
        refine W_no rfl rfl rfl ?_
        refine W_no rfl rfl rfl ?_
        refine W_no rfl rfl rfl ?_
        refine W_no rfl rfl rfl ?_
        refine W_no rfl rfl rfl ?_
        refine W_pick rfl rfl rfl rfl ?_
        refine W_assign rfl rfl rfl ?_
        refine W_end ?_
        refine E_then ?_
        refine C_ret ?_
        obtain rfl := Option.some.inj hm
        refine E_drop (List.Sublist.cons _ (List.Sublist.cons _ (List.Sublist.cons _ (List.Sublist.cons _ (List.Sublist.refl _))))) ?_
        refine E_weak hle105 ?_
        exact end1 rfl rfl ⟨rfl, rfl, rfl⟩
      · have hm := ite_t' hb127 hm
        refine W_move rfl rfl rfl ?_
        obtain ⟨y128, h129, he130, hm⟩ := idx_some hm
        refine W_indexO (List.mem_cons_of_mem _ (List.mem_cons_of_mem _ (List.mem_cons_of_mem _ (List.mem_cons_self ..)))) rfl rfl Proofs.Try.runUnderlying25 Proofs.Try.sizeOf36 rfl rfl h129 (List.getElem?_eq_some_iff.1 he130).1 ?_
        obtain ⟨_, rfl, hg131⟩ := (h120).elem he130
        refine W_loadAgg (cs := [.bool (y128.Close), .string (y128.Switch)]) rfl rfl Proofs.Try.isAgg36 Proofs.Try.sizeOf36 rfl (row_cells (List.mem_cons_of_mem _ (List.mem_cons_of_mem _ (List.mem_cons_of_mem _ (List.mem_cons_self ..)))) hg131) rfl ?_
        refine W_build (css := [[.bool (true)], [.string (⟨#[65]⟩)]]) (zs := [.bool (false), .string (⟨#[]⟩)]) (out := [.bool (true), .string (⟨#[65]⟩)]) (places := [(0, 1), (1, 1)]) rfl rfl rfl ⟨rfl, rfl, trivial⟩ Proofs.Try.zeroValue36 rfl Proofs.Try.runUnderlying36 (fun w => by kernel_rfl) rfl ?_
        refine W_eqAgg (b := decide (y128.Close = true) && (decide (y128.Switch = (⟨#[65]⟩)) && true)) rfl rfl (by kernel_rfl) rfl rfl (fun w => run_equal_struct (bs := [decide (y128.Close = true), decide (y128.Switch = (⟨#[65]⟩))]) Proofs.Try.runUnderlying36 (by kernel_rfl) ⟨(by decide), (fldEq_bool Proofs.Try.isAgg4 Proofs.Try.runUnderlying4 rfl rfl), (by decide), (fldEq_str Proofs.Try.isAgg9 Proofs.Try.runUnderlying9 rfl rfl), trivial⟩) ?_
        refine W_pick rfl rfl rfl rfl ?_
        refine W_assign rfl rfl rfl ?_
        refine W_end ?_
        refine E_then ?_
        refine C_ret ?_
        obtain rfl := Option.some.inj hm
        refine E_drop (List.Sublist.cons _ (List.Sublist.cons _ (List.Sublist.cons _ (List.Sublist.cons _ (List.Sublist.refl _))))) ?_
        refine E_weak hle105 ?_
        exact end1 rfl rfl ⟨rfl, rfl, rfl⟩
end Go.Sim
