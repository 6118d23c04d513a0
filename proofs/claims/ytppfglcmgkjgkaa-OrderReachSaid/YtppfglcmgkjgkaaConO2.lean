/-
  Printed by a program: each Go function computes its model.
-/
import Derived.Test.YtppfglcmgkjgkaaConO1
namespace Go.Sim
open Go
set_option linter.unusedVariables false
set_option linter.unusedSimpArgs false
set_option maxRecDepth 100000
theorem m_interlock_Check_c {B : Nat} {w0 w : World} {H : Hp} {M : List Res} {p0_l : (List S_api_InterlockRule)} {v0 : Value} {r : Int} (hm : m_interlock_Check p0_l = some r) (h0 : RdS H v0 p0_l) (ht : St B w0 H (M) w) :
    Calls Proofs.Try.prog 24 [v0].toArray w (Ret B w0 fun H' M' v => H = H' ∧ M = M' ∧ .int .i64 (r) = v) := by
  unfold m_interlock_Check at hm
  refine enter Proofs.Try.func24 rfl rfl rfl ht ?_
  refine C_seq ?_
  refine C_region ?_
  refine W_assign rfl rfl rfl ?_
  refine W_end ?_
  refine E_then ?_
  refine C_seq ?_
  refine C_seq ?_
  refine C_region ?_
  refine W_move rfl rfl rfl ?_
  refine W_lenR rfl rfl Proofs.Try.runUnderlying22 rfl h0 ?_
  refine W_bin rfl rfl rfl rfl rfl ?_
  refine W_end ?_
  refine E_then ?_
  refine C_cond (b := decide (24 < (p0_l.length : Int))) rfl (fun hb101 => ?_) (fun hb101 => ?_)
  · have hm := ite_t' hb101 hm
    refine C_seq ?_
    refine C_region ?_
    refine W_assign rfl rfl rfl ?_
    refine W_end ?_
    refine E_then ?_
    refine C_ret ?_
    refine E_ret_then ?_
    obtain rfl := Option.some.inj hm
    refine E_weak (Hp.le_refl _) ?_
    exact end1 rfl rfl ⟨rfl, rfl, rfl⟩
  · have hm := ite_f' hb101 hm
    refine C_skip ?_
    refine E_then ?_
    refine C_seq ?_
    refine C_seq ?_
    refine C_region ?_
    refine W_move rfl rfl rfl ?_
    refine W_lenR rfl rfl Proofs.Try.runUnderlying22 rfl h0 ?_
    refine W_move rfl rfl rfl ?_
    refine W_end ?_
    refine E_then ?_
    refine C_block ?_
    refine C_keep (L' := [(9, v0), (10, .int .i64 ((p0_l.length : Int))), (11, .int .i64 (((0 : Nat) : Int)))]) ⟨rfl, rfl, rfl, trivial⟩ (List.Perm.refl _) ?_
    refine C_loop (fun n H' M' L' => ∃ (k102 : Nat) (zs129' : List S_api_InterlockRule), (p0_l).drop k102 = zs129' ∧ zs129'.length = n ∧ forI (fun k y s n => m_interlock_Check_b1 k y n) (fun _ => some 0) k102 zs129' () = some r ∧ H.le H' ∧ M = M' ∧ [(9, v0), (10, .int .i64 ((p0_l.length : Int))), (11, .int .i64 ((k102 : Int)))] = L') _ ⟨0, _, rfl, rfl, hm, (Hp.le_refl _), rfl, rfl⟩ ?_
    rintro _ H123 _ _ ⟨k102, zs129', hd131, rfl, hm, hle124, rfl, rfl⟩
    refine C_seq ?_
    refine C_region ?_
    refine W_bin rfl rfl rfl rfl rfl ?_
    refine W_end (E_then ?_)
    refine C_seq ?_
    refine C_cond (b := decide ((k102 : Int) < (p0_l.length : Int))) rfl (fun hb133 => ?_) (fun hb133 => ?_)
    · obtain ⟨y128, zs129, rfl, hy130, hd132⟩ := rng_t hd131 hb133
      have hm : m_interlock_Check_b1 k102 y128 (forI (fun k y s n => m_interlock_Check_b1 k y n) (fun _ => some 0) (k102 + 1) zs129) = some r := hm
      generalize hn126 : forI (fun k y s n => m_interlock_Check_b1 k y n) (fun _ => some 0) (k102 + 1) zs129 = nx125 at hm
      unfold m_interlock_Check_b1 at hm
      refine C_skip (E_then ?_)
      refine C_seq ?_
      refine C_block ?_
      refine C_seq ?_
      refine C_region ?_
      obtain ⟨_, ⟨v135, rfl, h136⟩, hc134⟩ := (h0).elem hy130
      refine W_indexS rfl rfl Proofs.Try.runUnderlying22 Proofs.Try.sizeOf46 rfl (h0.mono hle124) rfl (Int.natCast_nonneg _) hy130 ?_
      refine W_loadAgg rfl rfl Proofs.Try.isAgg46 Proofs.Try.sizeOf46 rfl (hc134.mono hle124).at rfl ?_
      refine W_alloc (cs := [.bool (false), .string (⟨#[]⟩), .slice none 0 0]) rfl rfl Proofs.Try.zeroValue46 rfl (fun b137 => ?_)
      refine W_store (cs := [.bool (y128.Close), .string (y128.Switch), v135]) (out := [.bool (y128.Close), .string (y128.Switch), v135]) rfl Proofs.Try.sizeOf46 rfl rfl rfl rfl rfl (all_cons rfl (all_cons rfl (all_cons (RdS.one1 (h136.mono hle124)) all_nil))) (over_all rfl) ?_
      refine W_end ?_
      refine E_then ?_
      refine C_seq ?_
      refine C_seq ?_
      refine C_region ?_
      refine W_field (o := 1) rfl rfl Proofs.Try.runUnderlying46 rfl Proofs.Try.sizeOf9 rfl rfl rfl ?_
      refine W_load rfl rfl Proofs.Try.isAgg9 rfl (own_at (List.mem_cons_self ..) rfl) ?_
      obtain ⟨r138, hc139, hm⟩ := bind_some hm
      refine W_call Proofs.Try.call31 rfl rfl rfl (fun w ht => by have h := m_netmodel_Name_c (hm := hc139)  ht; exact h) ?_
      rintro _ _ _ ⟨rfl, rfl, rfl⟩
      refine W_un rfl rfl rfl rfl ?_
      refine W_end ?_
      refine E_then ?_
      refine C_cond (b := !r138) rfl (fun hb140 => ?_) (fun hb140 => ?_)
      · have hm := ite_t' hb140 hm
        refine C_seq ?_
        refine C_region ?_
        refine W_assign rfl rfl rfl ?_
        refine W_end ?_
        refine E_then ?_
        refine C_ret ?_
        refine E_ret_then ?_
        refine E_ret_block ?_
        refine E_ret_then ?_
        refine E_ret_then ?_
        refine E_ret_block ?_
        refine E_ret_then ?_
        obtain rfl := Option.some.inj hm
        refine E_drop (List.Sublist.cons _ (List.Sublist.refl _)) ?_
        refine E_weak hle124 ?_
        exact end1 rfl rfl ⟨rfl, rfl, rfl⟩
      · have hm := ite_f' hb140 hm
        refine C_skip ?_
        refine E_then ?_
        refine C_seq ?_
        refine C_region ?_
        refine W_field (o := 2) rfl rfl Proofs.Try.runUnderlying46 rfl Proofs.Try.sizeOf44 rfl rfl rfl ?_
        refine W_load rfl rfl Proofs.Try.isAgg44 rfl (own_at (List.mem_cons_self ..) rfl) ?_
        obtain ⟨r141, hc142, hm⟩ := bind_some hm
        refine W_call Proofs.Try.call32 rfl rfl rfl (fun w ht => by have h := m_interlock_condition_c (hm := hc142) (h136.mono hle124) ht; exact h) ?_
        rintro _ _ _ ⟨rfl, rfl, rfl⟩
        refine W_assign rfl rfl rfl ?_
        refine W_end ?_
        refine E_then ?_
        refine C_seq ?_
        refine C_region ?_
        refine W_move rfl rfl rfl ?_
        refine W_bin rfl rfl rfl rfl rfl ?_
        refine W_end ?_
        refine E_then ?_
        refine C_cond (b := !decide (r141 = 0)) rfl (fun hb143 => ?_) (fun hb143 => ?_)
        · have hm := ite_t' hb143 hm
          refine C_seq ?_
          refine C_region ?_
          refine W_move rfl rfl rfl ?_
          refine W_assign rfl rfl rfl ?_
          refine W_end ?_
          refine E_then ?_
          refine C_ret ?_
          refine E_ret_block ?_
          refine E_ret_then ?_
          refine E_ret_then ?_
          refine E_ret_block ?_
          refine E_ret_then ?_
          obtain rfl := Option.some.inj hm
          refine E_drop (List.Sublist.cons _ (List.Sublist.refl _)) ?_
          refine E_weak hle124 ?_
          exact end1 rfl rfl ⟨rfl, rfl, rfl⟩
        · have hm := ite_f' hb143 hm
          refine C_skip ?_
          refine E_normal_block ?_
          refine E_then ?_
          refine C_region ?_
          refine W_bin rfl rfl rfl rfl rfl ?_
          refine W_move rfl rfl rfl ?_
          refine W_end ?_
          refine E_drop (List.Sublist.cons _ (List.Sublist.refl _)) ?_
          exact E_keepJ (E_back (Nat.lt_succ_self _) ⟨k102 + 1, zs129, hd132, rfl, (by rw [hn126]; exact hm), hle124, rfl, rfl⟩) (List.Perm.refl _) ⟨rfl, rfl, (congrArg (fun z => some (Value.int .i64 z)) (i64_succ hy130 ((h0.mono hle124)).lenMax)), trivial⟩
    · obtain rfl := rng_f hd131 hb133
      have hm : (some 0) = some r := hm
      refine C_exit (E_exit_then ?_)
      refine E_exit_then ?_
      refine E_exit_hit ?_
      refine E_then ?_
      refine C_seq ?_
      refine C_region ?_
      refine W_assign rfl rfl rfl ?_
      refine W_end ?_
      refine E_then ?_
      refine C_ret ?_
      obtain rfl := Option.some.inj hm
      refine E_weak hle124 ?_
      exact end1 rfl rfl ⟨rfl, rfl, rfl⟩

theorem m_interlock_index_1_c {B : Nat} {w0 w : World} {H : Hp} {M : List Res} {p0_s : S_api_InterlockState} {p1_c1 : ByteArray} {b0 : Nat} {r : Bool} (hm : m_interlock_index_1 p0_s p1_c1 = r) (ht : St B w0 H (.obj b0 (.cells [.string (p1_c1)].toArray 9 (0, 0)) :: M) w) :
    Calls Proofs.Try.prog 37 [.agg [.string (p0_s.Name), .bool (p0_s.Closed)].toArray, .pointer (some ⟨b0, 0, none⟩)].toArray w (Ret B w0 fun H' M' v => H = H' ∧ .obj b0 (.cells [.string (p1_c1)].toArray 9 (0, 0)) :: M = M' ∧ .bool (r) = v) := by
  unfold m_interlock_index_1 at hm
  refine enter Proofs.Try.func37 rfl rfl rfl ht ?_
  refine C_seq ?_
  refine C_region ?_
  refine W_box (cs := [.string (p0_s.Name), .bool (p0_s.Closed)]) rfl rfl rfl rfl (fun b101 => ?_)
  refine W_assign rfl rfl rfl ?_
  refine W_end ?_
  refine E_then ?_
  refine C_seq ?_
  refine C_region ?_
  refine W_field (o := 0) rfl rfl Proofs.Try.runUnderlying33 rfl Proofs.Try.sizeOf9 rfl rfl rfl ?_
  refine W_load rfl rfl Proofs.Try.isAgg9 rfl (own_at (List.mem_cons_self ..) rfl) ?_
  refine W_load rfl rfl Proofs.Try.isAgg9 rfl (own_at (List.mem_cons_of_mem _ (List.mem_cons_self ..)) rfl) ?_
  refine W_bin rfl rfl rfl rfl rfl ?_
  refine W_assign rfl rfl rfl ?_
  refine W_end ?_
  refine E_then ?_
  refine C_ret ?_
  obtain rfl := hm
  refine E_drop (List.Sublist.cons _ (List.Sublist.refl _)) ?_
  refine E_weak (Hp.le_refl _) ?_
  exact end1 rfl rfl ⟨rfl, rfl, rfl⟩

theorem m_slices_IndexFunc_api_InterlockState_api_InterlockState__interlock_index_1_c {B : Nat} {w0 w : World} {H : Hp} {M : List Res} {p0_s : (List S_api_InterlockState)} {p1_f_0 : ByteArray} {v0 : Value} {b0 : Nat} {r : Int} (hm : m_slices_IndexFunc_api_InterlockState_api_InterlockState__interlock_index_1 p0_s p1_f_0 = some r) (h0 : RdS H v0 p0_s) (ht : St B w0 H (.obj b0 (.cells [.string (p1_f_0)].toArray 9 (0, 0)) :: M) w) :
    Calls Proofs.Try.prog 36 [v0, .func (.func 37) [].toArray [.pointer (some ⟨b0, 0, none⟩)].toArray].toArray w (Ret B w0 fun H' M' v => H = H' ∧ .obj b0 (.cells [.string (p1_f_0)].toArray 9 (0, 0)) :: M = M' ∧ .int .i64 (r) = v) := by
  unfold m_slices_IndexFunc_api_InterlockState_api_InterlockState__interlock_index_1 at hm
  refine enter Proofs.Try.func36 rfl rfl rfl ht ?_
  refine C_seq ?_
  refine C_region ?_
  refine W_assign rfl rfl rfl ?_
  refine W_end ?_
  refine E_then ?_
  refine C_seq ?_
  refine C_seq ?_
  refine C_region ?_
  refine W_move rfl rfl rfl ?_
  refine W_lenR rfl rfl Proofs.Try.runUnderlying23 rfl h0 ?_
  refine W_move rfl rfl rfl ?_
  refine W_end ?_
  refine E_then ?_
  refine C_block ?_
  refine C_keep (L' := [(0, v0), (1, .func (.func 37) [].toArray [.pointer (some ⟨b0, 0, none⟩)].toArray), (7, .int .i64 ((p0_s.length : Int))), (8, .int .i64 (((0 : Nat) : Int)))]) ⟨rfl, rfl, rfl, rfl, trivial⟩ (List.Perm.refl _) ?_
  refine C_loop (fun n H' M' L' => ∃ (k101 : Nat) (zs118' : Nat), k101 + zs118' = ((p0_s.length : Int) : Int).toNat ∧ zs118' = n ∧ forN (fun k s n => m_slices_IndexFunc_api_InterlockState_api_InterlockState__interlock_index_1_b1 p0_s p1_f_0 k n) (fun _ => some ((-1))) zs118' k101 () = some r ∧ H.le H' ∧ .obj b0 (.cells [.string (p1_f_0)].toArray 9 (0, 0)) :: M = M' ∧ [(0, v0), (1, .func (.func 37) [].toArray [.pointer (some ⟨b0, 0, none⟩)].toArray), (7, .int .i64 ((p0_s.length : Int))), (8, .int .i64 ((k101 : Int)))] = L') _ ⟨0, _, Nat.zero_add _, rfl, hm, (Hp.le_refl _), rfl, rfl⟩ ?_
  rintro _ H112 _ _ ⟨k101, zs118', hd120, rfl, hm, hle113, rfl, rfl⟩
  refine C_seq ?_
  refine C_region ?_
  refine W_bin rfl rfl rfl rfl rfl ?_
  refine W_end (E_then ?_)
  refine C_seq ?_
  refine C_cond (b := decide ((k101 : Int) < (p0_s.length : Int))) rfl (fun hb122 => ?_) (fun hb122 => ?_)
  · obtain ⟨zs118, rfl, hd121, hy119⟩ := rngN_t hd120 hb122
    have hm : m_slices_IndexFunc_api_InterlockState_api_InterlockState__interlock_index_1_b1 p0_s p1_f_0 k101 (forN (fun k s n => m_slices_IndexFunc_api_InterlockState_api_InterlockState__interlock_index_1_b1 p0_s p1_f_0 k n) (fun _ => some ((-1))) zs118 (k101 + 1)) = some r := hm
    generalize hn115 : forN (fun k s n => m_slices_IndexFunc_api_InterlockState_api_InterlockState__interlock_index_1_b1 p0_s p1_f_0 k n) (fun _ => some ((-1))) zs118 (k101 + 1) = nx114 at hm
    unfold m_slices_IndexFunc_api_InterlockState_api_InterlockState__interlock_index_1_b1 at hm
    refine C_skip (E_then ?_)
    refine C_seq ?_
    refine C_block ?_
    refine C_seq ?_
    refine C_region ?_
    refine W_move rfl rfl rfl ?_
    refine W_assign rfl rfl rfl ?_
    refine W_end ?_
    refine E_then ?_
    refine C_seq ?_
    refine C_region ?_
    refine W_move rfl rfl rfl ?_
    refine W_move rfl rfl rfl ?_
    refine W_move rfl rfl rfl ?_
    obtain ⟨y123, h124, he125, hm⟩ := idx_some hm
    obtain ⟨_, ⟨rfl⟩, hc126⟩ := (h0).elem he125
    refine W_indexS rfl rfl Proofs.Try.runUnderlying23 Proofs.Try.sizeOf33 rfl (h0.mono hle113) rfl h124 he125 ?_
    refine W_loadAgg rfl rfl Proofs.Try.isAgg33 Proofs.Try.sizeOf33 rfl (hc126.mono hle113).at rfl ?_
    refine W_callv Proofs.Try.call37 rfl rfl rfl rfl (fun w ht => by have h := m_interlock_index_1_c (hm := (rfl : m_interlock_index_1 y123 p1_f_0 = _))  ht; exact h) ?_
    rintro _ _ _ ⟨rfl, rfl, rfl⟩
    refine W_end ?_
    refine E_then ?_
    refine C_cond (b := (m_interlock_index_1 y123 p1_f_0)) rfl (fun hb127 => ?_) (fun hb127 => ?_)
    · have hm := ite_t' hb127 hm
      refine C_seq ?_
      refine C_region ?_
      refine W_move rfl rfl rfl ?_
      refine W_assign rfl rfl rfl ?_
      refine W_end ?_
      refine E_then ?_
      refine C_ret ?_
      refine E_ret_block ?_
      refine E_ret_then ?_
      refine E_ret_then ?_
      refine E_ret_block ?_
      refine E_ret_then ?_
      obtain rfl := Option.some.inj hm
      refine E_weak hle113 ?_
      exact end1 rfl rfl ⟨rfl, rfl, rfl⟩
    · have hm := ite_f' hb127 hm
      refine C_skip ?_
      refine E_normal_block ?_
      refine E_then ?_
      refine C_region ?_
      refine W_bin rfl rfl rfl rfl rfl ?_
      refine W_move rfl rfl rfl ?_
      refine W_end ?_
      exact E_keepJ (E_back (Nat.lt_succ_self _) ⟨k101 + 1, zs118, hd121, rfl, (by rw [hn115]; exact hm), hle113, rfl, rfl⟩) (List.Perm.refl _) ⟨rfl, rfl, rfl, (congrArg (fun z => some (Value.int .i64 z)) (i64_succN hy119 (toNat_max (len_max (h0).lenMax)))), trivial⟩
  · obtain rfl := rngN_f hd120 hb122
    have hm : (some ((-1))) = some r := hm
    refine C_exit (E_exit_then ?_)
    refine E_exit_then ?_
    refine E_exit_hit ?_
    refine E_then ?_
    refine C_seq ?_
    refine C_region ?_
    refine W_assign rfl rfl rfl ?_
    refine W_end ?_
    refine E_then ?_
    refine C_ret ?_
    obtain rfl := Option.some.inj hm
    refine E_weak hle113 ?_
    exact end1 rfl rfl ⟨rfl, rfl, rfl⟩

theorem m_interlock_index_c {B : Nat} {w0 w : World} {H : Hp} {M : List Res} {p0_l : (List S_api_InterlockState)} {name : ByteArray} {v0 : Value} {r : Int} (hm : m_interlock_index p0_l name = some r) (h0 : RdS H v0 p0_l) (ht : St B w0 H (M) w) :
    Calls Proofs.Try.prog 33 [v0, .string (name)].toArray w (Ret B w0 fun H' M' v => H = H' ∧ M = M' ∧ .int .i64 (r) = v) := by
  unfold m_interlock_index at hm
  refine enter Proofs.Try.func33 rfl rfl rfl ht ?_
  refine C_seq ?_
  refine C_region ?_
  refine W_box (cs := [.string (name)]) rfl rfl rfl rfl (fun b101 => ?_)
  refine W_assign rfl rfl rfl ?_
  refine W_end ?_
  refine E_then ?_
  refine C_seq ?_
  refine C_region ?_
  refine W_move rfl rfl rfl ?_
  refine W_makeFunc rfl rfl rfl rfl ?_
  obtain ⟨r102, hc103, hm⟩ := bind_some hm
  refine W_call Proofs.Try.call36 rfl rfl rfl (fun w ht => by have h := m_slices_IndexFunc_api_InterlockState_api_InterlockState__interlock_index_1_c (hm := hc103) h0 ht; exact h) ?_
  rintro _ _ _ ⟨rfl, rfl, rfl⟩
  refine W_assign rfl rfl rfl ?_
  refine W_end ?_
  refine E_then ?_
  refine C_ret ?_
  obtain rfl := Option.some.inj hm
  refine E_drop (List.Sublist.cons _ (List.Sublist.refl _)) ?_
  refine E_weak (Hp.le_refl _) ?_
  exact end1 rfl rfl ⟨rfl, rfl, rfl⟩

theorem m_interlock_CheckStates_c {B : Nat} {w0 w : World} {H : Hp} {M : List Res} {p0_l : (List S_api_InterlockState)} {v0 : Value} {r : Int} (hm : m_interlock_CheckStates p0_l = some r) (h0 : RdS H v0 p0_l) (ht : St B w0 H (M) w) :
    Calls Proofs.Try.prog 25 [v0].toArray w (Ret B w0 fun H' M' v => H = H' ∧ M = M' ∧ .int .i64 (r) = v) := by
  unfold m_interlock_CheckStates at hm
  refine enter Proofs.Try.func25 rfl rfl rfl ht ?_
  refine C_seq ?_
  refine C_region ?_
  refine W_assign rfl rfl rfl ?_
  refine W_end ?_
  refine E_then ?_
  refine C_seq ?_
  refine C_seq ?_
  refine C_region ?_
  refine W_move rfl rfl rfl ?_
  refine W_lenR rfl rfl Proofs.Try.runUnderlying23 rfl h0 ?_
  refine W_bin rfl rfl rfl rfl rfl ?_
  refine W_end ?_
  refine E_then ?_
  refine C_cond (b := decide (32 < (p0_l.length : Int))) rfl (fun hb101 => ?_) (fun hb101 => ?_)
  · have hm := ite_t' hb101 hm
    refine C_seq ?_
    refine C_region ?_
    refine W_assign rfl rfl rfl ?_
    refine W_end ?_
    refine E_then ?_
    refine C_ret ?_
    refine E_ret_then ?_
    obtain rfl := Option.some.inj hm
    refine E_weak (Hp.le_refl _) ?_
    exact end1 rfl rfl ⟨rfl, rfl, rfl⟩
  · have hm := ite_f' hb101 hm
    refine C_skip ?_
    refine E_then ?_
    refine C_seq ?_
    refine C_seq ?_
    refine C_region ?_
    refine W_move rfl rfl rfl ?_
    refine W_lenR rfl rfl Proofs.Try.runUnderlying23 rfl h0 ?_
    refine W_move rfl rfl rfl ?_
    refine W_end ?_
    refine E_then ?_
    refine C_block ?_
    refine C_keep (L' := [(0, v0), (8, v0), (9, .int .i64 ((p0_l.length : Int))), (10, .int .i64 (((0 : Nat) : Int)))]) ⟨rfl, rfl, rfl, rfl, trivial⟩ (List.Perm.refl _) ?_
    refine C_loop (fun n H' M' L' => ∃ (k102 : Nat) (zs147' : List S_api_InterlockState), (p0_l).drop k102 = zs147' ∧ zs147'.length = n ∧ forI (fun k y s n => m_interlock_CheckStates_b1 p0_l k y n) (fun _ => some 0) k102 zs147' () = some r ∧ H.le H' ∧ M = M' ∧ [(0, v0), (8, v0), (9, .int .i64 ((p0_l.length : Int))), (10, .int .i64 ((k102 : Int)))] = L') _ ⟨0, _, rfl, rfl, hm, (Hp.le_refl _), rfl, rfl⟩ ?_
    rintro _ H141 _ _ ⟨k102, zs147', hd149, rfl, hm, hle142, rfl, rfl⟩
    refine C_seq ?_
    refine C_region ?_
    refine W_bin rfl rfl rfl rfl rfl ?_
    refine W_end (E_then ?_)
    refine C_seq ?_
    refine C_cond (b := decide ((k102 : Int) < (p0_l.length : Int))) rfl (fun hb151 => ?_) (fun hb151 => ?_)
    · obtain ⟨y146, zs147, rfl, hy148, hd150⟩ := rng_t hd149 hb151
      have hm : m_interlock_CheckStates_b1 p0_l k102 y146 (forI (fun k y s n => m_interlock_CheckStates_b1 p0_l k y n) (fun _ => some 0) (k102 + 1) zs147) = some r := hm
      generalize hn144 : forI (fun k y s n => m_interlock_CheckStates_b1 p0_l k y n) (fun _ => some 0) (k102 + 1) zs147 = nx143 at hm
      unfold m_interlock_CheckStates_b1 at hm
      refine C_skip (E_then ?_)
      refine C_seq ?_
      refine C_block ?_
      refine C_seq ?_
      refine C_region ?_
      refine W_move rfl rfl rfl ?_
      obtain ⟨_, ⟨rfl⟩, hc152⟩ := (h0).elem hy148
      refine W_indexS rfl rfl Proofs.Try.runUnderlying23 Proofs.Try.sizeOf33 rfl (h0.mono hle142) rfl (Int.natCast_nonneg _) hy148 ?_
      refine W_loadAgg rfl rfl Proofs.Try.isAgg33 Proofs.Try.sizeOf33 rfl (hc152.mono hle142).at rfl ?_
      refine W_alloc (cs := [.string (⟨#[]⟩), .bool (false)]) rfl rfl Proofs.Try.zeroValue33 rfl (fun b153 => ?_)
      refine W_assign rfl rfl rfl ?_
      refine W_store (cs := [.string (y146.Name), .bool (y146.Closed)]) (out := [.string (y146.Name), .bool (y146.Closed)]) rfl Proofs.Try.sizeOf33 rfl rfl rfl rfl rfl (all_cons rfl (all_cons rfl all_nil)) (over_all rfl) ?_
      refine W_end ?_
      refine E_then ?_
      refine C_block ?_
      refine C_seq ?_
      refine C_region ?_
      refine W_field (o := 0) rfl rfl Proofs.Try.runUnderlying33 rfl Proofs.Try.sizeOf9 rfl rfl rfl ?_
      refine W_load rfl rfl Proofs.Try.isAgg9 rfl (own_at (List.mem_cons_self ..) rfl) ?_
      obtain ⟨r154, hc155, hm⟩ := bind_some hm
      refine W_call Proofs.Try.call31 rfl rfl rfl (fun w ht => by have h := m_netmodel_Name_c (hm := hc155)  ht; exact h) ?_
      rintro _ _ _ ⟨rfl, rfl, rfl⟩
      refine W_un rfl rfl rfl rfl ?_
      refine W_assign rfl rfl rfl ?_
      refine W_end ?_
      refine E_then ?_
      refine C_cond (b := !r154) rfl (fun hb156 => ?_) (fun hb156 => ?_)
      · have hm := ite_t' hb156 hm
        refine C_seq ?_
        refine C_region ?_
        refine W_assign rfl rfl rfl ?_
        refine W_end ?_
        refine E_then ?_
        refine C_ret ?_
        refine E_ret_block ?_
        refine E_ret_block ?_
        refine E_ret_then ?_
        refine E_ret_then ?_
        refine E_ret_block ?_
        refine E_ret_then ?_
        obtain rfl := Option.some.inj hm
        refine E_drop (List.Sublist.cons _ (List.Sublist.refl _)) ?_
        refine E_weak hle142 ?_
        exact end1 rfl rfl ⟨rfl, rfl, rfl⟩
      · have hm := ite_f' hb156 hm
        refine C_seq ?_
        obtain ⟨hz157, hm⟩ := need_some hm
        refine C_region_tok0 5 (phiT [(fun H rs v => [] = rs ∧ v0 = v), (fun H rs v => [] = rs ∧ .int .i64 ((k102 : Int)) = v), (fun H rs v => ∃ v161 : Value, [] = rs ∧ v161 = v ∧ RdS H v161 (slc p0_l 0 (((k102 : Int) : Int).toNat))), (fun H rs v => [] = rs ∧ .pointer (some ⟨b153, 0, none⟩) = v), (fun H rs v => [] = rs ∧ .string (y146.Name) = v)]) [[], [], [], [], []] [[], [], [], [], []] [] [0, 1, 2, 3, 4] Facts.mixed (by kernel_rfl) rfl rfl rfl (by kernel_rfl) (phiT_mono ⟨eq_monoT _ _, eq_monoT _ _, (by rintro H1 H2 rs v hle ⟨v161, rfl, rfl, h162⟩; exact ⟨v161, rfl, rfl, (h162.mono hle)⟩), eq_monoT _ _, eq_monoT _ _, trivial⟩) ⟨?_, ?_, ?_, ?_, ?_, trivial⟩ ?_
        · intro HX hX X Rest hR
          intro hU
          refine W_move rfl rfl rfl ?_
          exact W_end (OneT_end [] (Hp.le_refl _) ⟨rfl, rfl⟩)
        · intro HX hX X Rest hR
          intro hU
          refine W_move rfl rfl rfl ?_
          exact W_end (OneT_end [] (Hp.le_refl _) ⟨rfl, rfl⟩)
        · intro HX hX X Rest hR
          rintro _ _ ⟨rfl, rfl⟩
          rintro _ _ ⟨rfl, rfl⟩
          intro hU
          refine W_sliceR (α := S_api_InterlockState) (l := 0) (h := ((k102 : Int) : Int).toNat) (xs := p0_l) rfl rfl Proofs.Try.runUnderlying23 Proofs.Try.sizeOf33 rfl ((h0.mono hle142).mono hX) (by omega) (by omega) (.inl rfl) (fun cap hcap => by rw [if_pos rfl]; exact (.inl ⟨rfl, rfl⟩)) (fun m hmm => (.inr ⟨_, _, _, rfl, rfl, by omega, by omega, rfl⟩)) (.inl ⟨rfl, rfl⟩) ?_
          intro v161 h162 hc163
          exact W_end (OneT_end [] (Hp.le_refl _) ⟨v161, rfl, rfl, (h162)⟩)
        · intro HX hX X Rest hR
          intro hU
          refine W_field (o := 0) rfl rfl Proofs.Try.runUnderlying33 rfl Proofs.Try.sizeOf9 rfl rfl rfl ?_
          exact W_end (OneT_end [] (Hp.le_refl _) ⟨rfl, rfl⟩)
        · intro HX hX X Rest hR
          rintro _ _ ⟨rfl, rfl⟩
          intro hU
          refine W_load rfl rfl Proofs.Try.isAgg9 rfl (own_at (hR _ (List.mem_cons_self ..)) rfl) ?_
          exact W_end (OneT_end [] (Hp.le_refl _) ⟨rfl, rfl⟩)
        intro H164 hle165
        rintro _ _ ⟨rfl, rfl⟩
        rintro _ _ ⟨rfl, rfl⟩
        rintro _ _ ⟨v161, rfl, rfl, h162⟩
        rintro _ _ ⟨rfl, rfl⟩
        rintro _ _ ⟨rfl, rfl⟩
        obtain ⟨r166, hc167, hm⟩ := bind_some hm
        refine W_call Proofs.Try.call33 rfl rfl rfl (fun w ht => by have h := m_interlock_index_c (hm := hc167) h162 ht; exact h) ?_
        rintro _ _ _ ⟨rfl, rfl, rfl⟩
        refine W_bin rfl rfl rfl rfl rfl ?_
        refine W_assign rfl rfl rfl ?_
        refine W_end ?_
        refine E_then ?_
        refine C_cond (b := decide (0 ≤ r166)) rfl (fun hb168 => ?_) (fun hb168 => ?_)
        · have hm := ite_t' hb168 hm
          refine C_seq ?_
          refine C_region ?_
          refine W_assign rfl rfl rfl ?_
          refine W_end ?_
          refine E_then ?_
          refine C_ret ?_
          refine E_ret_block ?_
          refine E_ret_block ?_
          refine E_ret_then ?_
          refine E_ret_then ?_
          refine E_ret_block ?_
          refine E_ret_then ?_
          obtain rfl := Option.some.inj hm
          refine E_drop (List.Sublist.cons _ (List.Sublist.refl _)) ?_
          refine E_weak (Hp.le_trans hle142 hle165) ?_
          exact end1 rfl rfl ⟨rfl, rfl, rfl⟩
        · have hm := ite_f' hb168 hm
          refine C_skip ?_
          refine E_normal_block ?_
          refine E_normal_block ?_
          refine E_then ?_
          refine C_region ?_
          refine W_bin rfl rfl rfl rfl rfl ?_
          refine W_move rfl rfl rfl ?_
          refine W_end ?_
          refine E_drop (List.Sublist.cons _ (List.Sublist.refl _)) ?_
          exact E_keepJ (E_back (Nat.lt_succ_self _) ⟨k102 + 1, zs147, hd150, rfl, (by rw [hn144]; exact hm), (Hp.le_trans hle142 hle165), rfl, rfl⟩) (List.Perm.refl _) ⟨rfl, rfl, rfl, (congrArg (fun z => some (Value.int .i64 z)) (i64_succ hy148 ((h0.mono hle142)).lenMax)), trivial⟩
    · obtain rfl := rng_f hd149 hb151
      have hm : (some 0) = some r := hm
      refine C_exit (E_exit_then ?_)
      refine E_exit_then ?_
      refine E_exit_hit ?_
      refine E_then ?_
      refine C_seq ?_
      refine C_region ?_
      refine W_assign rfl rfl rfl ?_
      refine W_end ?_
      refine E_then ?_
      refine C_ret ?_
      obtain rfl := Option.some.inj hm
      refine E_weak hle142 ?_
      exact end1 rfl rfl ⟨rfl, rfl, rfl⟩

theorem m_order_check_1_c {B : Nat} {w0 w : World} {H : Hp} {M : List Res} {p0_a : S_api_InterlockState} {p1_b : S_api_InterlockState} {r : Bool} (hm : m_order_check_1 p0_a p1_b = r) (ht : St B w0 H (M) w) :
    Calls Proofs.Try.prog 30 [.agg [.string (p0_a.Name), .bool (p0_a.Closed)].toArray, .agg [.string (p1_b.Name), .bool (p1_b.Closed)].toArray].toArray w (Ret B w0 fun H' M' v => H = H' ∧ M = M' ∧ .bool (r) = v) := by
  unfold m_order_check_1 at hm
  refine enter Proofs.Try.func30 rfl rfl rfl ht ?_
  refine C_seq ?_
  refine C_region ?_
  refine W_box (cs := [.string (p0_a.Name), .bool (p0_a.Closed)]) rfl rfl rfl rfl (fun b101 => ?_)
  refine W_box (cs := [.string (p1_b.Name), .bool (p1_b.Closed)]) rfl rfl rfl rfl (fun b102 => ?_)
  refine W_assign rfl rfl rfl ?_
  refine W_end ?_
  refine E_then ?_
  refine C_seq ?_
  refine C_region ?_
  refine W_field (o := 0) rfl rfl Proofs.Try.runUnderlying33 rfl Proofs.Try.sizeOf9 rfl rfl rfl ?_
  refine W_load rfl rfl Proofs.Try.isAgg9 rfl (own_at (List.mem_cons_of_mem _ (List.mem_cons_self ..)) rfl) ?_
  refine W_field (o := 0) rfl rfl Proofs.Try.runUnderlying33 rfl Proofs.Try.sizeOf9 rfl rfl rfl ?_
  refine W_load rfl rfl Proofs.Try.isAgg9 rfl (own_at (List.mem_cons_self ..) rfl) ?_
  refine W_bin rfl rfl rfl rfl rfl ?_
  refine W_assign rfl rfl rfl ?_
  refine W_end ?_
  refine E_then ?_
  refine C_ret ?_
  obtain rfl := hm
  refine E_drop (List.Sublist.cons _ (List.Sublist.cons _ (List.Sublist.refl _))) ?_
  refine E_weak (Hp.le_refl _) ?_
  exact end1 rfl rfl ⟨rfl, rfl, rfl⟩

theorem m_slices_EqualFunc_api_InterlockState_api_InterlockState_api_InterlockState_api_InterlockState__order_check_1_c {B : Nat} {w0 w : World} {H : Hp} {M : List Res} {p0_s1 : (List S_api_InterlockState)} {p1_s2 : (List S_api_InterlockState)} {v0 : Value} {v1 : Value} {r : Bool} (hm : m_slices_EqualFunc_api_InterlockState_api_InterlockState_api_InterlockState_api_InterlockState__order_check_1 p0_s1 p1_s2 = some r) (h0 : RdS H v0 p0_s1) (h1 : RdS H v1 p1_s2) (ht : St B w0 H (M) w) :
    Calls Proofs.Try.prog 29 [v0, v1, .func (.func 30) [].toArray [].toArray].toArray w (Ret B w0 fun H' M' v => H = H' ∧ M = M' ∧ .bool (r) = v) := by
  unfold m_slices_EqualFunc_api_InterlockState_api_InterlockState_api_InterlockState_api_InterlockState__order_check_1 at hm
  refine enter Proofs.Try.func29 rfl rfl rfl ht ?_
  refine C_seq ?_
  refine C_region ?_
  refine W_assign rfl rfl rfl ?_
  refine W_end ?_
  refine E_then ?_
  refine C_seq ?_
  refine C_seq ?_
  refine C_region ?_
  refine W_move rfl rfl rfl ?_
  refine W_lenR rfl rfl Proofs.Try.runUnderlying23 rfl h0 ?_
  refine W_move rfl rfl rfl ?_
  refine W_lenR rfl rfl Proofs.Try.runUnderlying23 rfl h1 ?_
  refine W_bin rfl rfl rfl rfl rfl ?_
  refine W_end ?_
  refine E_then ?_
  refine C_cond (b := !decide ((p0_s1.length : Int) = (p1_s2.length : Int))) rfl (fun hb101 => ?_) (fun hb101 => ?_)
  · have hm := ite_t' hb101 hm
    refine C_seq ?_
    refine C_region ?_
    refine W_assign rfl rfl rfl ?_
    refine W_end ?_
    refine E_then ?_
    refine C_ret ?_
    refine E_ret_then ?_
    obtain rfl := Option.some.inj hm
    refine E_weak (Hp.le_refl _) ?_
    exact end1 rfl rfl ⟨rfl, rfl, rfl⟩
  · have hm := ite_f' hb101 hm
    refine C_skip ?_
    refine E_then ?_
    refine C_seq ?_
    refine C_seq ?_
    refine C_region ?_
    refine W_move rfl rfl rfl ?_
    refine W_lenR rfl rfl Proofs.Try.runUnderlying23 rfl h0 ?_
    refine W_move rfl rfl rfl ?_
    refine W_end ?_
    refine E_then ?_
    refine C_block ?_
    refine C_keep (L' := [(1, v1), (2, .func (.func 30) [].toArray [].toArray), (15, v0), (16, .int .i64 ((p0_s1.length : Int))), (17, .int .i64 (((0 : Nat) : Int)))]) ⟨rfl, rfl, rfl, rfl, rfl, trivial⟩ (List.Perm.refl _) ?_
    refine C_loop (fun n H' M' L' => ∃ (k102 : Nat) (zs125' : List S_api_InterlockState), (p0_s1).drop k102 = zs125' ∧ zs125'.length = n ∧ forI (fun k y s n => m_slices_EqualFunc_api_InterlockState_api_InterlockState_api_InterlockState_api_InterlockState__order_check_1_b1 p1_s2 k y n) (fun _ => some true) k102 zs125' () = some r ∧ H.le H' ∧ M = M' ∧ [(1, v1), (2, .func (.func 30) [].toArray [].toArray), (15, v0), (16, .int .i64 ((p0_s1.length : Int))), (17, .int .i64 ((k102 : Int)))] = L') _ ⟨0, _, rfl, rfl, hm, (Hp.le_refl _), rfl, rfl⟩ ?_
    rintro _ H119 _ _ ⟨k102, zs125', hd127, rfl, hm, hle120, rfl, rfl⟩
    refine C_seq ?_
    refine C_region ?_
    refine W_bin rfl rfl rfl rfl rfl ?_
    refine W_end (E_then ?_)
    refine C_seq ?_
    refine C_cond (b := decide ((k102 : Int) < (p0_s1.length : Int))) rfl (fun hb129 => ?_) (fun hb129 => ?_)
    · obtain ⟨y124, zs125, rfl, hy126, hd128⟩ := rng_t hd127 hb129
      have hm : m_slices_EqualFunc_api_InterlockState_api_InterlockState_api_InterlockState_api_InterlockState__order_check_1_b1 p1_s2 k102 y124 (forI (fun k y s n => m_slices_EqualFunc_api_InterlockState_api_InterlockState_api_InterlockState_api_InterlockState__order_check_1_b1 p1_s2 k y n) (fun _ => some true) (k102 + 1) zs125) = some r := hm
      generalize hn122 : forI (fun k y s n => m_slices_EqualFunc_api_InterlockState_api_InterlockState_api_InterlockState_api_InterlockState__order_check_1_b1 p1_s2 k y n) (fun _ => some true) (k102 + 1) zs125 = nx121 at hm
      unfold m_slices_EqualFunc_api_InterlockState_api_InterlockState_api_InterlockState_api_InterlockState__order_check_1_b1 at hm
      refine C_skip (E_then ?_)
      refine C_seq ?_
      refine C_block ?_
      refine C_seq ?_
      refine C_region ?_
      refine W_move rfl rfl rfl ?_
      obtain ⟨_, ⟨rfl⟩, hc130⟩ := (h0).elem hy126
      refine W_indexS rfl rfl Proofs.Try.runUnderlying23 Proofs.Try.sizeOf33 rfl (h0.mono hle120) rfl (Int.natCast_nonneg _) hy126 ?_
      refine W_loadAgg rfl rfl Proofs.Try.isAgg33 Proofs.Try.sizeOf33 rfl (hc130.mono hle120).at rfl ?_
      refine W_alloc (cs := [.string (⟨#[]⟩), .bool (false)]) rfl rfl Proofs.Try.zeroValue33 rfl (fun b131 => ?_)
      refine W_assign rfl rfl rfl ?_
      refine W_store (cs := [.string (y124.Name), .bool (y124.Closed)]) (out := [.string (y124.Name), .bool (y124.Closed)]) rfl Proofs.Try.sizeOf33 rfl rfl rfl rfl rfl (all_cons rfl (all_cons rfl all_nil)) (over_all rfl) ?_
      refine W_end ?_
      refine E_then ?_
      refine C_seq ?_
      refine C_region ?_
      refine W_move rfl rfl rfl ?_
      refine W_move rfl rfl rfl ?_
      obtain ⟨y132, h133, he134, hm⟩ := idx_some hm
      obtain ⟨_, ⟨rfl⟩, hc135⟩ := (h1).elem he134
      refine W_indexS rfl rfl Proofs.Try.runUnderlying23 Proofs.Try.sizeOf33 rfl (h1.mono hle120) rfl h133 he134 ?_
      refine W_loadAgg rfl rfl Proofs.Try.isAgg33 Proofs.Try.sizeOf33 rfl (hc135.mono hle120).at rfl ?_
      refine W_alloc (cs := [.string (⟨#[]⟩), .bool (false)]) rfl rfl Proofs.Try.zeroValue33 rfl (fun b136 => ?_)
      refine W_store (cs := [.string (y132.Name), .bool (y132.Closed)]) (out := [.string (y132.Name), .bool (y132.Closed)]) rfl Proofs.Try.sizeOf33 rfl rfl rfl rfl rfl (all_cons rfl (all_cons rfl all_nil)) (over_all rfl) ?_
      refine W_end ?_
      refine E_then ?_
      refine C_seq ?_
      refine C_region ?_
      refine W_move rfl rfl rfl ?_
      refine W_loadAgg rfl rfl Proofs.Try.isAgg33 Proofs.Try.sizeOf33 rfl (own_all (List.mem_cons_of_mem _ (List.mem_cons_self ..))) rfl ?_
      refine W_loadAgg rfl rfl Proofs.Try.isAgg33 Proofs.Try.sizeOf33 rfl (own_all (List.mem_cons_self ..)) rfl ?_
      refine W_callv Proofs.Try.call30 rfl rfl rfl rfl (fun w ht => by have h := m_order_check_1_c (hm := (rfl : m_order_check_1 y124 y132 = _))  ht; exact h) ?_
      rintro _ _ _ ⟨rfl, rfl, rfl⟩
      refine W_un rfl rfl rfl rfl ?_
      refine W_end ?_
      refine E_then ?_
      refine C_cond (b := !(m_order_check_1 y124 y132)) rfl (fun hb137 => ?_) (fun hb137 => ?_)
      · have hm := ite_t' hb137 hm
        refine C_seq ?_
        refine C_region ?_
        refine W_assign rfl rfl rfl ?_
        refine W_end ?_
        refine E_then ?_
        refine C_ret ?_
        refine E_ret_block ?_
        refine E_ret_then ?_
        refine E_ret_then ?_
        refine E_ret_block ?_
        refine E_ret_then ?_
        obtain rfl := Option.some.inj hm
        refine E_drop (List.Sublist.cons _ (List.Sublist.cons _ (List.Sublist.refl _))) ?_
        refine E_weak hle120 ?_
        exact end1 rfl rfl ⟨rfl, rfl, rfl⟩
      · have hm := ite_f' hb137 hm
        refine C_skip ?_
        refine E_normal_block ?_
        refine E_then ?_
        refine C_region ?_
        refine W_bin rfl rfl rfl rfl rfl ?_
        refine W_move rfl rfl rfl ?_
        refine W_end ?_
        refine E_drop (List.Sublist.cons _ (List.Sublist.cons _ (List.Sublist.refl _))) ?_
        exact E_keepJ (E_back (Nat.lt_succ_self _) ⟨k102 + 1, zs125, hd128, rfl, (by rw [hn122]; exact hm), hle120, rfl, rfl⟩) (List.Perm.refl _) ⟨rfl, rfl, rfl, rfl, (congrArg (fun z => some (Value.int .i64 z)) (i64_succ hy126 ((h0.mono hle120)).lenMax)), trivial⟩
    · obtain rfl := rng_f hd127 hb129
      have hm : (some true) = some r := hm
      refine C_exit (E_exit_then ?_)
      refine E_exit_then ?_
      refine E_exit_hit ?_
      refine E_then ?_
      refine C_seq ?_
      refine C_region ?_
      refine W_assign rfl rfl rfl ?_
      refine W_end ?_
      refine E_then ?_
      refine C_ret ?_
      obtain rfl := Option.some.inj hm
      refine E_weak hle120 ?_
      exact end1 rfl rfl ⟨rfl, rfl, rfl⟩

theorem m_order_check_c {B : Nat} {w0 w : World} {H : Hp} {M : List Res} {rules : (List S_api_InterlockRule)} {p1_from : (List S_api_InterlockState)} {to : (List S_api_InterlockState)} {held : (List ByteArray)} {v0 : Value} {v1 : Value} {v2 : Value} {v3 : Value} {r : Int} (hm : m_order_check rules p1_from to held = some r) (h0 : RdS H v0 rules) (h1 : RdS H v1 p1_from) (h2 : RdS H v2 to) (h3 : RdS H v3 held) (ht : St B w0 H (M) w) :
    Calls Proofs.Try.prog 18 [v0, v1, v2, v3].toArray w (Ret B w0 fun H' M' v => H = H' ∧ M = M' ∧ .int .i64 (r) = v) := by
  unfold m_order_check at hm
  refine enter Proofs.Try.func18 rfl rfl rfl ht ?_
  refine C_seq ?_
  refine C_region ?_
  refine W_assign rfl rfl rfl ?_
  refine W_end ?_
  refine E_then ?_
  refine C_seq ?_
  refine C_seq ?_
  refine C_region ?_
  refine W_move rfl rfl rfl ?_
  obtain ⟨r101, hc102, hm⟩ := bind_some hm
  refine W_call Proofs.Try.call24 rfl rfl rfl (fun w ht => by have h := m_interlock_Check_c (hm := hc102) h0 ht; exact h) ?_
  rintro _ _ _ ⟨rfl, rfl, rfl⟩
  refine W_assign rfl rfl rfl ?_
  refine W_end ?_
  refine E_then ?_
  refine C_seq ?_
  refine C_region ?_
  refine W_move rfl rfl rfl ?_
  refine W_bin rfl rfl rfl rfl rfl ?_
  refine W_end ?_
  refine E_then ?_
  refine C_cond (b := !decide (r101 = 0)) rfl (fun hb103 => ?_) (fun hb103 => ?_)
  · have hm := ite_t' hb103 hm
    refine C_seq ?_
    refine C_region ?_
    refine W_move rfl rfl rfl ?_
    refine W_assign rfl rfl rfl ?_
    refine W_end ?_
    refine E_then ?_
    refine C_ret ?_
    refine E_ret_then ?_
    obtain rfl := Option.some.inj hm
    refine E_weak (Hp.le_refl _) ?_
    exact end1 rfl rfl ⟨rfl, rfl, rfl⟩
  · have hm := ite_f' hb103 hm
    refine C_skip ?_
    refine E_then ?_
    refine C_seq ?_
    refine C_seq ?_
    refine C_region ?_
    refine W_move rfl rfl rfl ?_
    refine W_move rfl rfl rfl ?_
    refine W_buildSliceO (α := (List S_api_InterlockState)) (css := [[v1], [v2]]) (zs := [.slice none 0 0, .slice none 0 0]) (out := [v1, v2]) (ys := [p1_from, to]) rfl rfl rfl ⟨(RdS.cells h1), (RdS.cells h2), trivial⟩ Proofs.Try.runUnderlying69 Proofs.Try.sizeOf23 rfl Proofs.Try.zeroValue23 (by kernel_rfl) rfl rfl rfl rfl ⟨[v1], [v2], rfl, ⟨v1, rfl, h1⟩, ⟨[v2], [], rfl, ⟨v2, rfl, h2⟩, rfl⟩⟩ rfl ?_
    intro v104 xs105 hr106
    refine W_lenO (List.mem_cons_self ..) rfl rfl Proofs.Try.runUnderlying69 rfl ?_
    refine W_move rfl rfl rfl ?_
    refine W_end ?_
    refine E_then ?_
    refine C_block ?_
    refine C_rowMax (List.mem_cons_self ..) (fun hmx125 => ?_)
    refine C_keep (L' := [(1, v1), (2, v2), (3, v3), (20, v104), (21, .int .i64 ((([p1_from, to]).length : Int))), (22, .int .i64 (((0 : Nat) : Int)))]) ⟨rfl, rfl, rfl, rfl, rfl, rfl, trivial⟩ (List.Perm.refl _) ?_
    refine C_loop (fun n H' M' L' => ∃ (k107 : Nat) (zs127' : List (List S_api_InterlockState)), ([p1_from, to]).drop k107 = zs127' ∧ zs127'.length = n ∧ forI (fun k y s n => m_order_check_b1 k y n) (fun _ => if (decide (8 < (p1_from.length : Int))) || (decide (256 < (held.length : Int))) then (some 2) else ((m_slices_EqualFunc_api_InterlockState_api_InterlockState_api_InterlockState_api_InterlockState__order_check_1 p1_from to).bind fun r141 => if !r141 then (some 3) else (some 0))) k107 zs127' () = some r ∧ H.le H' ∧ .row v104 23 (Rep.sz (List S_api_InterlockState)) ([p1_from, to]).length xs105 :: M = M' ∧ [(1, v1), (2, v2), (3, v3), (20, v104), (21, .int .i64 ((([p1_from, to]).length : Int))), (22, .int .i64 ((k107 : Int)))] = L') _ ⟨0, _, rfl, rfl, hm, (Hp.le_refl _), rfl, rfl⟩ ?_
    rintro _ H120 _ _ ⟨k107, zs127', hd129, rfl, hm, hle121, rfl, rfl⟩
    refine C_seq ?_
    refine C_region ?_
    refine W_bin rfl rfl rfl rfl rfl ?_
    refine W_end (E_then ?_)
    refine C_seq ?_
    refine C_cond (b := decide ((k107 : Int) < (([p1_from, to]).length : Int))) rfl (fun hb131 => ?_) (fun hb131 => ?_)
    · obtain ⟨y126, zs127, rfl, hy128, hd130⟩ := rng_t hd129 hb131
      have hm : m_order_check_b1 k107 y126 (forI (fun k y s n => m_order_check_b1 k y n) (fun _ => if (decide (8 < (p1_from.length : Int))) || (decide (256 < (held.length : Int))) then (some 2) else ((m_slices_EqualFunc_api_InterlockState_api_InterlockState_api_InterlockState_api_InterlockState__order_check_1 p1_from to).bind fun r141 => if !r141 then (some 3) else (some 0))) (k107 + 1) zs127) = some r := hm
      generalize hn123 : forI (fun k y s n => m_order_check_b1 k y n) (fun _ => if (decide (8 < (p1_from.length : Int))) || (decide (256 < (held.length : Int))) then (some 2) else ((m_slices_EqualFunc_api_InterlockState_api_InterlockState_api_InterlockState_api_InterlockState__order_check_1 p1_from to).bind fun r141 => if !r141 then (some 3) else (some 0))) (k107 + 1) zs127 = nx122 at hm
      unfold m_order_check_b1 at hm
      refine C_skip (E_then ?_)
      refine C_seq ?_
      refine C_block ?_
      refine C_seq ?_
      refine C_region ?_
      refine W_indexO (List.mem_cons_self ..) rfl rfl Proofs.Try.runUnderlying69 Proofs.Try.sizeOf23 rfl rfl (Int.natCast_nonneg _) (List.getElem?_eq_some_iff.1 hy128).1 ?_
      obtain ⟨_, ⟨v133, rfl, h134⟩, hg132⟩ := (hr106).elem hy128
      refine W_load rfl rfl Proofs.Try.isAgg23 rfl (row_one0 (List.mem_cons_self ..) hg132 rfl) ?_
      refine W_assign rfl rfl rfl ?_
      refine W_end ?_
      refine E_then ?_
      refine C_seq ?_
      refine C_region ?_
      refine W_move rfl rfl rfl ?_
      obtain ⟨r135, hc136, hm⟩ := bind_some hm
      refine W_call Proofs.Try.call25 rfl rfl rfl (fun w ht => by have h := m_interlock_CheckStates_c (hm := hc136) (h134.mono hle121) ht; exact h) ?_
      rintro _ _ _ ⟨rfl, rfl, rfl⟩
      refine W_assign rfl rfl rfl ?_
      refine W_end ?_
      refine E_then ?_
      refine C_seq ?_
      refine C_region ?_
      refine W_move rfl rfl rfl ?_
      refine W_bin rfl rfl rfl rfl rfl ?_
      refine W_end ?_
      refine E_then ?_
      refine C_cond (b := !decide (r135 = 0)) rfl (fun hb137 => ?_) (fun hb137 => ?_)
      · have hm := ite_t' hb137 hm
        refine C_seq ?_
        refine C_region ?_
        refine W_move rfl rfl rfl ?_
        refine W_assign rfl rfl rfl ?_
        refine W_end ?_
        refine E_then ?_
        refine C_ret ?_
        refine E_ret_block ?_
        refine E_ret_then ?_
        refine E_ret_then ?_
        refine E_ret_block ?_
        refine E_ret_then ?_
        obtain rfl := Option.some.inj hm
        refine E_drop (List.Sublist.cons _ (List.Sublist.refl _)) ?_
        refine E_weak hle121 ?_
        exact end1 rfl rfl ⟨rfl, rfl, rfl⟩
      · have hm := ite_f' hb137 hm
        refine C_skip ?_
        refine E_normal_block ?_
        refine E_then ?_
        refine C_region ?_
        refine W_bin rfl rfl rfl rfl rfl ?_
        refine W_move rfl rfl rfl ?_
        refine W_end ?_
        exact E_keepJ (E_back (Nat.lt_succ_self _) ⟨k107 + 1, zs127, hd130, rfl, (by rw [hn123]; exact hm), hle121, rfl, rfl⟩) (List.Perm.refl _) ⟨rfl, rfl, rfl, rfl, rfl, (congrArg (fun z => some (Value.int .i64 z)) (i64_succ hy128 hmx125)), trivial⟩
    · obtain rfl := rng_f hd129 hb131
      have hm : (if (decide (8 < (p1_from.length : Int))) || (decide (256 < (held.length : Int))) then (some 2) else ((m_slices_EqualFunc_api_InterlockState_api_InterlockState_api_InterlockState_api_InterlockState__order_check_1 p1_from to).bind fun r141 => if !r141 then (some 3) else (some 0))) = some r := hm
      refine C_exit (E_exit_then ?_)
      refine E_exit_then ?_
      refine E_exit_hit ?_
      refine E_then ?_
      refine C_seq ?_
      refine C_seq_join (fun H' M' L' => H120 = H' ∧ M = M' ∧ [(1, v1), (2, v2), (39, .bool ((decide (8 < (p1_from.length : Int))) || (decide (256 < (held.length : Int)))))] = L') ?_ (fun J139 => ?_)
      · rintro _ _ _ ⟨rfl, rfl, rfl⟩
        refine C_cond (b := (decide (8 < (p1_from.length : Int))) || (decide (256 < (held.length : Int)))) rfl (fun hb140 => ?_) (fun hb140 => ?_)
        · have hm := ite_t' hb140 hm
          refine C_seq ?_
          refine C_region ?_
          refine W_assign rfl rfl rfl ?_
          refine W_end ?_
          refine E_then ?_
          refine C_ret ?_
          refine E_ret_then ?_
          obtain rfl := Option.some.inj hm
          refine E_weak hle121 ?_
          exact end1 rfl rfl ⟨rfl, rfl, rfl⟩
        · have hm := ite_f' hb140 hm
          refine C_skip ?_
          refine E_then ?_
          refine C_seq ?_
          refine C_seq ?_
          refine C_region ?_
          refine W_move rfl rfl rfl ?_
          refine W_move rfl rfl rfl ?_
          obtain ⟨r141, hc142, hm⟩ := bind_some hm
          refine W_call Proofs.Try.call29 rfl rfl rfl (fun w ht => by have h := m_slices_EqualFunc_api_InterlockState_api_InterlockState_api_InterlockState_api_InterlockState__order_check_1_c (hm := hc142) (h1.mono hle121) (h2.mono hle121) ht; exact h) ?_
          rintro _ _ _ ⟨rfl, rfl, rfl⟩
          refine W_un rfl rfl rfl rfl ?_
          refine W_end ?_
          refine E_then ?_
          refine C_cond (b := !r141) rfl (fun hb143 => ?_) (fun hb143 => ?_)
          · have hm := ite_t' hb143 hm
            refine C_seq ?_
            refine C_region ?_
            refine W_assign rfl rfl rfl ?_
            refine W_end ?_
            refine E_then ?_
            refine C_ret ?_
            refine E_ret_then ?_
            obtain rfl := Option.some.inj hm
            refine E_weak hle121 ?_
            exact end1 rfl rfl ⟨rfl, rfl, rfl⟩
          · have hm := ite_f' hb143 hm
            refine C_skip ?_
            refine E_then ?_
            refine C_seq ?_
            refine C_region ?_
            refine W_assign rfl rfl rfl ?_
            refine W_end ?_
            refine E_then ?_
            refine C_ret ?_
            obtain rfl := Option.some.inj hm
            refine E_weak hle121 ?_
            exact end1 rfl rfl ⟨rfl, rfl, rfl⟩
      · refine C_region ?_
        refine W_move rfl rfl rfl ?_
        refine W_lenR rfl rfl Proofs.Try.runUnderlying23 rfl (h1.mono hle121) ?_
        refine W_bin rfl rfl rfl rfl rfl ?_
        refine W_move rfl rfl rfl ?_
        cases hb144 : (decide (8 < (p1_from.length : Int)))
        · refine W_move rfl rfl rfl ?_
          refine W_lenR rfl rfl Proofs.Try.runUnderlying24 rfl (h3.mono hle121) ?_
          refine W_bin rfl rfl rfl rfl rfl ?_
          refine W_pick rfl rfl rfl rfl ?_
          refine W_end ?_
          refine E_drop (List.Sublist.cons _ (List.Sublist.refl _)) ?_
          exact E_keepJ (J139 _ _ _ ⟨rfl, rfl, rfl⟩) (List.Perm.refl _) ⟨rfl, rfl, (by show some (Value.bool (decide (256 < (held.length : Int)))) = some (Value.bool ((decide (8 < (p1_from.length : Int))) || (decide (256 < (held.length : Int))))); simp only [hb103, hb144, Bool.and_true, Bool.true_and, Bool.false_and, Bool.and_false, Bool.or_true, Bool.true_or, Bool.or_false, Bool.false_or, Bool.not_true, Bool.not_false]), trivial⟩
        · refine W_no rfl rfl rfl ?_
          refine W_no rfl rfl rfl ?_
          refine W_no rfl rfl rfl ?_
          refine W_pick rfl rfl rfl rfl ?_
          refine W_end ?_
          refine E_drop (List.Sublist.cons _ (List.Sublist.refl _)) ?_
          exact E_keepJ (J139 _ _ _ ⟨rfl, rfl, rfl⟩) (List.Perm.refl _) ⟨rfl, rfl, (by show some (Value.bool (true)) = some (Value.bool ((decide (8 < (p1_from.length : Int))) || (decide (256 < (held.length : Int))))); simp only [hb103, hb144, Bool.and_true, Bool.true_and, Bool.false_and, Bool.and_false, Bool.or_true, Bool.true_or, Bool.or_false, Bool.false_or, Bool.not_true, Bool.not_false]), trivial⟩

theorem m_order_code_c {B : Nat} {w0 w : World} {H : Hp} {M : List Res} {p0_l : (List S_api_InterlockState)} {v0 : Value} {r : Int} (hm : m_order_code p0_l = some r) (h0 : RdS H v0 p0_l) (ht : St B w0 H (M) w) :
    Calls Proofs.Try.prog 20 [v0].toArray w (Ret B w0 fun H' M' v => H = H' ∧ M = M' ∧ .int .i64 (r) = v) := by
  unfold m_order_code at hm
  refine enter Proofs.Try.func20 rfl rfl rfl ht ?_
  refine C_seq ?_
  refine C_region ?_
  refine W_assign rfl rfl rfl ?_
  refine W_end ?_
  refine E_then ?_
  refine C_seq ?_
  refine C_region ?_
  refine W_assign rfl rfl rfl ?_
  refine W_end ?_
  refine E_then ?_
  refine C_seq ?_
  refine C_seq ?_
  refine C_region ?_
  refine W_move rfl rfl rfl ?_
  refine W_lenR rfl rfl Proofs.Try.runUnderlying23 rfl h0 ?_
  refine W_move rfl rfl rfl ?_
  refine W_end ?_
  refine E_then ?_
  refine C_block ?_
  refine C_keep (L' := [(3, .int .i64 (0)), (6, v0), (7, .int .i64 ((p0_l.length : Int))), (8, .int .i64 (((0 : Nat) : Int)))]) ⟨rfl, rfl, rfl, rfl, trivial⟩ (List.Perm.refl _) ?_
  refine C_loop (fun n H' M' L' => ∃ (k101 : Nat) (zs131' : List S_api_InterlockState), ∃ n124 : Int, (p0_l).drop k101 = zs131' ∧ zs131'.length = n ∧ forI (fun k y s n => m_order_code_b3 k y s n) (fun s => some s) k101 zs131' n124 = some r ∧ H.le H' ∧ M = M' ∧ [(3, .int .i64 (n124)), (6, v0), (7, .int .i64 ((p0_l.length : Int))), (8, .int .i64 ((k101 : Int)))] = L') _ ⟨0, _, 0, rfl, rfl, hm, (Hp.le_refl _), rfl, rfl⟩ ?_
  rintro _ H125 _ _ ⟨k101, zs131', n124, hd133, rfl, hm, hle126, rfl, rfl⟩
  refine C_seq ?_
  refine C_region ?_
  refine W_bin rfl rfl rfl rfl rfl ?_
  refine W_end (E_then ?_)
  refine C_seq ?_
  refine C_cond (b := decide ((k101 : Int) < (p0_l.length : Int))) rfl (fun hb135 => ?_) (fun hb135 => ?_)
  · obtain ⟨y130, zs131, rfl, hy132, hd134⟩ := rng_t hd133 hb135
    have hm : m_order_code_b3 k101 y130 n124 (forI (fun k y s n => m_order_code_b3 k y s n) (fun s => some s) (k101 + 1) zs131) = some r := hm
    generalize hn128 : forI (fun k y s n => m_order_code_b3 k y s n) (fun s => some s) (k101 + 1) zs131 = nx127 at hm
    unfold m_order_code_b3 at hm
    refine C_skip (E_then ?_)
    refine C_seq_join (fun H' M' L' => ∃ n140 : Int, m_order_code_b4 nx127 n140 = some r ∧ H125 = H' ∧ M = M' ∧ [(3, .int .i64 (n140)), (6, v0), (7, .int .i64 ((p0_l.length : Int))), (8, .int .i64 ((k101 : Int)))] = L') ?_ (fun J141 => ?_)
    · rintro _ _ _ ⟨n140, hm, rfl, rfl, rfl⟩
      unfold m_order_code_b4 at hm
      refine C_region ?_
      refine W_bin rfl rfl rfl rfl rfl ?_
      refine W_move rfl rfl rfl ?_
      refine W_end ?_
      exact E_keepJ (E_back (Nat.lt_succ_self _) ⟨k101 + 1, zs131, n140, hd134, rfl, (by rw [hn128]; exact hm), hle126, rfl, rfl⟩) (List.Perm.refl _) ⟨rfl, rfl, rfl, (congrArg (fun z => some (Value.int .i64 z)) (i64_succ hy132 ((h0.mono hle126)).lenMax)), trivial⟩
    · refine C_block ?_
      refine C_seq ?_
      refine C_region ?_
      refine W_move rfl rfl rfl ?_
      obtain ⟨_, ⟨rfl⟩, hc142⟩ := (h0).elem hy132
      refine W_indexS rfl rfl Proofs.Try.runUnderlying23 Proofs.Try.sizeOf33 rfl (h0.mono hle126) rfl (Int.natCast_nonneg _) hy132 ?_
      refine W_loadAgg rfl rfl Proofs.Try.isAgg33 Proofs.Try.sizeOf33 rfl (hc142.mono hle126).at rfl ?_
      refine W_alloc (cs := [.string (⟨#[]⟩), .bool (false)]) rfl rfl Proofs.Try.zeroValue33 rfl (fun b143 => ?_)
      refine W_assign rfl rfl rfl ?_
      refine W_store (cs := [.string (y130.Name), .bool (y130.Closed)]) (out := [.string (y130.Name), .bool (y130.Closed)]) rfl Proofs.Try.sizeOf33 rfl rfl rfl rfl rfl (all_cons rfl (all_cons rfl all_nil)) (over_all rfl) ?_
      refine W_end ?_
      refine E_then ?_
      refine C_seq ?_
      refine C_region ?_
      refine W_field (o := 1) rfl rfl Proofs.Try.runUnderlying33 rfl Proofs.Try.sizeOf4 rfl rfl rfl ?_
      refine W_load rfl rfl Proofs.Try.isAgg4 rfl (own_at (List.mem_cons_self ..) rfl) ?_
      refine W_end ?_
      refine E_then ?_
      refine C_cond (b := y130.Closed) rfl (fun hb144 => ?_) (fun hb144 => ?_)
      · have hm := ite_t' hb144 hm
        refine C_region ?_
        refine W_move rfl rfl rfl ?_
        refine W_move rfl rfl rfl ?_
        obtain ⟨hq145, hm⟩ := need_some hm
        refine W_shl rfl rfl rfl rfl hq145 ?_
        refine W_bin rfl rfl rfl rfl rfl ?_
        refine W_assign rfl rfl rfl ?_
        refine W_end ?_
        refine E_normal_block ?_
        refine E_drop (List.Sublist.cons _ (List.Sublist.refl _)) ?_
        exact E_keepJ (J141 _ _ _ ⟨IntKind.i64.wrap ((BitVec.ofInt (IntKind.i64).bits n124 ||| BitVec.ofInt (IntKind.i64).bits (shlV .i64 1 (k101 : Int))).toNat), hm, rfl, rfl, rfl⟩) (List.Perm.refl _) ⟨rfl, rfl, rfl, rfl, trivial⟩
      · have hm := ite_f' hb144 hm
        refine C_skip ?_
        refine E_normal_block ?_
        refine E_drop (List.Sublist.cons _ (List.Sublist.refl _)) ?_
        exact E_keepJ (J141 _ _ _ ⟨n124, hm, rfl, rfl, rfl⟩) (List.Perm.refl _) ⟨rfl, rfl, rfl, rfl, trivial⟩
  · obtain rfl := rng_f hd133 hb135
    have hm : (some n124) = some r := hm
    refine C_exit (E_exit_then ?_)
    refine E_exit_then ?_
    refine E_exit_hit ?_
    refine E_then ?_
    refine C_seq ?_
    refine C_region ?_
    refine W_move rfl rfl rfl ?_
    refine W_assign rfl rfl rfl ?_
    refine W_end ?_
    refine E_then ?_
    refine C_ret ?_
    obtain rfl := Option.some.inj hm
    refine E_weak hle126 ?_
    exact end1 rfl rfl ⟨rfl, rfl, rfl⟩

theorem m_slices_Index_string_string_c {B : Nat} {w0 w : World} {H : Hp} {M : List Res} {p0_s : (List ByteArray)} {p1_v : ByteArray} {v0 : Value} {r : Int} (hm : m_slices_Index_string_string p0_s p1_v = some r) (h0 : RdS H v0 p0_s) (ht : St B w0 H (M) w) :
    Calls Proofs.Try.prog 34 [v0, .string (p1_v)].toArray w (Ret B w0 fun H' M' v => H = H' ∧ M = M' ∧ .int .i64 (r) = v) := by
  unfold m_slices_Index_string_string at hm
  refine enter Proofs.Try.func34 rfl rfl rfl ht ?_
  refine C_seq ?_
  refine C_region ?_
  refine W_assign rfl rfl rfl ?_
  refine W_end ?_
  refine E_then ?_
  refine C_seq ?_
  refine C_seq ?_
  refine C_region ?_
  refine W_move rfl rfl rfl ?_
  refine W_lenR rfl rfl Proofs.Try.runUnderlying24 rfl h0 ?_
  refine W_move rfl rfl rfl ?_
  refine W_end ?_
  refine E_then ?_
  refine C_block ?_
  refine C_keep (L' := [(0, v0), (1, .string (p1_v)), (7, .int .i64 ((p0_s.length : Int))), (8, .int .i64 (((0 : Nat) : Int)))]) ⟨rfl, rfl, rfl, rfl, trivial⟩ (List.Perm.refl _) ?_
  refine C_loop (fun n H' M' L' => ∃ (k101 : Nat) (zs118' : Nat), k101 + zs118' = ((p0_s.length : Int) : Int).toNat ∧ zs118' = n ∧ forN (fun k s n => m_slices_Index_string_string_b1 p0_s p1_v k n) (fun _ => some ((-1))) zs118' k101 () = some r ∧ H.le H' ∧ M = M' ∧ [(0, v0), (1, .string (p1_v)), (7, .int .i64 ((p0_s.length : Int))), (8, .int .i64 ((k101 : Int)))] = L') _ ⟨0, _, Nat.zero_add _, rfl, hm, (Hp.le_refl _), rfl, rfl⟩ ?_
  rintro _ H112 _ _ ⟨k101, zs118', hd120, rfl, hm, hle113, rfl, rfl⟩
  refine C_seq ?_
  refine C_region ?_
  refine W_bin rfl rfl rfl rfl rfl ?_
  refine W_end (E_then ?_)
  refine C_seq ?_
  refine C_cond (b := decide ((k101 : Int) < (p0_s.length : Int))) rfl (fun hb122 => ?_) (fun hb122 => ?_)
  · obtain ⟨zs118, rfl, hd121, hy119⟩ := rngN_t hd120 hb122
    have hm : m_slices_Index_string_string_b1 p0_s p1_v k101 (forN (fun k s n => m_slices_Index_string_string_b1 p0_s p1_v k n) (fun _ => some ((-1))) zs118 (k101 + 1)) = some r := hm
    generalize hn115 : forN (fun k s n => m_slices_Index_string_string_b1 p0_s p1_v k n) (fun _ => some ((-1))) zs118 (k101 + 1) = nx114 at hm
    unfold m_slices_Index_string_string_b1 at hm
    refine C_skip (E_then ?_)
    refine C_seq ?_
    refine C_block ?_
    refine C_seq ?_
    refine C_region ?_
    refine W_move rfl rfl rfl ?_
    refine W_assign rfl rfl rfl ?_
    refine W_end ?_
    refine E_then ?_
    refine C_seq ?_
    refine C_region ?_
    refine W_move rfl rfl rfl ?_
    refine W_move rfl rfl rfl ?_
    refine W_move rfl rfl rfl ?_
    obtain ⟨y123, h124, he125, hm⟩ := idx_some hm
    obtain ⟨_, rfl, hc126⟩ := (h0).elem he125
    refine W_indexS rfl rfl Proofs.Try.runUnderlying24 Proofs.Try.sizeOf9 rfl (h0.mono hle113) rfl h124 he125 ?_
    refine W_load rfl rfl Proofs.Try.isAgg9 rfl (HCells.one (hc126.mono hle113) 0 rfl).at ?_
    refine W_bin rfl rfl rfl rfl rfl ?_
    refine W_end ?_
    refine E_then ?_
    refine C_cond (b := decide (p1_v = y123)) rfl (fun hb127 => ?_) (fun hb127 => ?_)
    · have hm := ite_t' hb127 hm
      refine C_seq ?_
      refine C_region ?_
      refine W_move rfl rfl rfl ?_
      refine W_assign rfl rfl rfl ?_
      refine W_end ?_
      refine E_then ?_
      refine C_ret ?_
      refine E_ret_block ?_
      refine E_ret_then ?_
      refine E_ret_then ?_
      refine E_ret_block ?_
      refine E_ret_then ?_
      obtain rfl := Option.some.inj hm
      refine E_weak hle113 ?_
      exact end1 rfl rfl ⟨rfl, rfl, rfl⟩
    · have hm := ite_f' hb127 hm
      refine C_skip ?_
      refine E_normal_block ?_
      refine E_then ?_
      refine C_region ?_
      refine W_bin rfl rfl rfl rfl rfl ?_
      refine W_move rfl rfl rfl ?_
      refine W_end ?_
      exact E_keepJ (E_back (Nat.lt_succ_self _) ⟨k101 + 1, zs118, hd121, rfl, (by rw [hn115]; exact hm), hle113, rfl, rfl⟩) (List.Perm.refl _) ⟨rfl, rfl, rfl, (congrArg (fun z => some (Value.int .i64 z)) (i64_succN hy119 (toNat_max (len_max (h0).lenMax)))), trivial⟩
  · obtain rfl := rngN_f hd120 hb122
    have hm : (some ((-1))) = some r := hm
    refine C_exit (E_exit_then ?_)
    refine E_exit_then ?_
    refine E_exit_hit ?_
    refine E_then ?_
    refine C_seq ?_
    refine C_region ?_
    refine W_assign rfl rfl rfl ?_
    refine W_end ?_
    refine E_then ?_
    refine C_ret ?_
    obtain rfl := Option.some.inj hm
    refine E_weak hle113 ?_
    exact end1 rfl rfl ⟨rfl, rfl, rfl⟩

theorem m_slices_Contains_string_string_c {B : Nat} {w0 w : World} {H : Hp} {M : List Res} {p0_s : (List ByteArray)} {p1_v : ByteArray} {v0 : Value} {r : Bool} (hm : m_slices_Contains_string_string p0_s p1_v = some r) (h0 : RdS H v0 p0_s) (ht : St B w0 H (M) w) :
    Calls Proofs.Try.prog 27 [v0, .string (p1_v)].toArray w (Ret B w0 fun H' M' v => H = H' ∧ M = M' ∧ .bool (r) = v) := by
  unfold m_slices_Contains_string_string at hm
  refine enter Proofs.Try.func27 rfl rfl rfl ht ?_
  refine C_seq ?_
  refine C_region ?_
  refine W_assign rfl rfl rfl ?_
  refine W_end ?_
  refine E_then ?_
  refine C_seq ?_
  refine C_region ?_
  refine W_move rfl rfl rfl ?_
  refine W_move rfl rfl rfl ?_
  obtain ⟨r101, hc102, hm⟩ := bind_some hm
  refine W_call Proofs.Try.call34 rfl rfl rfl (fun w ht => by have h := m_slices_Index_string_string_c (hm := hc102) h0 ht; exact h) ?_
  rintro _ _ _ ⟨rfl, rfl, rfl⟩
  refine W_bin rfl rfl rfl rfl rfl ?_
  refine W_assign rfl rfl rfl ?_
  refine W_end ?_
  refine E_then ?_
  refine C_ret ?_
  obtain rfl := Option.some.inj hm
  refine E_weak (Hp.le_refl _) ?_
  exact end1 rfl rfl ⟨rfl, rfl, rfl⟩

theorem m_interlock_holds_c {B : Nat} {w0 w : World} {H : Hp} {M : List Res} {p0_l : (List S_api_InterlockNode)} {states : (List S_api_InterlockState)} {v0 : Value} {v1 : Value} {r : Bool} (hm : m_interlock_holds p0_l states = some r) (h0 : RdS H v0 p0_l) (h1 : RdS H v1 states) (ht : St B w0 H (M) w) :
    Calls Proofs.Try.prog 38 [v0, v1].toArray w (Ret B w0 fun H' M' v => H = H' ∧ M = M' ∧ .bool (r) = v) := by
  unfold m_interlock_holds at hm
  refine enter Proofs.Try.func38 rfl rfl rfl ht ?_
  refine C_seq ?_
  refine C_region ?_
  refine W_assign rfl rfl rfl ?_
  refine W_end ?_
  refine E_then ?_
  refine C_seq ?_
  refine C_region ?_
  refine W_move rfl rfl rfl ?_
  refine W_lenR rfl rfl Proofs.Try.runUnderlying44 rfl h0 ?_
  obtain ⟨hz101, hm⟩ := need_some hm
  refine W_makeSlice (α := Bool) (zs := [.bool (false)]) (ze := false) rfl rfl Proofs.Try.underlying83 ⟨_, rfl, rfl, rfl, rfl⟩ rfl rfl rfl rfl rfl rfl hz101.1 hz101.2 ?_
  intro v102 xs103 hr104
  refine W_assign rfl rfl rfl ?_
  refine W_end ?_
  refine E_then ?_
  refine C_seq ?_
  refine C_seq ?_
  refine C_region ?_
  refine W_move rfl rfl rfl ?_
  refine W_lenR rfl rfl Proofs.Try.runUnderlying44 rfl h0 ?_
  refine W_move rfl rfl rfl ?_
  refine W_end ?_
  refine E_then ?_
  refine C_block ?_
  refine C_keep (L' := [(0, v0), (1, v1), (5, v102), (12, v0), (13, .int .i64 ((p0_l.length : Int))), (14, .int .i64 (((0 : Nat) : Int)))]) ⟨rfl, rfl, rfl, rfl, rfl, rfl, trivial⟩ (List.Perm.refl _) ?_
  refine C_loop (fun n H' M' L' => ∃ (k105 : Nat) (zs622' : List S_api_InterlockNode), ∃ l614 : List Bool, ∃ xs613 : List Value, (p0_l).drop k105 = zs622' ∧ zs622'.length = n ∧ forI (fun k y s n => m_interlock_holds_b3 states k y s n) (fun s => idx s (IntKind.i64.wrap ((p0_l.length : Int) - 1)) fun y876 => some y876) k105 zs622' l614 = some r ∧ Rw H' v102 xs613 l614 ∧ H.le H' ∧ .row v102 4 (Rep.sz Bool) l614.length xs613 :: M = M' ∧ [(0, v0), (1, v1), (5, v102), (12, v0), (13, .int .i64 ((p0_l.length : Int))), (14, .int .i64 ((k105 : Int)))] = L') _ ⟨0, _, (List.replicate ((p0_l.length : Int) : Int).toNat (false : Bool)), xs103, rfl, rfl, hm, hr104, (Hp.le_refl _), rfl, rfl⟩ ?_
  rintro _ H616 _ _ ⟨k105, zs622', l614, xs613, hd624, rfl, hm, hr615, hle617, rfl, rfl⟩
  refine C_seq ?_
  refine C_region ?_
  refine W_bin rfl rfl rfl rfl rfl ?_
  refine W_end (E_then ?_)
  refine C_seq ?_
  refine C_cond (b := decide ((k105 : Int) < (p0_l.length : Int))) rfl (fun hb626 => ?_) (fun hb626 => ?_)
  · obtain ⟨y621, zs622, rfl, hy623, hd625⟩ := rng_t hd624 hb626
    have hm : m_interlock_holds_b3 states k105 y621 l614 (forI (fun k y s n => m_interlock_holds_b3 states k y s n) (fun s => idx s (IntKind.i64.wrap ((p0_l.length : Int) - 1)) fun y876 => some y876) (k105 + 1) zs622) = some r := hm
    generalize hn619 : forI (fun k y s n => m_interlock_holds_b3 states k y s n) (fun s => idx s (IntKind.i64.wrap ((p0_l.length : Int) - 1)) fun y876 => some y876) (k105 + 1) zs622 = nx618 at hm
    unfold m_interlock_holds_b3 at hm
    refine C_skip (E_then ?_)
    refine C_seq_join (fun H' M' L' => ∃ l751 : List Bool, ∃ xs750 : List Value, m_interlock_holds_b4 nx618 l751 = some r ∧ Rw H' v102 xs750 l751 ∧ H616 = H' ∧ .row v102 4 (Rep.sz Bool) l751.length xs750 :: M = M' ∧ [(0, v0), (1, v1), (5, v102), (12, v0), (13, .int .i64 ((p0_l.length : Int))), (14, .int .i64 ((k105 : Int)))] = L') ?_ (fun J753 => ?_)
    · rintro _ _ _ ⟨l751, xs750, hm, hr752, rfl, rfl, rfl⟩
      unfold m_interlock_holds_b4 at hm
      refine C_region ?_
      refine W_bin rfl rfl rfl rfl rfl ?_
      refine W_move rfl rfl rfl ?_
      refine W_end ?_
      exact E_keepJ (E_back (Nat.lt_succ_self _) ⟨k105 + 1, zs622, l751, xs750, hd625, rfl, (by rw [hn619]; exact hm), hr752, hle617, rfl, rfl⟩) (List.Perm.refl _) ⟨rfl, rfl, rfl, rfl, rfl, (congrArg (fun z => some (Value.int .i64 z)) (i64_succ hy623 ((h0.mono hle617)).lenMax)), trivial⟩
    · refine C_block ?_
      refine C_seq ?_
      refine C_region ?_
      refine W_move rfl rfl rfl ?_
      obtain ⟨_, ⟨rfl⟩, hc754⟩ := (h0).elem hy623
      refine W_indexS rfl rfl Proofs.Try.runUnderlying44 Proofs.Try.sizeOf58 rfl (h0.mono hle617) rfl (Int.natCast_nonneg _) hy623 ?_
      refine W_loadAgg rfl rfl Proofs.Try.isAgg58 Proofs.Try.sizeOf58 rfl (hc754.mono hle617).at rfl ?_
      refine W_alloc (cs := [.int .i64 (0), .string (⟨#[]⟩), .int .i64 (0), .int .i64 (0)]) rfl rfl Proofs.Try.zeroValue58 rfl (fun b755 => ?_)
      refine W_assign rfl rfl rfl ?_
      refine W_store (cs := [.int .i64 (y621.Kind), .string (y621.Name), .int .i64 (y621.A), .int .i64 (y621.B_)]) (out := [.int .i64 (y621.Kind), .string (y621.Name), .int .i64 (y621.A), .int .i64 (y621.B_)]) rfl Proofs.Try.sizeOf58 rfl rfl rfl rfl rfl (all_cons rfl (all_cons rfl (all_cons rfl (all_cons rfl all_nil)))) (over_all rfl) ?_
      refine W_end ?_
      refine E_then ?_
      refine C_seq ?_
      refine C_region ?_
      refine W_move rfl rfl rfl ?_
      refine W_field (o := 1) rfl rfl Proofs.Try.runUnderlying58 rfl Proofs.Try.sizeOf9 rfl rfl rfl ?_
      refine W_load rfl rfl Proofs.Try.isAgg9 rfl (own_at (List.mem_cons_self ..) rfl) ?_
      obtain ⟨r756, hc757, hm⟩ := bind_some hm
      refine W_call Proofs.Try.call33 rfl rfl rfl (fun w ht => by have h := m_interlock_index_c (hm := hc757) (h1.mono hle617) ht; exact h) ?_
      rintro _ _ _ ⟨rfl, rfl, rfl⟩
      refine W_assign rfl rfl rfl ?_
      refine W_end ?_
      refine E_then ?_
      refine C_seq ?_
      refine C_region ?_
      refine W_field (o := 0) rfl rfl Proofs.Try.runUnderlying58 rfl Proofs.Try.sizeOf3 rfl rfl rfl ?_
      refine W_load rfl rfl Proofs.Try.isAgg3 rfl (own_at (List.mem_cons_self ..) rfl) ?_
      refine W_end ?_
      refine E_then ?_
      refine C_block ?_
      refine C_seq ?_
      refine C_region ?_
      refine W_bin rfl rfl rfl rfl rfl ?_
      refine W_assign rfl rfl rfl ?_
      refine W_end ?_
      refine E_then ?_
      refine C_cond (b := decide (y621.Kind = 0)) rfl (fun hb758 => ?_) (fun hb758 => ?_)
      · have hm := ite_t' hb758 hm
        refine C_region ?_
        refine W_move rfl rfl rfl ?_
        refine W_move rfl rfl rfl ?_
        obtain ⟨y759, h760, he761, hm⟩ := idx_some hm
        refine W_indexO (List.mem_cons_of_mem _ (List.mem_cons_self ..)) rfl rfl Proofs.Try.runUnderlying83 Proofs.Try.sizeOf4 rfl rfl h760 (List.getElem?_eq_some_iff.1 he761).1 ?_
        obtain ⟨_, rfl, hg762⟩ := (hr615).elem he761
        refine W_perm (List.Perm.swap _ _ _) ?_
        obtain ⟨hr763, he764, hg765⟩ := Rw.put (cs := [.bool (true)]) (o := 0) (c := [.bool (y759)]) (out := [.bool (true)]) (e2 := true) hr615 he761 rfl hg762 rfl rfl rfl
        refine W_storeO2 (i := ((k105 : Int) : Int).toNat * Rep.sz Bool + 0) (cs := [.bool (true)]) rfl Proofs.Try.sizeOf4 rfl (row_ad0 _ _) rfl rfl rfl (Rw.room hr615 he761 rfl) rfl (all_cons rfl all_nil) (n' := (l614.set (((k105 : Int) : Int).toNat) true).length) List.length_set ?_
        generalize over xs613 (((k105 : Int) : Int).toNat * Rep.sz Bool + 0) [.bool (true)] = xs766 at hr763 hg765 ⊢
        refine W_end ?_
        refine E_normal_block ?_
        refine E_normal_block ?_
        refine E_drop (List.Sublist.cons_cons _ (List.Sublist.cons _ (List.Sublist.refl _))) ?_
        exact E_keepJ (J753 _ _ _ ⟨(l614.set (((k105 : Int) : Int).toNat) true), xs766, hm, hr763, rfl, rfl, rfl⟩) (List.Perm.refl _) ⟨rfl, rfl, rfl, rfl, rfl, rfl, trivial⟩
      · have hm := ite_f' hb758 hm
        refine C_seq ?_
        refine C_region ?_
        refine W_bin rfl rfl rfl rfl rfl ?_
        refine W_assign rfl rfl rfl ?_
        refine W_end ?_
        refine E_then ?_
        refine C_cond (b := decide (y621.Kind = 2)) rfl (fun hb767 => ?_) (fun hb767 => ?_)
        · have hm := ite_t' hb767 hm
          refine C_region ?_
          refine W_move rfl rfl rfl ?_
          refine W_move rfl rfl rfl ?_
          refine W_move rfl rfl rfl ?_
          refine W_bin rfl rfl rfl rfl rfl ?_
          refine W_move rfl rfl rfl ?_
          cases hb768 : (decide (0 ≤ r756))
          · have hm := ite_f' hb768 hm
            refine W_no rfl rfl rfl ?_
            refine W_no rfl rfl rfl ?_
            refine W_no rfl rfl rfl ?_
            refine W_no rfl rfl rfl ?_
            refine W_no rfl rfl rfl ?_
            refine W_no rfl rfl rfl ?_
            refine W_pick rfl rfl rfl rfl ?_
            obtain ⟨y769, h770, he771, hm⟩ := idx_some hm
            refine W_indexO (List.mem_cons_of_mem _ (List.mem_cons_self ..)) rfl rfl Proofs.Try.runUnderlying83 Proofs.Try.sizeOf4 rfl rfl h770 (List.getElem?_eq_some_iff.1 he771).1 ?_
            obtain ⟨_, rfl, hg772⟩ := (hr615).elem he771
            refine W_perm (List.Perm.swap _ _ _) ?_
            obtain ⟨hr773, he774, hg775⟩ := Rw.put (cs := [.bool (false)]) (o := 0) (c := [.bool (y769)]) (out := [.bool (false)]) (e2 := false) hr615 he771 rfl hg772 rfl rfl rfl
            refine W_storeO2 (i := ((k105 : Int) : Int).toNat * Rep.sz Bool + 0) (cs := [.bool (false)]) rfl Proofs.Try.sizeOf4 rfl (row_ad0 _ _) rfl rfl rfl (Rw.room hr615 he771 rfl) rfl (all_cons rfl all_nil) (n' := (l614.set (((k105 : Int) : Int).toNat) false).length) List.length_set ?_
            generalize over xs613 (((k105 : Int) : Int).toNat * Rep.sz Bool + 0) [.bool (false)] = xs776 at hr773 hg775 ⊢
            refine W_end ?_
            refine E_normal_block ?_
            refine E_normal_block ?_
            refine E_drop (List.Sublist.cons_cons _ (List.Sublist.cons _ (List.Sublist.refl _))) ?_
            exact E_keepJ (J753 _ _ _ ⟨(l614.set (((k105 : Int) : Int).toNat) false), xs776, hm, hr773, rfl, rfl, rfl⟩) (List.Perm.refl _) ⟨rfl, rfl, rfl, rfl, rfl, rfl, trivial⟩
          · have hm := ite_t' hb768 hm
            refine W_move rfl rfl rfl ?_
            refine W_move rfl rfl rfl ?_
            obtain ⟨y777, h778, he779, hm⟩ := idx_some hm
            obtain ⟨_, ⟨rfl⟩, hc780⟩ := (h1).elem he779
            refine W_indexS rfl rfl Proofs.Try.runUnderlying23 Proofs.Try.sizeOf33 rfl (h1.mono hle617) rfl h778 he779 ?_
            refine W_field (o := 1) rfl rfl Proofs.Try.runUnderlying33 rfl Proofs.Try.sizeOf4 rfl rfl rfl ?_
            refine W_load rfl rfl Proofs.Try.isAgg4 rfl (HCells.one (hc780.mono hle617) 1 rfl).at ?_
            refine W_un rfl rfl rfl rfl ?_
            refine W_pick rfl rfl rfl rfl ?_
            obtain ⟨y781, h782, he783, hm⟩ := idx_some hm
            refine W_indexO (List.mem_cons_of_mem _ (List.mem_cons_self ..)) rfl rfl Proofs.Try.runUnderlying83 Proofs.Try.sizeOf4 rfl rfl h782 (List.getElem?_eq_some_iff.1 he783).1 ?_
            obtain ⟨_, rfl, hg784⟩ := (hr615).elem he783
            refine W_perm (List.Perm.swap _ _ _) ?_
            obtain ⟨hr785, he786, hg787⟩ := Rw.put (cs := [.bool (!y777.Closed)]) (o := 0) (c := [.bool (y781)]) (out := [.bool (!y777.Closed)]) (e2 := (!y777.Closed)) hr615 he783 rfl hg784 rfl rfl rfl
            refine W_storeO2 (i := ((k105 : Int) : Int).toNat * Rep.sz Bool + 0) (cs := [.bool (!y777.Closed)]) rfl Proofs.Try.sizeOf4 rfl (row_ad0 _ _) rfl rfl rfl (Rw.room hr615 he783 rfl) rfl (all_cons rfl all_nil) (n' := (l614.set (((k105 : Int) : Int).toNat) (!y777.Closed)).length) List.length_set ?_
            generalize over xs613 (((k105 : Int) : Int).toNat * Rep.sz Bool + 0) [.bool (!y777.Closed)] = xs788 at hr785 hg787 ⊢
            refine W_end ?_
            refine E_normal_block ?_
            refine E_normal_block ?_
            refine E_drop (List.Sublist.cons_cons _ (List.Sublist.cons _ (List.Sublist.refl _))) ?_
            exact E_keepJ (J753 _ _ _ ⟨(l614.set (((k105 : Int) : Int).toNat) (!y777.Closed)), xs788, hm, hr785, rfl, rfl, rfl⟩) (List.Perm.refl _) ⟨rfl, rfl, rfl, rfl, rfl, rfl, trivial⟩
        · have hm := ite_f' hb767 hm
          refine C_seq ?_
          refine C_region ?_
          refine W_bin rfl rfl rfl rfl rfl ?_
          refine W_assign rfl rfl rfl ?_
          refine W_end ?_
          refine E_then ?_
          refine C_cond (b := decide (y621.Kind = 3)) rfl (fun hb789 => ?_) (fun hb789 => ?_)
          · have hm := ite_t' hb789 hm
            refine C_region ?_
            refine W_move rfl rfl rfl ?_
            refine W_move rfl rfl rfl ?_
            refine W_move rfl rfl rfl ?_
            refine W_bin rfl rfl rfl rfl rfl ?_
            refine W_move rfl rfl rfl ?_
            cases hb790 : (decide (0 ≤ r756))
            · have hm := ite_f' hb790 hm
              refine W_no rfl rfl rfl ?_
              refine W_no rfl rfl rfl ?_
              refine W_no rfl rfl rfl ?_
              refine W_no rfl rfl rfl ?_
              refine W_no rfl rfl rfl ?_
              refine W_pick rfl rfl rfl rfl ?_
              obtain ⟨y791, h792, he793, hm⟩ := idx_some hm
              refine W_indexO (List.mem_cons_of_mem _ (List.mem_cons_self ..)) rfl rfl Proofs.Try.runUnderlying83 Proofs.Try.sizeOf4 rfl rfl h792 (List.getElem?_eq_some_iff.1 he793).1 ?_
              obtain ⟨_, rfl, hg794⟩ := (hr615).elem he793
              refine W_perm (List.Perm.swap _ _ _) ?_
              obtain ⟨hr795, he796, hg797⟩ := Rw.put (cs := [.bool (false)]) (o := 0) (c := [.bool (y791)]) (out := [.bool (false)]) (e2 := false) hr615 he793 rfl hg794 rfl rfl rfl
              refine W_storeO2 (i := ((k105 : Int) : Int).toNat * Rep.sz Bool + 0) (cs := [.bool (false)]) rfl Proofs.Try.sizeOf4 rfl (row_ad0 _ _) rfl rfl rfl (Rw.room hr615 he793 rfl) rfl (all_cons rfl all_nil) (n' := (l614.set (((k105 : Int) : Int).toNat) false).length) List.length_set ?_
              generalize over xs613 (((k105 : Int) : Int).toNat * Rep.sz Bool + 0) [.bool (false)] = xs798 at hr795 hg797 ⊢
              refine W_end ?_
              refine E_normal_block ?_
              refine E_normal_block ?_
              refine E_drop (List.Sublist.cons_cons _ (List.Sublist.cons _ (List.Sublist.refl _))) ?_
              exact E_keepJ (J753 _ _ _ ⟨(l614.set (((k105 : Int) : Int).toNat) false), xs798, hm, hr795, rfl, rfl, rfl⟩) (List.Perm.refl _) ⟨rfl, rfl, rfl, rfl, rfl, rfl, trivial⟩
            · have hm := ite_t' hb790 hm
              refine W_move rfl rfl rfl ?_
              refine W_move rfl rfl rfl ?_
              obtain ⟨y799, h800, he801, hm⟩ := idx_some hm
              obtain ⟨_, ⟨rfl⟩, hc802⟩ := (h1).elem he801
              refine W_indexS rfl rfl Proofs.Try.runUnderlying23 Proofs.Try.sizeOf33 rfl (h1.mono hle617) rfl h800 he801 ?_
              refine W_field (o := 1) rfl rfl Proofs.Try.runUnderlying33 rfl Proofs.Try.sizeOf4 rfl rfl rfl ?_
              refine W_load rfl rfl Proofs.Try.isAgg4 rfl (HCells.one (hc802.mono hle617) 1 rfl).at ?_
              refine W_pick rfl rfl rfl rfl ?_
              obtain ⟨y803, h804, he805, hm⟩ := idx_some hm
              refine W_indexO (List.mem_cons_of_mem _ (List.mem_cons_self ..)) rfl rfl Proofs.Try.runUnderlying83 Proofs.Try.sizeOf4 rfl rfl h804 (List.getElem?_eq_some_iff.1 he805).1 ?_
              obtain ⟨_, rfl, hg806⟩ := (hr615).elem he805
              refine W_perm (List.Perm.swap _ _ _) ?_
              obtain ⟨hr807, he808, hg809⟩ := Rw.put (cs := [.bool (y799.Closed)]) (o := 0) (c := [.bool (y803)]) (out := [.bool (y799.Closed)]) (e2 := y799.Closed) hr615 he805 rfl hg806 rfl rfl rfl
              refine W_storeO2 (i := ((k105 : Int) : Int).toNat * Rep.sz Bool + 0) (cs := [.bool (y799.Closed)]) rfl Proofs.Try.sizeOf4 rfl (row_ad0 _ _) rfl rfl rfl (Rw.room hr615 he805 rfl) rfl (all_cons rfl all_nil) (n' := (l614.set (((k105 : Int) : Int).toNat) y799.Closed).length) List.length_set ?_
              generalize over xs613 (((k105 : Int) : Int).toNat * Rep.sz Bool + 0) [.bool (y799.Closed)] = xs810 at hr807 hg809 ⊢
              refine W_end ?_
              refine E_normal_block ?_
              refine E_normal_block ?_
              refine E_drop (List.Sublist.cons_cons _ (List.Sublist.cons _ (List.Sublist.refl _))) ?_
              exact E_keepJ (J753 _ _ _ ⟨(l614.set (((k105 : Int) : Int).toNat) y799.Closed), xs810, hm, hr807, rfl, rfl, rfl⟩) (List.Perm.refl _) ⟨rfl, rfl, rfl, rfl, rfl, rfl, trivial⟩
          · have hm := ite_f' hb789 hm
            refine C_seq ?_
            refine C_region ?_
            refine W_bin rfl rfl rfl rfl rfl ?_
            refine W_assign rfl rfl rfl ?_
            refine W_end ?_
            refine E_then ?_
            refine C_cond (b := decide (y621.Kind = 4)) rfl (fun hb811 => ?_) (fun hb811 => ?_)
            · have hm := ite_t' hb811 hm
              refine C_region ?_
              refine W_move rfl rfl rfl ?_
              refine W_move rfl rfl rfl ?_
              refine W_move rfl rfl rfl ?_
              refine W_field (o := 2) rfl rfl Proofs.Try.runUnderlying58 rfl Proofs.Try.sizeOf3 rfl rfl rfl ?_
              refine W_load rfl rfl Proofs.Try.isAgg3 rfl (own_at (List.mem_cons_self ..) rfl) ?_
              obtain ⟨y812, h813, he814, hm⟩ := idx_some hm
              refine W_indexO (List.mem_cons_of_mem _ (List.mem_cons_self ..)) rfl rfl Proofs.Try.runUnderlying83 Proofs.Try.sizeOf4 rfl rfl h813 (List.getElem?_eq_some_iff.1 he814).1 ?_
              obtain ⟨_, rfl, hg815⟩ := (hr615).elem he814
              refine W_load rfl rfl Proofs.Try.isAgg4 rfl (row_one0 (List.mem_cons_of_mem _ (List.mem_cons_self ..)) hg815 rfl) ?_
              refine W_un rfl rfl rfl rfl ?_
              obtain ⟨y816, h817, he818, hm⟩ := idx_some hm
              refine W_indexO (List.mem_cons_of_mem _ (List.mem_cons_self ..)) rfl rfl Proofs.Try.runUnderlying83 Proofs.Try.sizeOf4 rfl rfl h817 (List.getElem?_eq_some_iff.1 he818).1 ?_
              obtain ⟨_, rfl, hg819⟩ := (hr615).elem he818
              refine W_perm (List.Perm.swap _ _ _) ?_
              obtain ⟨hr820, he821, hg822⟩ := Rw.put (cs := [.bool (!y812)]) (o := 0) (c := [.bool (y816)]) (out := [.bool (!y812)]) (e2 := (!y812)) hr615 he818 rfl hg819 rfl rfl rfl
              refine W_storeO2 (i := ((k105 : Int) : Int).toNat * Rep.sz Bool + 0) (cs := [.bool (!y812)]) rfl Proofs.Try.sizeOf4 rfl (row_ad0 _ _) rfl rfl rfl (Rw.room hr615 he818 rfl) rfl (all_cons rfl all_nil) (n' := (l614.set (((k105 : Int) : Int).toNat) (!y812)).length) List.length_set ?_
              generalize over xs613 (((k105 : Int) : Int).toNat * Rep.sz Bool + 0) [.bool (!y812)] = xs823 at hr820 hg822 ⊢
              refine W_end ?_
              refine E_normal_block ?_
              refine E_normal_block ?_
              refine E_drop (List.Sublist.cons_cons _ (List.Sublist.cons _ (List.Sublist.refl _))) ?_
              exact E_keepJ (J753 _ _ _ ⟨(l614.set (((k105 : Int) : Int).toNat) (!y812)), xs823, hm, hr820, rfl, rfl, rfl⟩) (List.Perm.refl _) ⟨rfl, rfl, rfl, rfl, rfl, rfl, trivial⟩
            · have hm := ite_f' hb811 hm
              refine C_seq ?_
              refine C_region ?_
              refine W_bin rfl rfl rfl rfl rfl ?_
              refine W_assign rfl rfl rfl ?_
              refine W_end ?_
              refine E_then ?_
              refine C_cond (b := decide (y621.Kind = 5)) rfl (fun hb824 => ?_) (fun hb824 => ?_)
              · have hm := ite_t' hb824 hm
                refine C_region ?_
                refine W_move rfl rfl rfl ?_
                refine W_move rfl rfl rfl ?_
                refine W_move rfl rfl rfl ?_
                refine W_field (o := 2) rfl rfl Proofs.Try.runUnderlying58 rfl Proofs.Try.sizeOf3 rfl rfl rfl ?_
                refine W_load rfl rfl Proofs.Try.isAgg3 rfl (own_at (List.mem_cons_self ..) rfl) ?_
                obtain ⟨y825, h826, he827, hm⟩ := idx_some hm
                refine W_indexO (List.mem_cons_of_mem _ (List.mem_cons_self ..)) rfl rfl Proofs.Try.runUnderlying83 Proofs.Try.sizeOf4 rfl rfl h826 (List.getElem?_eq_some_iff.1 he827).1 ?_
                obtain ⟨_, rfl, hg828⟩ := (hr615).elem he827
                refine W_load rfl rfl Proofs.Try.isAgg4 rfl (row_one0 (List.mem_cons_of_mem _ (List.mem_cons_self ..)) hg828 rfl) ?_
                refine W_move rfl rfl rfl ?_
                cases hb829 : (y825)
                · have hm := ite_f' hb829 hm
                  refine W_no rfl rfl rfl ?_
                  refine W_no rfl rfl rfl ?_
                  refine W_no rfl rfl rfl ?_
                  refine W_no rfl rfl rfl ?_
                  refine W_no rfl rfl rfl ?_
                  refine W_pick rfl rfl rfl rfl ?_
                  obtain ⟨y830, h831, he832, hm⟩ := idx_some hm
                  refine W_indexO (List.mem_cons_of_mem _ (List.mem_cons_self ..)) rfl rfl Proofs.Try.runUnderlying83 Proofs.Try.sizeOf4 rfl rfl h831 (List.getElem?_eq_some_iff.1 he832).1 ?_
                  obtain ⟨_, rfl, hg833⟩ := (hr615).elem he832
                  refine W_perm (List.Perm.swap _ _ _) ?_
                  obtain ⟨hr834, he835, hg836⟩ := Rw.put (cs := [.bool (false)]) (o := 0) (c := [.bool (y830)]) (out := [.bool (false)]) (e2 := false) hr615 he832 rfl hg833 rfl rfl rfl
                  refine W_storeO2 (i := ((k105 : Int) : Int).toNat * Rep.sz Bool + 0) (cs := [.bool (false)]) rfl Proofs.Try.sizeOf4 rfl (row_ad0 _ _) rfl rfl rfl (Rw.room hr615 he832 rfl) rfl (all_cons rfl all_nil) (n' := (l614.set (((k105 : Int) : Int).toNat) false).length) List.length_set ?_
                  generalize over xs613 (((k105 : Int) : Int).toNat * Rep.sz Bool + 0) [.bool (false)] = xs837 at hr834 hg836 ⊢
                  refine W_end ?_
                  refine E_normal_block ?_
                  refine E_normal_block ?_
                  refine E_drop (List.Sublist.cons_cons _ (List.Sublist.cons _ (List.Sublist.refl _))) ?_
                  exact E_keepJ (J753 _ _ _ ⟨(l614.set (((k105 : Int) : Int).toNat) false), xs837, hm, hr834, rfl, rfl, rfl⟩) (List.Perm.refl _) ⟨rfl, rfl, rfl, rfl, rfl, rfl, trivial⟩
                · have hm := ite_t' hb829 hm
                  refine W_move rfl rfl rfl ?_
                  refine W_field (o := 3) rfl rfl Proofs.Try.runUnderlying58 rfl Proofs.Try.sizeOf3 rfl rfl rfl ?_
                  refine W_load rfl rfl Proofs.Try.isAgg3 rfl (own_at (List.mem_cons_self ..) rfl) ?_
                  obtain ⟨y838, h839, he840, hm⟩ := idx_some hm
                  refine W_indexO (List.mem_cons_of_mem _ (List.mem_cons_self ..)) rfl rfl Proofs.Try.runUnderlying83 Proofs.Try.sizeOf4 rfl rfl h839 (List.getElem?_eq_some_iff.1 he840).1 ?_
                  obtain ⟨_, rfl, hg841⟩ := (hr615).elem he840
                  refine W_load rfl rfl Proofs.Try.isAgg4 rfl (row_one0 (List.mem_cons_of_mem _ (List.mem_cons_self ..)) hg841 rfl) ?_
                  refine W_pick rfl rfl rfl rfl ?_
                  obtain ⟨y842, h843, he844, hm⟩ := idx_some hm
                  refine W_indexO (List.mem_cons_of_mem _ (List.mem_cons_self ..)) rfl rfl Proofs.Try.runUnderlying83 Proofs.Try.sizeOf4 rfl rfl h843 (List.getElem?_eq_some_iff.1 he844).1 ?_
                  obtain ⟨_, rfl, hg845⟩ := (hr615).elem he844
                  refine W_perm (List.Perm.swap _ _ _) ?_
                  obtain ⟨hr846, he847, hg848⟩ := Rw.put (cs := [.bool (y838)]) (o := 0) (c := [.bool (y842)]) (out := [.bool (y838)]) (e2 := y838) hr615 he844 rfl hg845 rfl rfl rfl
                  refine W_storeO2 (i := ((k105 : Int) : Int).toNat * Rep.sz Bool + 0) (cs := [.bool (y838)]) rfl Proofs.Try.sizeOf4 rfl (row_ad0 _ _) rfl rfl rfl (Rw.room hr615 he844 rfl) rfl (all_cons rfl all_nil) (n' := (l614.set (((k105 : Int) : Int).toNat) y838).length) List.length_set ?_
                  generalize over xs613 (((k105 : Int) : Int).toNat * Rep.sz Bool + 0) [.bool (y838)] = xs849 at hr846 hg848 ⊢
                  refine W_end ?_
                  refine E_normal_block ?_
                  refine E_normal_block ?_
                  refine E_drop (List.Sublist.cons_cons _ (List.Sublist.cons _ (List.Sublist.refl _))) ?_
                  exact E_keepJ (J753 _ _ _ ⟨(l614.set (((k105 : Int) : Int).toNat) y838), xs849, hm, hr846, rfl, rfl, rfl⟩) (List.Perm.refl _) ⟨rfl, rfl, rfl, rfl, rfl, rfl, trivial⟩
              · have hm := ite_f' hb824 hm
                refine C_seq ?_
                refine C_region ?_
                refine W_bin rfl rfl rfl rfl rfl ?_
                refine W_assign rfl rfl rfl ?_
                refine W_end ?_
                refine E_then ?_
                refine C_cond (b := decide (y621.Kind = 6)) rfl (fun hb850 => ?_) (fun hb850 => ?_)
                · have hm := ite_t' hb850 hm
                  refine C_region ?_
                  refine W_move rfl rfl rfl ?_
                  refine W_move rfl rfl rfl ?_
                  refine W_move rfl rfl rfl ?_
                  refine W_field (o := 2) rfl rfl Proofs.Try.runUnderlying58 rfl Proofs.Try.sizeOf3 rfl rfl rfl ?_
                  refine W_load rfl rfl Proofs.Try.isAgg3 rfl (own_at (List.mem_cons_self ..) rfl) ?_
                  obtain ⟨y851, h852, he853, hm⟩ := idx_some hm
                  refine W_indexO (List.mem_cons_of_mem _ (List.mem_cons_self ..)) rfl rfl Proofs.Try.runUnderlying83 Proofs.Try.sizeOf4 rfl rfl h852 (List.getElem?_eq_some_iff.1 he853).1 ?_
                  obtain ⟨_, rfl, hg854⟩ := (hr615).elem he853
                  refine W_load rfl rfl Proofs.Try.isAgg4 rfl (row_one0 (List.mem_cons_of_mem _ (List.mem_cons_self ..)) hg854 rfl) ?_
                  refine W_move rfl rfl rfl ?_
                  cases hb855 : (y851)
                  · have hm := ite_f' hb855 hm
                    refine W_move rfl rfl rfl ?_
                    refine W_field (o := 3) rfl rfl Proofs.Try.runUnderlying58 rfl Proofs.Try.sizeOf3 rfl rfl rfl ?_
                    refine W_load rfl rfl Proofs.Try.isAgg3 rfl (own_at (List.mem_cons_self ..) rfl) ?_
                    obtain ⟨y856, h857, he858, hm⟩ := idx_some hm
                    refine W_indexO (List.mem_cons_of_mem _ (List.mem_cons_self ..)) rfl rfl Proofs.Try.runUnderlying83 Proofs.Try.sizeOf4 rfl rfl h857 (List.getElem?_eq_some_iff.1 he858).1 ?_
                    obtain ⟨_, rfl, hg859⟩ := (hr615).elem he858
                    refine W_load rfl rfl Proofs.Try.isAgg4 rfl (row_one0 (List.mem_cons_of_mem _ (List.mem_cons_self ..)) hg859 rfl) ?_
                    refine W_pick rfl rfl rfl rfl ?_
                    obtain ⟨y860, h861, he862, hm⟩ := idx_some hm
                    refine W_indexO (List.mem_cons_of_mem _ (List.mem_cons_self ..)) rfl rfl Proofs.Try.runUnderlying83 Proofs.Try.sizeOf4 rfl rfl h861 (List.getElem?_eq_some_iff.1 he862).1 ?_
                    obtain ⟨_, rfl, hg863⟩ := (hr615).elem he862
                    refine W_perm (List.Perm.swap _ _ _) ?_
                    obtain ⟨hr864, he865, hg866⟩ := Rw.put (cs := [.bool (y856)]) (o := 0) (c := [.bool (y860)]) (out := [.bool (y856)]) (e2 := y856) hr615 he862 rfl hg863 rfl rfl rfl
                    refine W_storeO2 (i := ((k105 : Int) : Int).toNat * Rep.sz Bool + 0) (cs := [.bool (y856)]) rfl Proofs.Try.sizeOf4 rfl (row_ad0 _ _) rfl rfl rfl (Rw.room hr615 he862 rfl) rfl (all_cons rfl all_nil) (n' := (l614.set (((k105 : Int) : Int).toNat) y856).length) List.length_set ?_
                    generalize over xs613 (((k105 : Int) : Int).toNat * Rep.sz Bool + 0) [.bool (y856)] = xs867 at hr864 hg866 ⊢
                    refine W_end ?_
                    refine E_normal_block ?_
                    refine E_normal_block ?_
                    refine E_drop (List.Sublist.cons_cons _ (List.Sublist.cons _ (List.Sublist.refl _))) ?_
                    exact E_keepJ (J753 _ _ _ ⟨(l614.set (((k105 : Int) : Int).toNat) y856), xs867, hm, hr864, rfl, rfl, rfl⟩) (List.Perm.refl _) ⟨rfl, rfl, rfl, rfl, rfl, rfl, trivial⟩
                  · have hm := ite_t' hb855 hm
                    refine W_no rfl rfl rfl ?_
                    refine W_no rfl rfl rfl ?_
                    refine W_no rfl rfl rfl ?_
                    refine W_no rfl rfl rfl ?_
                    refine W_no rfl rfl rfl ?_
                    refine W_pick rfl rfl rfl rfl ?_
                    obtain ⟨y868, h869, he870, hm⟩ := idx_some hm
                    refine W_indexO (List.mem_cons_of_mem _ (List.mem_cons_self ..)) rfl rfl Proofs.Try.runUnderlying83 Proofs.Try.sizeOf4 rfl rfl h869 (List.getElem?_eq_some_iff.1 he870).1 ?_
                    obtain ⟨_, rfl, hg871⟩ := (hr615).elem he870
                    refine W_perm (List.Perm.swap _ _ _) ?_
                    obtain ⟨hr872, he873, hg874⟩ := Rw.put (cs := [.bool (true)]) (o := 0) (c := [.bool (y868)]) (out := [.bool (true)]) (e2 := true) hr615 he870 rfl hg871 rfl rfl rfl
                    refine W_storeO2 (i := ((k105 : Int) : Int).toNat * Rep.sz Bool + 0) (cs := [.bool (true)]) rfl Proofs.Try.sizeOf4 rfl (row_ad0 _ _) rfl rfl rfl (Rw.room hr615 he870 rfl) rfl (all_cons rfl all_nil) (n' := (l614.set (((k105 : Int) : Int).toNat) true).length) List.length_set ?_
                    generalize over xs613 (((k105 : Int) : Int).toNat * Rep.sz Bool + 0) [.bool (true)] = xs875 at hr872 hg874 ⊢
                    refine W_end ?_
                    refine E_normal_block ?_
                    refine E_normal_block ?_
                    refine E_drop (List.Sublist.cons_cons _ (List.Sublist.cons _ (List.Sublist.refl _))) ?_
                    exact E_keepJ (J753 _ _ _ ⟨(l614.set (((k105 : Int) : Int).toNat) true), xs875, hm, hr872, rfl, rfl, rfl⟩) (List.Perm.refl _) ⟨rfl, rfl, rfl, rfl, rfl, rfl, trivial⟩
                · have hm := ite_f' hb850 hm
                  refine C_skip ?_
                  refine E_normal_block ?_
                  refine E_normal_block ?_
                  refine E_drop (List.Sublist.cons _ (List.Sublist.refl _)) ?_
                  exact E_keepJ (J753 _ _ _ ⟨l614, xs613, hm, hr615, rfl, rfl, rfl⟩) (List.Perm.refl _) ⟨rfl, rfl, rfl, rfl, rfl, rfl, trivial⟩
  · obtain rfl := rng_f hd624 hb626
    have hm : (idx l614 (IntKind.i64.wrap ((p0_l.length : Int) - 1)) fun y876 => some y876) = some r := hm
    refine C_exit (E_exit_then ?_)
    refine E_exit_then ?_
    refine E_exit_hit ?_
    refine E_then ?_
    refine C_seq ?_
    refine C_region ?_
    refine W_move rfl rfl rfl ?_
    refine W_move rfl rfl rfl ?_
    refine W_lenR rfl rfl Proofs.Try.runUnderlying44 rfl (h0.mono hle617) ?_
    refine W_bin rfl rfl rfl rfl rfl ?_
    obtain ⟨y876, h877, he878, hm⟩ := idx_some hm
    refine W_indexO (List.mem_cons_self ..) rfl rfl Proofs.Try.runUnderlying83 Proofs.Try.sizeOf4 rfl rfl h877 (List.getElem?_eq_some_iff.1 he878).1 ?_
    obtain ⟨_, rfl, hg879⟩ := (hr615).elem he878
    refine W_load rfl rfl Proofs.Try.isAgg4 rfl (row_one0 (List.mem_cons_self ..) hg879 rfl) ?_
    refine W_assign rfl rfl rfl ?_
    refine W_end ?_
    refine E_then ?_
    refine C_ret ?_
    obtain rfl := Option.some.inj hm
    refine E_drop (List.Sublist.cons _ (List.Sublist.refl _)) ?_
    refine E_weak hle617 ?_
    exact end1 rfl rfl ⟨rfl, rfl, rfl⟩

theorem m_interlock_Explain_c {B : Nat} {w0 w : World} {H : Hp} {M : List Res} {p0_l : (List S_api_InterlockRule)} {states : (List S_api_InterlockState)} {closing : Bool} {name : ByteArray} {v0 : Value} {v1 : Value} {r : (List Int) × Int} (hm : m_interlock_Explain p0_l states closing name = some r) (h0 : RdS H v0 p0_l) (h1 : RdS H v1 states) (ht : St B w0 H (M) w) :
    Calls Proofs.Try.prog 35 [v0, v1, .bool (closing), .string (name)].toArray w (Ret B w0 fun H' M' v => H = H' ∧ ∃ qv0 : Value, ∃ qxs0 : List Value, .row qv0 3 (Rep.sz Int) r.1.length qxs0 :: M = M' ∧ .tuple #[qv0, .int .i64 (r.2)] = v ∧ RwF qv0 qxs0 r.1) := by
  unfold m_interlock_Explain at hm
  refine enter Proofs.Try.func35 rfl rfl rfl ht ?_
  refine C_seq ?_
  refine C_region ?_
  refine W_assign rfl rfl rfl ?_
  refine W_assign rfl rfl rfl ?_
  refine W_end ?_
  refine E_then ?_
  refine C_seq ?_
  refine C_seq ?_
  refine C_region ?_
  refine W_move rfl rfl rfl ?_
  obtain ⟨r101, hc102, hm⟩ := bind_some hm
  refine W_call Proofs.Try.call24 rfl rfl rfl (fun w ht => by have h := m_interlock_Check_c (hm := hc102) h0 ht; exact h) ?_
  rintro _ _ _ ⟨rfl, rfl, rfl⟩
  refine W_assign rfl rfl rfl ?_
  refine W_end ?_
  refine E_then ?_
  refine C_seq ?_
  refine C_region ?_
  refine W_move rfl rfl rfl ?_
  refine W_bin rfl rfl rfl rfl rfl ?_
  refine W_end ?_
  refine E_then ?_
  refine C_cond (b := !decide (r101 = 0)) rfl (fun hb103 => ?_) (fun hb103 => ?_)
  · have hm := ite_t' hb103 hm
    refine C_seq ?_
    refine C_region ?_
    refine W_move rfl rfl rfl ?_
    refine W_assign rfl rfl rfl ?_
    refine W_assign rfl rfl rfl ?_
    refine W_end ?_
    refine E_then ?_
    refine C_ret ?_
    refine E_ret_then ?_
    refine E_nilRow 3 (Rep.sz Int) ?_
    obtain rfl := Option.some.inj hm
    refine E_weak (Hp.le_refl _) ?_
    exact end2 rfl rfl rfl ⟨rfl, (.slice none 0 0), [], rfl, rfl, (Rw.nil (H := H)).toF⟩
  · have hm := ite_f' hb103 hm
    refine C_skip ?_
    refine E_then ?_
    refine C_seq ?_
    refine C_seq ?_
    refine C_region ?_
    refine W_move rfl rfl rfl ?_
    obtain ⟨r104, hc105, hm⟩ := bind_some hm
    refine W_call Proofs.Try.call25 rfl rfl rfl (fun w ht => by have h := m_interlock_CheckStates_c (hm := hc105) h1 ht; exact h) ?_
    rintro _ _ _ ⟨rfl, rfl, rfl⟩
    refine W_assign rfl rfl rfl ?_
    refine W_end ?_
    refine E_then ?_
    refine C_seq ?_
    refine C_region ?_
    refine W_move rfl rfl rfl ?_
    refine W_bin rfl rfl rfl rfl rfl ?_
    refine W_end ?_
    refine E_then ?_
    refine C_cond (b := !decide (r104 = 0)) rfl (fun hb106 => ?_) (fun hb106 => ?_)
    · have hm := ite_t' hb106 hm
      refine C_seq ?_
      refine C_region ?_
      refine W_move rfl rfl rfl ?_
      refine W_assign rfl rfl rfl ?_
      refine W_assign rfl rfl rfl ?_
      refine W_end ?_
      refine E_then ?_
      refine C_ret ?_
      refine E_ret_then ?_
      refine E_nilRow 3 (Rep.sz Int) ?_
      obtain rfl := Option.some.inj hm
      refine E_weak (Hp.le_refl _) ?_
      exact end2 rfl rfl rfl ⟨rfl, (.slice none 0 0), [], rfl, rfl, (Rw.nil (H := H)).toF⟩
    · have hm := ite_f' hb106 hm
      refine C_skip ?_
      refine E_then ?_
      refine C_seq ?_
      refine C_seq ?_
      refine C_region ?_
      refine W_move rfl rfl rfl ?_
      refine W_move rfl rfl rfl ?_
      obtain ⟨r107, hc108, hm⟩ := bind_some hm
      refine W_call Proofs.Try.call33 rfl rfl rfl (fun w ht => by have h := m_interlock_index_c (hm := hc108) h1 ht; exact h) ?_
      rintro _ _ _ ⟨rfl, rfl, rfl⟩
      refine W_bin rfl rfl rfl rfl rfl ?_
      refine W_end ?_
      refine E_then ?_
      refine C_cond (b := decide (r107 < 0)) rfl (fun hb109 => ?_) (fun hb109 => ?_)
      · have hm := ite_t' hb109 hm
        refine C_seq ?_
        refine C_region ?_
        refine W_assign rfl rfl rfl ?_
        refine W_assign rfl rfl rfl ?_
        refine W_end ?_
        refine E_then ?_
        refine C_ret ?_
        refine E_ret_then ?_
        refine E_nilRow 3 (Rep.sz Int) ?_
        obtain rfl := Option.some.inj hm
        refine E_weak (Hp.le_refl _) ?_
        exact end2 rfl rfl rfl ⟨rfl, (.slice none 0 0), [], rfl, rfl, (Rw.nil (H := H)).toF⟩
      · have hm := ite_f' hb109 hm
        refine C_skip ?_
        refine E_then ?_
        refine C_seq ?_
        refine C_region ?_
        refine W_assign rfl rfl rfl ?_
        refine W_end ?_
        refine E_then ?_
        refine C_seq ?_
        refine C_seq ?_
        refine C_region ?_
        refine W_move rfl rfl rfl ?_
        refine W_lenR rfl rfl Proofs.Try.runUnderlying22 rfl h0 ?_
        refine W_move rfl rfl rfl ?_
        refine W_end ?_
        refine E_then ?_
        refine C_block ?_
        refine C_nilRow 3 (Rep.sz Int) ?_
        refine C_keep (L' := [(1, v1), (2, .bool (closing)), (3, .string (name)), (12, (.slice none 0 0)), (29, v0), (30, .int .i64 ((p0_l.length : Int))), (31, .int .i64 (((0 : Nat) : Int)))]) ⟨rfl, rfl, rfl, rfl, rfl, rfl, rfl, trivial⟩ (List.Perm.refl _) ?_
        refine C_loop (fun n H' M' L' => ∃ (k110 : Nat) (zs227' : List S_api_InterlockRule), ∃ l219 : List Int, ∃ v217 : Value, ∃ xs218 : List Value, (p0_l).drop k110 = zs227' ∧ zs227'.length = n ∧ forI (fun k y s n => m_interlock_Explain_b3 states closing name k y s n) (fun s => some (s, 0)) k110 zs227' l219 = some r ∧ Rw H' v217 xs218 l219 ∧ H.le H' ∧ .row v217 3 (Rep.sz Int) l219.length xs218 :: M = M' ∧ [(1, v1), (2, .bool (closing)), (3, .string (name)), (12, v217), (29, v0), (30, .int .i64 ((p0_l.length : Int))), (31, .int .i64 ((k110 : Int)))] = L') _ ⟨0, _, ([] : List Int), (.slice none 0 0), ([]), rfl, rfl, hm, Rw.nil, (Hp.le_refl _), rfl, rfl⟩ ?_
        rintro _ H221 _ _ ⟨k110, zs227', l219, v217, xs218, hd229, rfl, hm, hr220, hle222, rfl, rfl⟩
        refine C_seq ?_
        refine C_region ?_
        refine W_bin rfl rfl rfl rfl rfl ?_
        refine W_end (E_then ?_)
        refine C_seq ?_
        refine C_cond (b := decide ((k110 : Int) < (p0_l.length : Int))) rfl (fun hb231 => ?_) (fun hb231 => ?_)
        · obtain ⟨y226, zs227, rfl, hy228, hd230⟩ := rng_t hd229 hb231
          have hm : m_interlock_Explain_b3 states closing name k110 y226 l219 (forI (fun k y s n => m_interlock_Explain_b3 states closing name k y s n) (fun s => some (s, 0)) (k110 + 1) zs227) = some r := hm
          generalize hn224 : forI (fun k y s n => m_interlock_Explain_b3 states closing name k y s n) (fun s => some (s, 0)) (k110 + 1) zs227 = nx223 at hm
          unfold m_interlock_Explain_b3 at hm
          refine C_skip (E_then ?_)
          refine C_seq_join (fun H' M' L' => ∃ l254 : List Int, ∃ v252 : Value, ∃ xs253 : List Value, m_interlock_Explain_b4 nx223 l254 = some r ∧ Rw H' v252 xs253 l254 ∧ H221.le H' ∧ .row v252 3 (Rep.sz Int) l254.length xs253 :: M = M' ∧ [(1, v1), (2, .bool (closing)), (3, .string (name)), (12, v252), (29, v0), (30, .int .i64 ((p0_l.length : Int))), (31, .int .i64 ((k110 : Int)))] = L') ?_ (fun J258 => ?_)
          · rintro H256 _ _ ⟨l254, v252, xs253, hm, hr255, hle257, rfl, rfl⟩
            unfold m_interlock_Explain_b4 at hm
            refine C_region ?_
            refine W_bin rfl rfl rfl rfl rfl ?_
            refine W_move rfl rfl rfl ?_
            refine W_end ?_
            exact E_keepJ (E_back (Nat.lt_succ_self _) ⟨k110 + 1, zs227, l254, v252, xs253, hd230, rfl, (by rw [hn224]; exact hm), hr255, (Hp.le_trans hle222 hle257), rfl, rfl⟩) (List.Perm.refl _) ⟨rfl, rfl, rfl, rfl, rfl, rfl, (congrArg (fun z => some (Value.int .i64 z)) (i64_succ hy228 ((h0.mono hle222)).lenMax)), trivial⟩
          · refine C_block ?_
            refine C_seq ?_
            refine C_region ?_
            refine W_move rfl rfl rfl ?_
            obtain ⟨_, ⟨v260, rfl, h261⟩, hc259⟩ := (h0).elem hy228
            refine W_indexS rfl rfl Proofs.Try.runUnderlying22 Proofs.Try.sizeOf46 rfl (h0.mono hle222) rfl (Int.natCast_nonneg _) hy228 ?_
            refine W_loadAgg rfl rfl Proofs.Try.isAgg46 Proofs.Try.sizeOf46 rfl (hc259.mono hle222).at rfl ?_
            refine W_alloc (cs := [.bool (false), .string (⟨#[]⟩), .slice none 0 0]) rfl rfl Proofs.Try.zeroValue46 rfl (fun b262 => ?_)
            refine W_assign rfl rfl rfl ?_
            refine W_store (cs := [.bool (y226.Close), .string (y226.Switch), v260]) (out := [.bool (y226.Close), .string (y226.Switch), v260]) rfl Proofs.Try.sizeOf46 rfl rfl rfl rfl rfl (all_cons rfl (all_cons rfl (all_cons (RdS.one1 (h261.mono hle222)) all_nil))) (over_all rfl) ?_
            refine W_end ?_
            refine E_then ?_
            refine C_seq ?_
            refine C_region ?_
            refine W_field (o := 0) rfl rfl Proofs.Try.runUnderlying46 rfl Proofs.Try.sizeOf4 rfl rfl rfl ?_
            refine W_load rfl rfl Proofs.Try.isAgg4 rfl (own_at (List.mem_cons_self ..) rfl) ?_
            refine W_move rfl rfl rfl ?_
            refine W_eqBool rfl rfl Proofs.Try.runUnderlying4 rfl rfl ?_
            refine W_move rfl rfl rfl ?_
            cases hb263 : (decide (y226.Close = closing))
            · have hm := ite_f' hb263 hm
              refine W_no rfl rfl rfl ?_
              refine W_no rfl rfl rfl ?_
              refine W_no rfl rfl rfl ?_
              refine W_no rfl rfl rfl ?_
              refine W_pick rfl rfl rfl rfl ?_
              refine W_move rfl rfl rfl ?_
              refine W_no rfl rfl rfl ?_
              refine W_no rfl rfl rfl ?_
              refine W_no rfl rfl rfl ?_
              refine W_no rfl rfl rfl ?_
              refine W_no rfl rfl rfl ?_
              refine W_pick rfl rfl rfl rfl ?_
              refine W_end ?_
              refine E_then ?_
              refine C_cond (b := false) rfl (fun hb => Bool.noConfusion hb) (fun _ => ?_)
              refine C_skip ?_
              refine E_normal_block ?_
              refine E_drop (List.Sublist.cons _ (List.Sublist.refl _)) ?_
              exact E_keepJ (J258 _ _ _ ⟨l219, v217, xs218, hm, hr220, (Hp.le_refl _), rfl, rfl⟩) (List.Perm.refl _) ⟨rfl, rfl, rfl, rfl, rfl, rfl, rfl, trivial⟩
            · have hm := ite_t' hb263 hm
              refine W_field (o := 1) rfl rfl Proofs.Try.runUnderlying46 rfl Proofs.Try.sizeOf9 rfl rfl rfl ?_
              refine W_load rfl rfl Proofs.Try.isAgg9 rfl (own_at (List.mem_cons_self ..) rfl) ?_
              refine W_move rfl rfl rfl ?_
              refine W_bin rfl rfl rfl rfl rfl ?_
              refine W_pick rfl rfl rfl rfl ?_
              refine W_move rfl rfl rfl ?_
              cases hb264 : (decide (y226.Switch = name))
              · have hm := ite_f' hb264 hm
                refine W_no rfl rfl rfl ?_
                refine W_no rfl rfl rfl ?_
                refine W_no rfl rfl rfl ?_
                refine W_no rfl rfl rfl ?_
                refine W_no rfl rfl rfl ?_
                refine W_pick rfl rfl rfl rfl ?_
                refine W_end ?_
                refine E_then ?_
                refine C_cond (b := false) rfl (fun hb => Bool.noConfusion hb) (fun _ => ?_)
                refine C_skip ?_
                refine E_normal_block ?_
                refine E_drop (List.Sublist.cons _ (List.Sublist.refl _)) ?_
                exact E_keepJ (J258 _ _ _ ⟨l219, v217, xs218, hm, hr220, (Hp.le_refl _), rfl, rfl⟩) (List.Perm.refl _) ⟨rfl, rfl, rfl, rfl, rfl, rfl, rfl, trivial⟩
              · have hm := ite_t' hb264 hm
                refine W_field (o := 2) rfl rfl Proofs.Try.runUnderlying46 rfl Proofs.Try.sizeOf44 rfl rfl rfl ?_
                refine W_load rfl rfl Proofs.Try.isAgg44 rfl (own_at (List.mem_cons_self ..) rfl) ?_
                refine W_move rfl rfl rfl ?_
                obtain ⟨r265, hc266, hm⟩ := bind_some hm
                refine W_call Proofs.Try.call38 rfl rfl rfl (fun w ht => by have h := m_interlock_holds_c (hm := hc266) (h261.mono hle222) (h1.mono hle222) ht; exact h) ?_
                rintro _ _ _ ⟨rfl, rfl, rfl⟩
                refine W_un rfl rfl rfl rfl ?_
                refine W_pick rfl rfl rfl rfl ?_
                refine W_end ?_
                refine E_then ?_
                refine C_cond (b := !r265) rfl (fun hb267 => ?_) (fun hb267 => ?_)
                · have hm := ite_t' hb267 hm
                  refine C_region ?_
                  refine W_move rfl rfl rfl ?_
                  refine W_move rfl rfl rfl ?_
                  refine W_buildSlice (α := Int) (css := [[.int .i64 ((k110 : Int))]]) (zs := [.int .i64 (0)]) (out := [.int .i64 ((k110 : Int))]) (ys := [((k110 : Int))]) rfl rfl rfl ⟨rfl, trivial⟩ Proofs.Try.runUnderlying76 Proofs.Try.sizeOf3 rfl Proofs.Try.zeroValue3 (by kernel_rfl) rfl rfl rfl rfl ⟨[.int .i64 ((k110 : Int))], [], rfl, rfl, rfl⟩ rfl ?_
                  intro b268 v269 H270 hv271 hle272 h273
                  have hc274 : Value.cap' v269 = ([((k110 : Int))]).length := by rw [hv271]; rfl
                  obtain ⟨hz275, hm⟩ := need_some hm
                  refine W_perm (List.Perm.swap _ _ _) ?_
                  refine W_appendO (α := Int) (l := l219) (ys := [((k110 : Int))]) rfl rfl Proofs.Try.underlying76 ⟨_, rfl, rfl, rfl, rfl⟩ rfl rfl rfl rfl rfl (hr220.mono hle272) h273 hz275 ?_
                  intro v276 xs277 hr278
                  refine W_assign rfl rfl rfl ?_
                  refine W_end ?_
                  refine E_normal_block ?_
                  refine E_drop (List.Sublist.cons_cons _ (List.Sublist.cons _ (List.Sublist.refl _))) ?_
                  exact E_keepJ (J258 _ _ _ ⟨(l219 ++ ([((k110 : Int))])), v276, xs277, hm, hr278, hle272, rfl, rfl⟩) (List.Perm.refl _) ⟨rfl, rfl, rfl, rfl, rfl, rfl, rfl, trivial⟩
                · have hm := ite_f' hb267 hm
                  refine C_skip ?_
                  refine E_normal_block ?_
                  refine E_drop (List.Sublist.cons _ (List.Sublist.refl _)) ?_
                  exact E_keepJ (J258 _ _ _ ⟨l219, v217, xs218, hm, hr220, (Hp.le_refl _), rfl, rfl⟩) (List.Perm.refl _) ⟨rfl, rfl, rfl, rfl, rfl, rfl, rfl, trivial⟩
        · obtain rfl := rng_f hd229 hb231
          have hm : (some (l219, 0)) = some r := hm
          refine C_exit (E_exit_then ?_)
          refine E_exit_then ?_
          refine E_exit_hit ?_
          refine E_then ?_
          refine C_seq ?_
          refine C_region ?_
          refine W_move rfl rfl rfl ?_
          refine W_assign rfl rfl rfl ?_
          refine W_assign rfl rfl rfl ?_
          refine W_end ?_
          refine E_then ?_
          refine C_ret ?_
          obtain rfl := Option.some.inj hm
          refine E_weak hle222 ?_
          exact end2 rfl rfl rfl ⟨rfl, v217, xs218, rfl, rfl, (hr220).toF⟩

theorem m_interlock_Permitted_c {B : Nat} {w0 w : World} {H : Hp} {M : List Res} {p0_l : (List S_api_InterlockRule)} {states : (List S_api_InterlockState)} {closing : Bool} {name : ByteArray} {v0 : Value} {v1 : Value} {r : Bool × Int} (hm : m_interlock_Permitted p0_l states closing name = some r) (h0 : RdS H v0 p0_l) (h1 : RdS H v1 states) (ht : St B w0 H (M) w) :
    Calls Proofs.Try.prog 28 [v0, v1, .bool (closing), .string (name)].toArray w (Ret B w0 fun H' M' v => H = H' ∧ M = M' ∧ .tuple #[.bool (r.1), .int .i64 (r.2)] = v) := by
  unfold m_interlock_Permitted at hm
  refine enter Proofs.Try.func28 rfl rfl rfl ht ?_
  refine C_seq ?_
  refine C_region ?_
  refine W_assign rfl rfl rfl ?_
  refine W_assign rfl rfl rfl ?_
  refine W_end ?_
  refine E_then ?_
  refine C_seq ?_
  refine C_region ?_
  refine W_move rfl rfl rfl ?_
  refine W_move rfl rfl rfl ?_
  refine W_move rfl rfl rfl ?_
  refine W_move rfl rfl rfl ?_
  obtain ⟨r101, hc102, hm⟩ := bind_some hm
  refine W_call Proofs.Try.call35 rfl rfl rfl (fun w ht => by have h := m_interlock_Explain_c (hm := hc102) h0 h1 ht; exact h) ?_
  rintro _ _ _ ⟨rfl, v103, xs104, rfl, rfl, h105⟩
  have h105 := h105 H
  refine W_move rfl rfl rfl ?_
  refine W_extract rfl rfl rfl rfl ?_
  refine W_extract rfl rfl rfl rfl ?_
  refine W_assign rfl rfl rfl ?_
  refine W_assign rfl rfl rfl ?_
  refine W_end ?_
  refine E_then ?_
  refine C_seq_join (fun H' M' L' => H = H' ∧ M = M' ∧ [(8, .bool ((decide (r101.2 = 0)) && (decide ((r101.1.length : Int) = 0)))), (9, .int .i64 (r101.2))] = L') ?_ (fun J107 => ?_)
  · rintro _ _ _ ⟨rfl, rfl, rfl⟩
    refine C_ret ?_
    obtain rfl := Option.some.inj hm
    refine E_weak (Hp.le_refl _) ?_
    exact end2 rfl rfl rfl ⟨rfl, rfl, rfl⟩
  · refine C_region ?_
    refine W_move rfl rfl rfl ?_
    refine W_bin rfl rfl rfl rfl rfl ?_
    refine W_move rfl rfl rfl ?_
    cases hb108 : (decide (r101.2 = 0))
    · refine W_no rfl rfl rfl ?_
      refine W_no rfl rfl rfl ?_
      refine W_no rfl rfl rfl ?_
      refine W_pick rfl rfl rfl rfl ?_
      refine W_move rfl rfl rfl ?_
      refine W_assign rfl rfl rfl ?_
      refine W_assign rfl rfl rfl ?_
      refine W_end ?_
      refine E_drop (List.Sublist.cons _ (List.Sublist.refl _)) ?_
      exact E_keepJ (J107 _ _ _ ⟨rfl, rfl, rfl⟩) (List.Perm.refl _) ⟨(by show some (Value.bool (false)) = some (Value.bool ((decide (r101.2 = 0)) && (decide ((r101.1.length : Int) = 0)))); simp only [hb108, Bool.and_true, Bool.true_and, Bool.false_and, Bool.and_false, Bool.or_true, Bool.true_or, Bool.or_false, Bool.false_or, Bool.not_true, Bool.not_false]), rfl, trivial⟩
    · refine W_move rfl rfl rfl ?_
      refine W_lenO (List.mem_cons_self ..) rfl rfl Proofs.Try.runUnderlying76 rfl ?_
      refine W_bin rfl rfl rfl rfl rfl ?_
      refine W_pick rfl rfl rfl rfl ?_
      refine W_move rfl rfl rfl ?_
      refine W_assign rfl rfl rfl ?_
      refine W_assign rfl rfl rfl ?_
      refine W_end ?_
      refine E_drop (List.Sublist.cons _ (List.Sublist.refl _)) ?_
      exact E_keepJ (J107 _ _ _ ⟨rfl, rfl, rfl⟩) (List.Perm.refl _) ⟨(by show some (Value.bool (decide ((r101.1.length : Int) = 0))) = some (Value.bool ((decide (r101.2 = 0)) && (decide ((r101.1.length : Int) = 0)))); simp only [hb108, Bool.and_true, Bool.true_and, Bool.false_and, Bool.and_false, Bool.or_true, Bool.true_or, Bool.or_false, Bool.false_or, Bool.not_true, Bool.not_false]), rfl, trivial⟩

theorem clone14_c {B : Nat} {w0 w : World} {H : Hp} {M : List Res} {s : List S_api_InterlockState} {v0 : Value} (h0 : RdS H v0 s) (hz : s.length * 24 ≤ 140737488355328) (ht : St B w0 H M w) :
    Calls Proofs.Try.prog 14 [v0].toArray w (Ret B w0 fun H' M' v => H = H' ∧ ∃ (v' : Value) (xs' : List Value), .row v' 33 (Rep.sz S_api_InterlockState) s.length xs' :: M = M' ∧ v' = v ∧ RwF v' xs' s) := by
  refine enter Proofs.Try.func14 rfl rfl rfl ht ?_
  obtain ⟨o, n, c, rfl⟩ := h0.shape
  refine C_seq ?_
  refine C_region ?_
  refine W_assign rfl rfl rfl ?_
  refine W_end (E_then ?_)
  refine C_seq ?_
  refine C_seq ?_
  refine C_region ?_
  refine W_move rfl rfl rfl ?_
  refine W_eqNil rfl rfl Proofs.Try.runUnderlying23 rfl rfl ?_
  refine W_end (E_then ?_)
  cases o with
  | none =>
    refine C_cond (b := true) rfl (fun _ => ?_) (fun hb => Bool.noConfusion hb)
    obtain rfl := h0.isNil
    refine C_seq ?_
    refine C_region ?_
    refine W_assign rfl rfl rfl ?_
    refine W_end (E_then ?_)
    refine C_ret (E_ret_then ?_)
    refine E_nilRow 33 (Rep.sz S_api_InterlockState) ?_
    exact end1 rfl rfl ⟨rfl, .slice none 0 0, [], rfl, rfl, (Rw.nil (H := H)).toF⟩
  | some a =>
    refine C_cond (b := false) rfl (fun hb => Bool.noConfusion hb) (fun _ => ?_)
    refine C_skip (E_then ?_)
    refine C_seq ?_
    refine C_region ?_
    refine W_build0 S_api_InterlockState rfl rfl Proofs.Try.runUnderlying23 Proofs.Try.sizeOf33 ?_
    intro v1 xs1 h1
    refine W_move rfl rfl rfl ?_
    refine W_appendO (α := S_api_InterlockState) (l := []) (ys := s) (bytes := 24) rfl rfl Proofs.Try.underlying23 ⟨_, rfl, rfl, rfl, rfl⟩ rfl rfl rfl rfl rfl h1 h0 (by simpa using hz) ?_
    intro v2 xs2 h2
    refine W_assign rfl rfl rfl ?_
    refine W_end (E_then ?_)
    refine C_ret ?_
    exact end1 rfl rfl ⟨rfl, v2, xs2, rfl, rfl, h2.toF⟩

theorem m_interlock_Set_c {B : Nat} {w0 w : World} {H : Hp} {M : List Res} {states : (List S_api_InterlockState)} {closing : Bool} {name : ByteArray} {v0 : Value} {r : (List S_api_InterlockState) × Int} (hm : m_interlock_Set states closing name = some r) (h0 : RdS H v0 states) (ht : St B w0 H (M) w) :
    Calls Proofs.Try.prog 26 [v0, .bool (closing), .string (name)].toArray w (Ret B w0 fun H' M' v => H = H' ∧ ∃ qv0 : Value, ∃ qxs0 : List Value, .row qv0 33 (Rep.sz S_api_InterlockState) r.1.length qxs0 :: M = M' ∧ .tuple #[qv0, .int .i64 (r.2)] = v ∧ RwF qv0 qxs0 r.1) := by
  unfold m_interlock_Set at hm
  refine enter Proofs.Try.func26 rfl rfl rfl ht ?_
  refine C_seq ?_
  refine C_region ?_
  refine W_assign rfl rfl rfl ?_
  refine W_assign rfl rfl rfl ?_
  refine W_end ?_
  refine E_then ?_
  refine C_seq ?_
  refine C_seq ?_
  refine C_region ?_
  refine W_move rfl rfl rfl ?_
  obtain ⟨r101, hc102, hm⟩ := bind_some hm
  refine W_call Proofs.Try.call25 rfl rfl rfl (fun w ht => by have h := m_interlock_CheckStates_c (hm := hc102) h0 ht; exact h) ?_
  rintro _ _ _ ⟨rfl, rfl, rfl⟩
  refine W_assign rfl rfl rfl ?_
  refine W_end ?_
  refine E_then ?_
  refine C_seq ?_
  refine C_region ?_
  refine W_move rfl rfl rfl ?_
  refine W_bin rfl rfl rfl rfl rfl ?_
  refine W_end ?_
  refine E_then ?_
  refine C_cond (b := !decide (r101 = 0)) rfl (fun hb103 => ?_) (fun hb103 => ?_)
  · have hm := ite_t' hb103 hm
    refine C_seq ?_
    refine C_region ?_
    refine W_move rfl rfl rfl ?_
    refine W_assign rfl rfl rfl ?_
    refine W_assign rfl rfl rfl ?_
    refine W_end ?_
    refine E_then ?_
    refine C_ret ?_
    refine E_ret_then ?_
    refine E_nilRow 33 (Rep.sz S_api_InterlockState) ?_
    obtain rfl := Option.some.inj hm
    refine E_weak (Hp.le_refl _) ?_
    exact end2 rfl rfl rfl ⟨rfl, (.slice none 0 0), [], rfl, rfl, (Rw.nil (H := H)).toF⟩
  · have hm := ite_f' hb103 hm
    refine C_skip ?_
    refine E_then ?_
    refine C_seq ?_
    refine C_region ?_
    refine W_move rfl rfl rfl ?_
    refine W_move rfl rfl rfl ?_
    obtain ⟨r104, hc105, hm⟩ := bind_some hm
    refine W_call Proofs.Try.call33 rfl rfl rfl (fun w ht => by have h := m_interlock_index_c (hm := hc105) h0 ht; exact h) ?_
    rintro _ _ _ ⟨rfl, rfl, rfl⟩
    refine W_assign rfl rfl rfl ?_
    refine W_end ?_
    refine E_then ?_
    refine C_seq ?_
    refine C_block ?_
    refine C_seq ?_
    refine C_region ?_
    refine W_move rfl rfl rfl ?_
    refine W_bin rfl rfl rfl rfl rfl ?_
    refine W_assign rfl rfl rfl ?_
    refine W_end ?_
    refine E_then ?_
    refine C_cond (b := decide (r104 < 0)) rfl (fun hb106 => ?_) (fun hb106 => ?_)
    · have hm := ite_t' hb106 hm
      refine C_seq ?_
      refine C_region ?_
      refine W_assign rfl rfl rfl ?_
      refine W_assign rfl rfl rfl ?_
      refine W_end ?_
      refine E_then ?_
      refine C_ret ?_
      refine E_ret_block ?_
      refine E_ret_then ?_
      refine E_nilRow 33 (Rep.sz S_api_InterlockState) ?_
      obtain rfl := Option.some.inj hm
      refine E_weak (Hp.le_refl _) ?_
      exact end2 rfl rfl rfl ⟨rfl, (.slice none 0 0), [], rfl, rfl, (Rw.nil (H := H)).toF⟩
    · have hm := ite_f' hb106 hm
      refine C_seq ?_
      refine C_region ?_
      refine W_move rfl rfl rfl ?_
      refine W_move rfl rfl rfl ?_
      obtain ⟨y107, h108, he109, hm⟩ := idx_some hm
      obtain ⟨_, ⟨rfl⟩, hc110⟩ := (h0).elem he109
      refine W_indexS rfl rfl Proofs.Try.runUnderlying23 Proofs.Try.sizeOf33 rfl h0 rfl h108 he109 ?_
      refine W_field (o := 1) rfl rfl Proofs.Try.runUnderlying33 rfl Proofs.Try.sizeOf4 rfl rfl rfl ?_
      refine W_load rfl rfl Proofs.Try.isAgg4 rfl (HCells.one hc110 1 rfl).at ?_
      refine W_move rfl rfl rfl ?_
      refine W_eqBool rfl rfl Proofs.Try.runUnderlying4 rfl rfl ?_
      refine W_assign rfl rfl rfl ?_
      refine W_end ?_
      refine E_then ?_
      refine C_cond (b := decide (y107.Closed = closing)) rfl (fun hb111 => ?_) (fun hb111 => ?_)
      · have hm := ite_t' hb111 hm
        refine C_seq ?_
        refine C_region ?_
        refine W_assign rfl rfl rfl ?_
        refine W_assign rfl rfl rfl ?_
        refine W_end ?_
        refine E_then ?_
        refine C_ret ?_
        refine E_ret_block ?_
        refine E_ret_then ?_
        refine E_nilRow 33 (Rep.sz S_api_InterlockState) ?_
        obtain rfl := Option.some.inj hm
        refine E_weak (Hp.le_refl _) ?_
        exact end2 rfl rfl rfl ⟨rfl, (.slice none 0 0), [], rfl, rfl, (Rw.nil (H := H)).toF⟩
      · have hm := ite_f' hb111 hm
        refine C_skip ?_
        refine E_normal_block ?_
        refine E_then ?_
        refine C_seq ?_
        refine C_region ?_
        refine W_move rfl rfl rfl ?_
        obtain ⟨hz112, hm⟩ := need_some hm
        refine W_call Proofs.Try.call14 rfl rfl rfl (fun w ht => by have h := clone14_c (s := states) h0 hz112 ht; exact h) ?_
        rintro _ _ _ ⟨rfl, v113, xs114, rfl, rfl, hr115⟩
        have hr115 := hr115 H
        refine W_assign rfl rfl rfl ?_
        refine W_end ?_
        refine E_then ?_
        refine C_seq ?_
        refine C_region ?_
        refine W_move rfl rfl rfl ?_
        refine W_move rfl rfl rfl ?_
        refine W_move rfl rfl rfl ?_
        obtain ⟨y116, h117, he118, hm⟩ := idx_some hm
        refine W_indexO (List.mem_cons_self ..) rfl rfl Proofs.Try.runUnderlying23 Proofs.Try.sizeOf33 rfl rfl h117 (List.getElem?_eq_some_iff.1 he118).1 ?_
        obtain ⟨_, rfl, hg119⟩ := (hr115).elem he118
        refine W_field (o := 1) rfl rfl Proofs.Try.runUnderlying33 rfl Proofs.Try.sizeOf4 rfl rfl rfl ?_
        obtain ⟨hr120, he121, hg122⟩ := Rw.put (cs := [.bool (closing)]) (o := 1) (c := [.string (y116.Name), .bool (y116.Closed)]) (out := [.string (y116.Name), .bool (closing)]) (e2 := (S_api_InterlockState.mk y116.Name closing)) hr115 he118 rfl hg119 rfl rfl rfl
        refine W_storeO2 (i := (r104 : Int).toNat * Rep.sz S_api_InterlockState + 1) (cs := [.bool (closing)]) rfl Proofs.Try.sizeOf4 rfl (row_ad _ _ _) rfl rfl rfl (Rw.room hr115 he118 rfl) rfl (all_cons rfl all_nil) (n' := (states.set ((r104 : Int).toNat) (S_api_InterlockState.mk y116.Name closing)).length) List.length_set ?_
        generalize over xs114 ((r104 : Int).toNat * Rep.sz S_api_InterlockState + 1) [.bool (closing)] = xs123 at hr120 hg122 ⊢
        refine W_end ?_
        refine E_then ?_
        refine C_seq ?_
        refine C_region ?_
        refine W_move rfl rfl rfl ?_
        refine W_assign rfl rfl rfl ?_
        refine W_assign rfl rfl rfl ?_
        refine W_end ?_
        refine E_then ?_
        refine C_ret ?_
        obtain rfl := Option.some.inj hm
        refine E_weak (Hp.le_refl _) ?_
        exact end2 rfl rfl rfl ⟨rfl, v113, xs123, rfl, rfl, (hr120).toF⟩

theorem m_order_walk_c {B : Nat} {w0 w : World} {H : Hp} {M : List Res} {rules : (List S_api_InterlockRule)} {p1_from : (List S_api_InterlockState)} {held : (List ByteArray)} {v0 : Value} {v1 : Value} {v2 : Value} {r : (List Int)} (hm : m_order_walk rules p1_from held = some r) (h0 : RdS H v0 rules) (h1 : RdS H v1 p1_from) (h2 : RdS H v2 held) (ht : St B w0 H (M) w) :
    Calls Proofs.Try.prog 19 [v0, v1, v2].toArray w (Ret B w0 fun H' M' v => H = H' ∧ ∃ qxs0 : List Value, M = M' ∧ .agg (qxs0).toArray = v ∧ RdCF qxs0 r ∧ r.length = 256) := by
  unfold m_order_walk at hm
  refine enter Proofs.Try.func19 rfl rfl rfl ht ?_
  refine C_seq ?_
  refine C_region ?_
  refine W_allocArr (α := Int) (z := .agg ((List.replicate 256 (0 : Int)).map (Value.int .i64)).toArray) (cs := (List.replicate 256 (0 : Int)).map (Value.int .i64)) (l := List.replicate 256 (0 : Int)) (n := 256) rfl rfl (fun _ => by kernel_rfl) (by kernel_rfl) (RdC.ints _) (by kernel_rfl) rfl ?_
  intro v101 hr102
  have hl103 : (List.replicate 256 (0 : Int)).length = 256 := by first | rfl | (simp only [List.length_set, List.length_replicate, *])
  refine W_end ?_
  refine E_then ?_
  refine C_seq ?_
  refine C_region ?_
  refine W_allocArr (α := Int) (z := .agg ((List.replicate 256 (0 : Int)).map (Value.int .i64)).toArray) (cs := (List.replicate 256 (0 : Int)).map (Value.int .i64)) (l := List.replicate 256 (0 : Int)) (n := 256) rfl rfl (fun _ => by kernel_rfl) (by kernel_rfl) (RdC.ints _) (by kernel_rfl) rfl ?_
  intro v104 hr105
  have hl106 : (List.replicate 256 (0 : Int)).length = 256 := by first | rfl | (simp only [List.length_set, List.length_replicate, *])
  refine W_end ?_
  refine E_then ?_
  refine C_seq ?_
  refine C_seq ?_
  refine C_region ?_
  refine W_move rfl rfl rfl ?_
  refine W_end ?_
  refine E_then ?_
  refine C_block ?_
  refine C_keep (L' := [(0, v0), (1, v1), (2, v2), (6, .pointer (some (Value.base v101))), (7, .pointer (some (Value.base v104))), (17, .int .i64 (((0 : Nat) : Int)))]) ⟨rfl, rfl, rfl, rfl, rfl, rfl, trivial⟩ (List.Perm.refl _) ?_
  refine C_loop (fun n H' M' L' => ∃ (k107 : Nat) (zs144' : Nat), ∃ l135 : List Int, ∃ xs134 : List Value, k107 + zs144' = (256 : Int).toNat ∧ zs144' = n ∧ forN (fun k s n => m_order_walk_b1 k s n) (fun s => (m_order_code p1_from).bind fun r158 => idx s r158 fun y160 => loopF (fun s n => m_order_walk_b10 rules held s.1 s.2 n) FUEL (([p1_from]), (s.set ((r158 : Int).toNat) ((-1))))) zs144' k107 l135 = some r ∧ Rw H' v104 xs134 l135 ∧ l135.length = 256 ∧ H.le H' ∧ .row v104 53 (Rep.sz Int) l135.length xs134 :: .row v101 53 (Rep.sz Int) (List.replicate 256 (0 : Int)).length ((List.replicate 256 (0 : Int)).map (Value.int .i64)) :: M = M' ∧ [(0, v0), (1, v1), (2, v2), (6, .pointer (some (Value.base v101))), (7, .pointer (some (Value.base v104))), (17, .int .i64 ((k107 : Int)))] = L') _ ⟨0, _, (List.replicate 256 (0 : Int)), ((List.replicate 256 (0 : Int)).map (Value.int .i64)), Nat.zero_add _, rfl, hm, hr105, hl106, (Hp.le_refl _), rfl, rfl⟩ ?_
  rintro _ H138 _ _ ⟨k107, zs144', l135, xs134, hd146, rfl, hm, hr136, hl137, hle139, rfl, rfl⟩
  refine C_seq ?_
  refine C_region ?_
  refine W_bin rfl rfl rfl rfl rfl ?_
  refine W_end (E_then ?_)
  refine C_seq ?_
  refine C_cond (b := decide ((k107 : Int) < 256)) rfl (fun hb148 => ?_) (fun hb148 => ?_)
  · obtain ⟨zs144, rfl, hd147, hy145⟩ := rngN_t hd146 hb148
    have hm : m_order_walk_b1 k107 l135 (forN (fun k s n => m_order_walk_b1 k s n) (fun s => (m_order_code p1_from).bind fun r158 => idx s r158 fun y160 => loopF (fun s n => m_order_walk_b10 rules held s.1 s.2 n) FUEL (([p1_from]), (s.set ((r158 : Int).toNat) ((-1))))) zs144 (k107 + 1)) = some r := hm
    generalize hn141 : forN (fun k s n => m_order_walk_b1 k s n) (fun s => (m_order_code p1_from).bind fun r158 => idx s r158 fun y160 => loopF (fun s n => m_order_walk_b10 rules held s.1 s.2 n) FUEL (([p1_from]), (s.set ((r158 : Int).toNat) ((-1))))) zs144 (k107 + 1) = nx140 at hm
    unfold m_order_walk_b1 at hm
    refine C_skip (E_then ?_)
    refine C_seq ?_
    refine C_block ?_
    refine C_seq ?_
    refine C_region ?_
    refine W_move rfl rfl rfl ?_
    refine W_assign rfl rfl rfl ?_
    refine W_end ?_
    refine E_then ?_
    refine C_region ?_
    refine W_move rfl rfl rfl ?_
    obtain ⟨y149, h150, he151, hm⟩ := idx_some hm
    refine W_indexArr (List.mem_cons_self ..) rfl rfl Proofs.Try.runUnderlying53 Proofs.Try.sizeOf3 hl137 rfl rfl h150 (List.getElem?_eq_some_iff.1 he151).1 ?_
    obtain ⟨_, rfl, hg152⟩ := (hr136).elem he151
    obtain ⟨hr153, he154, hg155⟩ := Rw.put (cs := [.int .i64 ((-2))]) (o := 0) (c := [.int .i64 (y149)]) (out := [.int .i64 ((-2))]) (e2 := ((-2))) hr136 he151 rfl hg152 rfl rfl rfl
    refine W_storeO2 (i := ((k107 : Int) : Int).toNat * Rep.sz Int + 0) (cs := [.int .i64 ((-2))]) rfl Proofs.Try.sizeOf3 rfl (row_ad0 _ _) rfl rfl rfl (Rw.room hr136 he151 rfl) rfl (all_cons rfl all_nil) (n' := (l135.set (((k107 : Int) : Int).toNat) ((-2))).length) List.length_set ?_
    generalize over xs134 (((k107 : Int) : Int).toNat * Rep.sz Int + 0) [.int .i64 ((-2))] = xs156 at hr153 hg155 ⊢
    have hl157 : (l135.set (((k107 : Int) : Int).toNat) ((-2))).length = 256 := by rw [List.length_set]; exact hl137
    refine W_end ?_
    refine E_normal_block ?_
    refine E_then ?_
    refine C_region ?_
    refine W_bin rfl rfl rfl rfl rfl ?_
    refine W_move rfl rfl rfl ?_
    refine W_end ?_
    exact E_keepJ (E_back (Nat.lt_succ_self _) ⟨k107 + 1, zs144, (l135.set (((k107 : Int) : Int).toNat) ((-2))), xs156, hd147, rfl, (by rw [hn141]; exact hm), hr153, hl157, hle139, rfl, rfl⟩) (List.Perm.refl _) ⟨rfl, rfl, rfl, rfl, rfl, (congrArg (fun z => some (Value.int .i64 z)) (i64_succN hy145 (toNat_max (by decide)))), trivial⟩
  · obtain rfl := rngN_f hd146 hb148
    have hm : ((m_order_code p1_from).bind fun r158 => idx l135 r158 fun y160 => loopF (fun s n => m_order_walk_b10 rules held s.1 s.2 n) FUEL (([p1_from]), (l135.set ((r158 : Int).toNat) ((-1))))) = some r := hm
    refine C_exit (E_exit_then ?_)
    refine E_exit_then ?_
    refine E_exit_hit ?_
    refine E_then ?_
    refine C_seq ?_
    refine C_region ?_
    refine W_move rfl rfl rfl ?_
    obtain ⟨r158, hc159, hm⟩ := bind_some hm
    refine W_call Proofs.Try.call20 rfl rfl rfl (fun w ht => by have h := m_order_code_c (hm := hc159) (h1.mono hle139) ht; exact h) ?_
    rintro _ _ _ ⟨rfl, rfl, rfl⟩
    obtain ⟨y160, h161, he162, hm⟩ := idx_some hm
    refine W_indexArr (List.mem_cons_self ..) rfl rfl Proofs.Try.runUnderlying53 Proofs.Try.sizeOf3 hl137 rfl rfl h161 (List.getElem?_eq_some_iff.1 he162).1 ?_
    obtain ⟨_, rfl, hg163⟩ := (hr136).elem he162
    obtain ⟨hr164, he165, hg166⟩ := Rw.put (cs := [.int .i64 ((-1))]) (o := 0) (c := [.int .i64 (y160)]) (out := [.int .i64 ((-1))]) (e2 := ((-1))) hr136 he162 rfl hg163 rfl rfl rfl
    refine W_storeO2 (i := (r158 : Int).toNat * Rep.sz Int + 0) (cs := [.int .i64 ((-1))]) rfl Proofs.Try.sizeOf3 rfl (row_ad0 _ _) rfl rfl rfl (Rw.room hr136 he162 rfl) rfl (all_cons rfl all_nil) (n' := (l135.set ((r158 : Int).toNat) ((-1))).length) List.length_set ?_
    generalize over xs134 ((r158 : Int).toNat * Rep.sz Int + 0) [.int .i64 ((-1))] = xs167 at hr164 hg166 ⊢
    have hl168 : (l135.set ((r158 : Int).toNat) ((-1))).length = 256 := by rw [List.length_set]; exact hl137
    refine W_end ?_
    refine E_then ?_
    refine C_seq ?_
    refine C_seq ?_
    refine C_region ?_
    refine W_move rfl rfl rfl ?_
    refine W_buildSliceO (α := (List S_api_InterlockState)) (css := [[v1]]) (zs := [.slice none 0 0]) (out := [v1]) (ys := [p1_from]) rfl rfl rfl ⟨(RdS.cells (h1.mono hle139)), trivial⟩ Proofs.Try.runUnderlying69 Proofs.Try.sizeOf23 rfl Proofs.Try.zeroValue23 (by kernel_rfl) rfl rfl rfl rfl ⟨[v1], [], rfl, ⟨v1, rfl, (h1.mono hle139)⟩, rfl⟩ rfl ?_
    intro v169 xs170 hr171
    refine W_assign rfl rfl rfl ?_
    refine W_end ?_
    refine E_then ?_
    refine C_block ?_
    refine C_keep (L' := [(0, v0), (2, v2), (6, .pointer (some (Value.base v101))), (7, .pointer (some (Value.base v104))), (9, v169)]) ⟨rfl, rfl, rfl, rfl, rfl, trivial⟩ (List.Perm.refl _) ?_
    refine C_loop (fun n H' M' L' => ∃ l962 : List (List S_api_InterlockState), ∃ l965 : List Int, ∃ v960 : Value, ∃ xs961 : List Value, ∃ xs964 : List Value, loopF (fun s n => m_order_walk_b10 rules held s.1 s.2 n) n (l962, l965) = some r ∧ Rw H' v960 xs961 l962 ∧ Rw H' v104 xs964 l965 ∧ l965.length = 256 ∧ H138.le H' ∧ .row v960 23 (Rep.sz (List S_api_InterlockState)) l962.length xs961 :: .row v104 53 (Rep.sz Int) l965.length xs964 :: .row v101 53 (Rep.sz Int) (List.replicate 256 (0 : Int)).length ((List.replicate 256 (0 : Int)).map (Value.int .i64)) :: M = M' ∧ [(0, v0), (2, v2), (6, .pointer (some (Value.base v101))), (7, .pointer (some (Value.base v104))), (9, v960)] = L') FUEL ⟨([p1_from]), (l135.set ((r158 : Int).toNat) ((-1))), v169, xs170, xs167, hm, hr171, hr164, hl168, (Hp.le_refl _), rfl, rfl⟩ ?_
    rintro n972 H968 _ _ ⟨l962, l965, v960, xs961, xs964, hm, hr963, hr966, hl967, hle969, rfl, rfl⟩
    cases n972 with
    | zero => cases hm
    | succ n972 =>
      have hm : m_order_walk_b10 rules held l962 l965 (loopF (fun s n => m_order_walk_b10 rules held s.1 s.2 n) n972) = some r := hm
      generalize hn971 : loopF (fun s n => m_order_walk_b10 rules held s.1 s.2 n) n972 = nx970 at hm
      unfold m_order_walk_b10 at hm
      refine C_seq ?_
      refine C_seq ?_
      refine C_region ?_
      refine W_move rfl rfl rfl ?_
      refine W_lenO (List.mem_cons_self ..) rfl rfl Proofs.Try.runUnderlying69 rfl ?_
      refine W_bin rfl rfl rfl rfl rfl ?_
      refine W_end ?_
      refine E_then ?_
      refine C_cond (b := decide (0 < (l962.length : Int))) rfl (fun hb978 => ?_) (fun hb978 => ?_)
      · have hm := ite_t' hb978 hm
        refine C_skip ?_
        refine E_then ?_
        refine C_block ?_
        refine C_seq ?_
        refine C_region ?_
        refine W_move rfl rfl rfl ?_
        obtain ⟨y979, h980, he981, hm⟩ := idx_some hm
        refine W_indexO (List.mem_cons_self ..) rfl rfl Proofs.Try.runUnderlying69 Proofs.Try.sizeOf23 rfl rfl h980 (List.getElem?_eq_some_iff.1 he981).1 ?_
        obtain ⟨_, ⟨v983, rfl, h984⟩, hg982⟩ := (hr963).elem he981
        refine W_load rfl rfl Proofs.Try.isAgg23 rfl (row_one0 (List.mem_cons_self ..) hg982 rfl) ?_
        refine W_assign rfl rfl rfl ?_
        refine W_end ?_
        refine E_then ?_
        refine C_seq ?_
        refine C_region ?_
        refine W_move rfl rfl rfl ?_
        obtain ⟨hz985, hm⟩ := need_some hm
        refine W_sliceO (α := (List S_api_InterlockState)) (l := (1 : Int).toNat) (h := l962.length) rfl rfl Proofs.Try.runUnderlying69 Proofs.Try.sizeOf23 rfl rfl hr963 (by omega) (by omega) (fun m hmm => (.inl ⟨rfl, rfl⟩)) (.inr ⟨_, _, _, rfl, rfl, by omega, by omega, rfl⟩) ?_
        intro v986 xs987 hr988
        refine W_assign rfl rfl rfl ?_
        refine W_end ?_
        refine E_then ?_
        refine C_seq ?_
        refine C_region ?_
        refine W_move rfl rfl rfl ?_
        refine W_lenR rfl rfl Proofs.Try.runUnderlying23 rfl h984 ?_
        refine W_move rfl rfl rfl ?_
        refine W_end ?_
        refine E_then ?_
        refine C_block ?_
        refine C_keep (L' := [(0, v0), (2, v2), (6, .pointer (some (Value.base v101))), (7, .pointer (some (Value.base v104))), (9, v986), (10, v983), (36, v983), (37, .int .i64 ((y979.length : Int))), (38, .int .i64 (((0 : Nat) : Int)))]) ⟨rfl, rfl, rfl, rfl, rfl, rfl, rfl, rfl, rfl, trivial⟩ (List.Perm.refl _) ?_
        refine C_loop (fun n H' M' L' => ∃ (k989 : Nat) (zs1246' : List S_api_InterlockState), ∃ l1234 : List (List S_api_InterlockState), ∃ l1237 : List Int, ∃ v1232 : Value, ∃ xs1233 : List Value, ∃ xs1236 : List Value, (y979).drop k989 = zs1246' ∧ zs1246'.length = n ∧ forI (fun k y s n => m_order_walk_b13 rules held y979 k y s.1 s.2 n) (fun s => nx970 (s.1, s.2)) k989 zs1246' (l1234, l1237) = some r ∧ Rw H' v1232 xs1233 l1234 ∧ Rw H' v104 xs1236 l1237 ∧ l1237.length = 256 ∧ H968.le H' ∧ .row v1232 23 (Rep.sz (List S_api_InterlockState)) l1234.length xs1233 :: .row v104 53 (Rep.sz Int) l1237.length xs1236 :: .row v101 53 (Rep.sz Int) (List.replicate 256 (0 : Int)).length ((List.replicate 256 (0 : Int)).map (Value.int .i64)) :: M = M' ∧ [(0, v0), (2, v2), (6, .pointer (some (Value.base v101))), (7, .pointer (some (Value.base v104))), (9, v1232), (10, v983), (36, v983), (37, .int .i64 ((y979.length : Int))), (38, .int .i64 ((k989 : Int)))] = L') _ ⟨0, _, (slc l962 (1 : Int).toNat l962.length), l965, v986, xs987, xs964, rfl, rfl, hm, hr988, hr966, hl967, (Hp.le_refl _), rfl, rfl⟩ ?_
        rintro _ H1240 _ _ ⟨k989, zs1246', l1234, l1237, v1232, xs1233, xs1236, hd1248, rfl, hm, hr1235, hr1238, hl1239, hle1241, rfl, rfl⟩
        refine C_seq ?_
        refine C_region ?_
        refine W_bin rfl rfl rfl rfl rfl ?_
        refine W_end (E_then ?_)
        refine C_seq ?_
        refine C_cond (b := decide ((k989 : Int) < (y979.length : Int))) rfl (fun hb1250 => ?_) (fun hb1250 => ?_)
        · obtain ⟨y1245, zs1246, rfl, hy1247, hd1249⟩ := rng_t hd1248 hb1250
          have hm : m_order_walk_b13 rules held y979 k989 y1245 l1234 l1237 (forI (fun k y s n => m_order_walk_b13 rules held y979 k y s.1 s.2 n) (fun s => nx970 (s.1, s.2)) (k989 + 1) zs1246) = some r := hm
          generalize hn1243 : forI (fun k y s n => m_order_walk_b13 rules held y979 k y s.1 s.2 n) (fun s => nx970 (s.1, s.2)) (k989 + 1) zs1246 = nx1242 at hm
          unfold m_order_walk_b13 at hm
          refine C_skip (E_then ?_)
          refine C_seq_join (fun H' M' L' => ∃ l1303 : List (List S_api_InterlockState), ∃ l1306 : List Int, ∃ v1301 : Value, ∃ xs1302 : List Value, ∃ xs1305 : List Value, m_order_walk_b14 nx1242 l1303 l1306 = some r ∧ Rw H' v1301 xs1302 l1303 ∧ Rw H' v104 xs1305 l1306 ∧ l1306.length = 256 ∧ H1240.le H' ∧ .row v1301 23 (Rep.sz (List S_api_InterlockState)) l1303.length xs1302 :: .row v104 53 (Rep.sz Int) l1306.length xs1305 :: .row v101 53 (Rep.sz Int) (List.replicate 256 (0 : Int)).length ((List.replicate 256 (0 : Int)).map (Value.int .i64)) :: M = M' ∧ [(0, v0), (2, v2), (6, .pointer (some (Value.base v101))), (7, .pointer (some (Value.base v104))), (9, v1301), (10, v983), (36, v983), (37, .int .i64 ((y979.length : Int))), (38, .int .i64 ((k989 : Int)))] = L') ?_ (fun J1311 => ?_)
          · rintro H1309 _ _ ⟨l1303, l1306, v1301, xs1302, xs1305, hm, hr1304, hr1307, hl1308, hle1310, rfl, rfl⟩
            unfold m_order_walk_b14 at hm
            refine C_region ?_
            refine W_bin rfl rfl rfl rfl rfl ?_
            refine W_move rfl rfl rfl ?_
            refine W_end ?_
            exact E_keepJ (E_back (Nat.lt_succ_self _) ⟨k989 + 1, zs1246, l1303, l1306, v1301, xs1302, xs1305, hd1249, rfl, (by rw [hn1243]; exact hm), hr1304, hr1307, hl1308, (Hp.le_trans hle1241 hle1310), rfl, rfl⟩) (List.Perm.refl _) ⟨rfl, rfl, rfl, rfl, rfl, rfl, rfl, rfl, (congrArg (fun z => some (Value.int .i64 z)) (i64_succ hy1247 ((h984.mono hle1241)).lenMax)), trivial⟩
          · refine C_block ?_
            refine C_seq ?_
            refine C_region ?_
            refine W_move rfl rfl rfl ?_
            obtain ⟨_, ⟨rfl⟩, hc1312⟩ := (h984).elem hy1247
            refine W_indexS rfl rfl Proofs.Try.runUnderlying23 Proofs.Try.sizeOf33 rfl (h984.mono hle1241) rfl (Int.natCast_nonneg _) hy1247 ?_
            refine W_loadAgg rfl rfl Proofs.Try.isAgg33 Proofs.Try.sizeOf33 rfl (hc1312.mono hle1241).at rfl ?_
            refine W_alloc (cs := [.string (⟨#[]⟩), .bool (false)]) rfl rfl Proofs.Try.zeroValue33 rfl (fun b1313 => ?_)
            refine W_assign rfl rfl rfl ?_
            refine W_store (cs := [.string (y1245.Name), .bool (y1245.Closed)]) (out := [.string (y1245.Name), .bool (y1245.Closed)]) rfl Proofs.Try.sizeOf33 rfl rfl rfl rfl rfl (all_cons rfl (all_cons rfl all_nil)) (over_all rfl) ?_
            refine W_end ?_
            refine E_then ?_
            refine C_seq ?_
            refine C_seq ?_
            obtain ⟨r1314, hc1315, hm⟩ := bind_some hm
            cases hb1316 : (r1314)
            · have hm := ite_f' hb1316 hm
              obtain ⟨r1317, hc1318, hm⟩ := bind_some hm
              obtain ⟨hq1319, hm⟩ := need_some hm
              refine C_region_tok0 9 (phiT [(fun H rs v => [] = rs ∧ v2 = v), (fun H rs v => [] = rs ∧ .pointer (some ⟨b1313, 0, none⟩) = v), (fun H rs v => [] = rs ∧ .string (y1245.Name) = v), (fun H rs v => [] = rs ∧ .bool (false) = v), (fun H rs v => [] = rs ∧ .bool (false) = v), (fun H rs v => [] = rs ∧ v983 = v), (fun H rs v => [] = rs ∧ .int .i64 (r1317) = v), (fun H rs v => [] = rs ∧ .int .i64 ((k989 : Int)) = v), (fun H rs v => [] = rs ∧ .int .i64 (shlV .i64 1 (k989 : Int)) = v)]) [[], [], [], [], [], [], [], [], []] [[], [], [], [], [], [], [], [], []] [] [0, 1, 2, 3, 4, 5, 6, 7, 8] Facts.mixed (by kernel_rfl) rfl rfl rfl (by kernel_rfl) (phiT_mono ⟨eq_monoT _ _, eq_monoT _ _, eq_monoT _ _, eq_monoT _ _, eq_monoT _ _, eq_monoT _ _, eq_monoT _ _, eq_monoT _ _, eq_monoT _ _, trivial⟩) ⟨?_, ?_, ?_, ?_, ?_, ?_, ?_, ?_, ?_, trivial⟩ ?_
              · intro HX hX X Rest hR
                intro hU
                refine W_move rfl rfl rfl ?_
                exact W_end (OneT_end [] (Hp.le_refl _) ⟨rfl, rfl⟩)
              · intro HX hX X Rest hR
                intro hU
                refine W_field (o := 0) rfl rfl Proofs.Try.runUnderlying33 rfl Proofs.Try.sizeOf9 rfl rfl rfl ?_
                exact W_end (OneT_end [] (Hp.le_refl _) ⟨rfl, rfl⟩)
              · intro HX hX X Rest hR
                rintro _ _ ⟨rfl, rfl⟩
                intro hU
                refine W_load rfl rfl Proofs.Try.isAgg9 rfl (own_at (hR _ (List.mem_cons_self ..)) rfl) ?_
                exact W_end (OneT_end [] (Hp.le_refl _) ⟨rfl, rfl⟩)
              · intro HX hX X Rest hR
                rintro _ _ ⟨rfl, rfl⟩
                rintro _ _ ⟨rfl, rfl⟩
                intro hU
                refine W_call Proofs.Try.call27 rfl rfl rfl (fun w ht => by have h := m_slices_Contains_string_string_c (hm := hc1315) ((((h2.mono hle139).mono hle969).mono hle1241).mono hX) ht; exact h) ?_
                rintro _ _ _ ⟨rfl, rfl, rfl⟩
                exact W_end (OneT_end [] (Hp.le_refl _) ⟨rfl, (by rw [hb1316]; try rfl)⟩)
              · intro HX hX X Rest hR
                rintro _ _ ⟨rfl, rfl⟩
                rintro _ _ ⟨rfl, rfl⟩
                intro hU
                refine W_move rfl rfl rfl ?_
                exact W_end (OneT_end [] (Hp.le_refl _) ⟨rfl, rfl⟩)
              · intro HX hX X Rest hR
                rintro _ _ ⟨rfl, rfl⟩
                intro hU
                refine W_move rfl rfl rfl ?_
                exact W_end (OneT_end [] (Hp.le_refl _) ⟨rfl, rfl⟩)
              · intro HX hX X Rest hR
                rintro _ _ ⟨rfl, rfl⟩
                rintro _ _ ⟨rfl, rfl⟩
                rintro _ _ ⟨rfl, rfl⟩
                intro hU
                refine W_call Proofs.Try.call20 rfl rfl rfl (fun w ht => by have h := m_order_code_c (hm := hc1318) ((h984.mono hle1241).mono hX) ht; exact h) ?_
                rintro _ _ _ ⟨rfl, rfl, rfl⟩
                exact W_end (OneT_end [] (Hp.le_refl _) ⟨rfl, rfl⟩)
              · intro HX hX X Rest hR
                rintro _ _ ⟨rfl, rfl⟩
                intro hU
                refine W_move rfl rfl rfl ?_
                exact W_end (OneT_end [] (Hp.le_refl _) ⟨rfl, rfl⟩)
              · intro HX hX X Rest hR
                rintro _ _ ⟨rfl, rfl⟩
                rintro _ _ ⟨rfl, rfl⟩
                intro hU
                refine W_shl rfl rfl rfl rfl hq1319 ?_
                exact W_end (OneT_end [] (Hp.le_refl _) ⟨rfl, rfl⟩)
              intro H1320 hle1321
              rintro _ _ ⟨rfl, rfl⟩
              rintro _ _ ⟨rfl, rfl⟩
              rintro _ _ ⟨rfl, rfl⟩
              rintro _ _ ⟨rfl, rfl⟩
              rintro _ _ ⟨rfl, rfl⟩
              rintro _ _ ⟨rfl, rfl⟩
              rintro _ _ ⟨rfl, rfl⟩
              rintro _ _ ⟨rfl, rfl⟩
              rintro _ _ ⟨rfl, rfl⟩
              refine W_bin rfl rfl rfl rfl rfl ?_
              obtain ⟨y1322, h1323, he1324, hm⟩ := idx_some hm
              refine W_indexArr (List.mem_cons_of_mem _ (List.mem_cons_of_mem _ (List.mem_cons_self ..))) rfl rfl Proofs.Try.runUnderlying53 Proofs.Try.sizeOf3 hl1239 rfl rfl h1323 (List.getElem?_eq_some_iff.1 he1324).1 ?_
              obtain ⟨_, rfl, hg1325⟩ := (hr1238).elem he1324
              refine W_load rfl rfl Proofs.Try.isAgg3 rfl (row_one0 (List.mem_cons_of_mem _ (List.mem_cons_of_mem _ (List.mem_cons_self ..))) hg1325 rfl) ?_
              refine W_bin rfl rfl rfl rfl rfl ?_
              refine W_pick rfl rfl rfl rfl ?_
              refine W_end ?_
              refine E_then ?_
              refine C_cond (b := !decide (y1322 = (-2))) rfl (fun hb1326 => ?_) (fun hb1326 => ?_)
              · have hm := ite_t' hb1326 hm
                refine C_exit ?_
                refine E_exit_then ?_
                refine E_exit_hit ?_
                refine E_drop (List.Sublist.cons _ (List.Sublist.refl _)) ?_
                exact E_keepJ (J1311 _ _ _ ⟨l1234, l1237, v1232, xs1233, xs1236, hm, (hr1235.mono hle1321), (hr1238.mono hle1321), hl1239, hle1321, rfl, rfl⟩) (List.Perm.refl _) ⟨rfl, rfl, rfl, rfl, rfl, rfl, rfl, rfl, rfl, trivial⟩
              · have hm := ite_f' hb1326 hm
                refine C_skip ?_
                refine E_then ?_
                refine C_seq ?_
                refine C_region ?_
                refine W_move rfl rfl rfl ?_
                refine W_move rfl rfl rfl ?_
                refine W_field (o := 1) rfl rfl Proofs.Try.runUnderlying33 rfl Proofs.Try.sizeOf4 rfl rfl rfl ?_
                refine W_load rfl rfl Proofs.Try.isAgg4 rfl (own_at (List.mem_cons_self ..) rfl) ?_
                refine W_un rfl rfl rfl rfl ?_
                refine W_field (o := 0) rfl rfl Proofs.Try.runUnderlying33 rfl Proofs.Try.sizeOf9 rfl rfl rfl ?_
                refine W_load rfl rfl Proofs.Try.isAgg9 rfl (own_at (List.mem_cons_self ..) rfl) ?_
                obtain ⟨r1327, hc1328, hm⟩ := bind_some hm
                refine W_call Proofs.Try.call28 rfl rfl rfl (fun w ht => by have h := m_interlock_Permitted_c (hm := hc1328) ((((h0.mono hle139).mono hle969).mono hle1241).mono hle1321) ((h984.mono hle1241).mono hle1321) ht; exact h) ?_
                rintro _ _ _ ⟨rfl, rfl, rfl⟩
                refine W_move rfl rfl rfl ?_
                refine W_extract rfl rfl rfl rfl ?_
                refine W_extract rfl rfl rfl rfl ?_
                refine W_assign rfl rfl rfl ?_
                refine W_assign rfl rfl rfl ?_
                refine W_end ?_
                refine E_then ?_
                refine C_seq ?_
                refine C_region ?_
                refine W_move rfl rfl rfl ?_
                refine W_end ?_
                refine E_then ?_
                refine C_cond (b := r1327.1) rfl (fun hb1329 => ?_) (fun hb1329 => ?_)
                · have hm := ite_t' hb1329 hm
                  refine C_seq ?_
                  refine C_region ?_
                  refine W_move rfl rfl rfl ?_
                  refine W_field (o := 1) rfl rfl Proofs.Try.runUnderlying33 rfl Proofs.Try.sizeOf4 rfl rfl rfl ?_
                  refine W_load rfl rfl Proofs.Try.isAgg4 rfl (own_at (List.mem_cons_self ..) rfl) ?_
                  refine W_un rfl rfl rfl rfl ?_
                  refine W_field (o := 0) rfl rfl Proofs.Try.runUnderlying33 rfl Proofs.Try.sizeOf9 rfl rfl rfl ?_
                  refine W_load rfl rfl Proofs.Try.isAgg9 rfl (own_at (List.mem_cons_self ..) rfl) ?_
                  obtain ⟨r1330, hc1331, hm⟩ := bind_some hm
                  refine W_call Proofs.Try.call26 rfl rfl rfl (fun w ht => by have h := m_interlock_Set_c (hm := hc1331) ((h984.mono hle1241).mono hle1321) ht; exact h) ?_
                  rintro _ _ _ ⟨rfl, v1332, xs1333, rfl, rfl, h1334⟩
                  have h1334 := h1334 H1320
                  refine W_move rfl rfl rfl ?_
                  refine W_extract rfl rfl rfl rfl ?_
                  refine W_extract rfl rfl rfl rfl ?_
                  refine W_assign rfl rfl rfl ?_
                  refine W_assign rfl rfl rfl ?_
                  refine W_end ?_
                  refine E_then ?_
                  refine C_seq ?_
                  refine C_region ?_
                  refine W_move rfl rfl rfl ?_
                  obtain ⟨r1335, hc1336, hm⟩ := bind_some hm
                  refine W_call Proofs.Try.call20 rfl rfl rfl (fun w ht => by obtain ⟨H0_, hl0_, ht0_, hr0_, bk0_⟩ := ht.lendRow h1334 rfl; have h := m_order_code_c (hm := hc1336) hr0_ ht0_; exact lend_back bk0_ (h)) ?_
                  rintro _ _ _ ⟨rfl, ⟨_, rfl, rfl, rfl⟩⟩
                  refine W_move rfl rfl rfl ?_
                  obtain ⟨y1337, h1338, he1339, hm⟩ := idx_some hm
                  refine W_indexArr (List.mem_cons_of_mem _ (List.mem_cons_of_mem _ (List.mem_cons_of_mem _ (List.mem_cons_self ..)))) rfl rfl Proofs.Try.runUnderlying53 Proofs.Try.sizeOf3 hl1239 rfl rfl h1338 (List.getElem?_eq_some_iff.1 he1339).1 ?_
                  obtain ⟨_, rfl, hg1340⟩ := (hr1238).elem he1339
                  refine W_perm (List.Perm.trans (List.Perm.cons _ (List.Perm.cons _ (List.Perm.swap _ _ _))) (List.Perm.trans (List.Perm.cons _ (List.Perm.swap _ _ _)) (List.Perm.swap _ _ _))) ?_
                  obtain ⟨hr1341, he1342, hg1343⟩ := Rw.put (cs := [.int .i64 ((k989 : Int))]) (o := 0) (c := [.int .i64 (y1337)]) (out := [.int .i64 ((k989 : Int))]) (e2 := ((k989 : Int))) (hr1238.mono hle1321) he1339 rfl hg1340 rfl rfl rfl
                  refine W_storeO2 (i := (r1335 : Int).toNat * Rep.sz Int + 0) (cs := [.int .i64 ((k989 : Int))]) rfl Proofs.Try.sizeOf3 rfl (row_ad0 _ _) rfl rfl rfl (Rw.room (hr1238.mono hle1321) he1339 rfl) rfl (all_cons rfl all_nil) (n' := (l1237.set ((r1335 : Int).toNat) ((k989 : Int))).length) List.length_set ?_
                  generalize over xs1236 ((r1335 : Int).toNat * Rep.sz Int + 0) [.int .i64 ((k989 : Int))] = xs1344 at hr1341 hg1343 ⊢
                  have hl1345 : (l1237.set ((r1335 : Int).toNat) ((k989 : Int))).length = 256 := by rw [List.length_set]; exact hl1239
                  refine W_end ?_
                  refine E_then ?_
                  refine C_region ?_
                  refine W_move rfl rfl rfl ?_
                  refine W_move rfl rfl rfl ?_
                  refine W_perm (List.Perm.swap _ _ _) ?_
                  refine W_freeze (h1334).rd rfl (fun H1346 hle1347 h1348 => ?_)
                  refine W_buildSlice (α := (List S_api_InterlockState)) (css := [[v1332]]) (zs := [.slice none 0 0]) (out := [v1332]) (ys := [r1330.1]) rfl rfl rfl ⟨(RdS.cells h1348), trivial⟩ Proofs.Try.runUnderlying69 Proofs.Try.sizeOf23 rfl Proofs.Try.zeroValue23 (by kernel_rfl) rfl rfl rfl rfl ⟨[v1332], [], rfl, ⟨v1332, rfl, h1348⟩, rfl⟩ rfl ?_
                  intro b1349 v1350 H1351 hv1352 hle1353 h1354
                  have hc1355 : Value.cap' v1350 = ([r1330.1]).length := by rw [hv1352]; rfl
                  obtain ⟨hz1356, hm⟩ := need_some hm
                  refine W_perm (List.Perm.trans (List.Perm.cons _ (List.Perm.swap _ _ _)) (List.Perm.swap _ _ _)) ?_
                  refine W_appendO (α := (List S_api_InterlockState)) (l := l1234) (ys := [r1330.1]) rfl rfl Proofs.Try.underlying69 ⟨_, rfl, rfl, rfl, rfl⟩ rfl rfl rfl rfl rfl (((hr1235.mono hle1321).mono hle1347).mono hle1353) h1354 hz1356 ?_
                  intro v1357 xs1358 hr1359
                  refine W_assign rfl rfl rfl ?_
                  refine W_end ?_
                  refine E_normal_block ?_
                  refine E_drop (List.Sublist.cons_cons _ (List.Sublist.cons_cons _ (List.Sublist.cons _ (List.Sublist.refl _)))) ?_
                  exact E_keepJ (J1311 _ _ _ ⟨(l1234 ++ ([r1330.1])), (l1237.set ((r1335 : Int).toNat) ((k989 : Int))), v1357, xs1358, xs1344, hm, hr1359, ((hr1341.mono hle1347).mono hle1353), hl1345, (Hp.le_trans (Hp.le_trans hle1321 hle1347) hle1353), rfl, rfl⟩) (List.Perm.refl _) ⟨rfl, rfl, rfl, rfl, rfl, rfl, rfl, rfl, rfl, trivial⟩
                · have hm := ite_f' hb1329 hm
                  refine C_skip ?_
                  refine E_normal_block ?_
                  refine E_drop (List.Sublist.cons _ (List.Sublist.refl _)) ?_
                  exact E_keepJ (J1311 _ _ _ ⟨l1234, l1237, v1232, xs1233, xs1236, hm, (hr1235.mono hle1321), (hr1238.mono hle1321), hl1239, hle1321, rfl, rfl⟩) (List.Perm.refl _) ⟨rfl, rfl, rfl, rfl, rfl, rfl, rfl, rfl, rfl, trivial⟩
            · have hm := ite_t' hb1316 hm
              refine C_region_tok0 9 (phiT [(fun H rs v => [] = rs ∧ v2 = v), (fun H rs v => [] = rs ∧ .pointer (some ⟨b1313, 0, none⟩) = v), (fun H rs v => [] = rs ∧ .string (y1245.Name) = v), (fun H rs v => [] = rs ∧ .bool (true) = v), (fun H rs v => [] = rs ∧ .bool (true) = v), (fun H rs v => [] = rs ∧ undef = v), (fun H rs v => [] = rs ∧ undef = v), (fun H rs v => [] = rs ∧ undef = v), (fun H rs v => [] = rs ∧ undef = v)]) [[], [], [], [], [], [], [], [], []] [[], [], [], [], [], [], [], [], []] [] [0, 1, 2, 3, 4, 5, 6, 7, 8] Facts.mixed (by kernel_rfl) rfl rfl rfl (by kernel_rfl) (phiT_mono ⟨eq_monoT _ _, eq_monoT _ _, eq_monoT _ _, eq_monoT _ _, eq_monoT _ _, eq_monoT _ _, eq_monoT _ _, eq_monoT _ _, eq_monoT _ _, trivial⟩) ⟨?_, ?_, ?_, ?_, ?_, ?_, ?_, ?_, ?_, trivial⟩ ?_
              · intro HX hX X Rest hR
                intro hU
                refine W_move rfl rfl rfl ?_
                exact W_end (OneT_end [] (Hp.le_refl _) ⟨rfl, rfl⟩)
              · intro HX hX X Rest hR
                intro hU
                refine W_field (o := 0) rfl rfl Proofs.Try.runUnderlying33 rfl Proofs.Try.sizeOf9 rfl rfl rfl ?_
                exact W_end (OneT_end [] (Hp.le_refl _) ⟨rfl, rfl⟩)
              · intro HX hX X Rest hR
                rintro _ _ ⟨rfl, rfl⟩
                intro hU
                refine W_load rfl rfl Proofs.Try.isAgg9 rfl (own_at (hR _ (List.mem_cons_self ..)) rfl) ?_
                exact W_end (OneT_end [] (Hp.le_refl _) ⟨rfl, rfl⟩)
              · intro HX hX X Rest hR
                rintro _ _ ⟨rfl, rfl⟩
                rintro _ _ ⟨rfl, rfl⟩
                intro hU
                refine W_call Proofs.Try.call27 rfl rfl rfl (fun w ht => by have h := m_slices_Contains_string_string_c (hm := hc1315) ((((h2.mono hle139).mono hle969).mono hle1241).mono hX) ht; exact h) ?_
                rintro _ _ _ ⟨rfl, rfl, rfl⟩
                exact W_end (OneT_end [] (Hp.le_refl _) ⟨rfl, (by rw [hb1316]; try rfl)⟩)
              · intro HX hX X Rest hR
                rintro _ _ ⟨rfl, rfl⟩
                rintro _ _ ⟨rfl, rfl⟩
                intro hU
                refine W_move rfl rfl rfl ?_
                exact W_end (OneT_end [] (Hp.le_refl _) ⟨rfl, rfl⟩)
              · intro HX hX X Rest hR
                rintro _ _ ⟨rfl, rfl⟩
                intro hU
                refine W_no rfl rfl rfl ?_
                exact W_end (OneT_end [] (Hp.le_refl _) ⟨rfl, rfl⟩)
              · intro HX hX X Rest hR
                rintro _ _ ⟨rfl, rfl⟩
                rintro _ _ ⟨rfl, rfl⟩
                rintro _ _ ⟨rfl, rfl⟩
                intro hU
                refine W_no rfl rfl rfl ?_
                exact W_end (OneT_end [] (Hp.le_refl _) ⟨rfl, rfl⟩)
              · intro HX hX X Rest hR
                rintro _ _ ⟨rfl, rfl⟩
                intro hU
                refine W_no rfl rfl rfl ?_
                exact W_end (OneT_end [] (Hp.le_refl _) ⟨rfl, rfl⟩)
              · intro HX hX X Rest hR
                rintro _ _ ⟨rfl, rfl⟩
                rintro _ _ ⟨rfl, rfl⟩
                intro hU
                refine W_no rfl rfl rfl ?_
                exact W_end (OneT_end [] (Hp.le_refl _) ⟨rfl, rfl⟩)
              intro H1360 hle1361
              rintro _ _ ⟨rfl, rfl⟩
              rintro _ _ ⟨rfl, rfl⟩
              rintro _ _ ⟨rfl, rfl⟩
              rintro _ _ ⟨rfl, rfl⟩
              rintro _ _ ⟨rfl, rfl⟩
              rintro _ _ ⟨rfl, rfl⟩
              rintro _ _ ⟨rfl, rfl⟩
              rintro _ _ ⟨rfl, rfl⟩
              rintro _ _ ⟨rfl, rfl⟩
              refine W_no rfl rfl rfl ?_
              refine W_no rfl rfl rfl ?_
              refine W_no rfl rfl rfl ?_
              refine W_no rfl rfl rfl ?_
              refine W_pick rfl rfl rfl rfl ?_
              refine W_end ?_
              refine E_then ?_
              refine C_cond (b := true) rfl (fun _ => ?_) (fun hb => Bool.noConfusion hb)
              refine C_exit ?_
              refine E_exit_then ?_
              refine E_exit_hit ?_
              refine E_drop (List.Sublist.cons _ (List.Sublist.refl _)) ?_
              exact E_keepJ (J1311 _ _ _ ⟨l1234, l1237, v1232, xs1233, xs1236, hm, (hr1235.mono hle1361), (hr1238.mono hle1361), hl1239, hle1361, rfl, rfl⟩) (List.Perm.refl _) ⟨rfl, rfl, rfl, rfl, rfl, rfl, rfl, rfl, rfl, trivial⟩
        · obtain rfl := rng_f hd1248 hb1250
          have hm : (nx970 (l1234, l1237)) = some r := hm
          refine C_exit (E_exit_then ?_)
          refine E_exit_then ?_
          refine E_exit_hit ?_
          refine E_normal_block ?_
          exact E_keepJ (E_back (Nat.lt_succ_self _) ⟨l1234, l1237, v1232, xs1233, xs1236, (by rw [hn971]; exact hm), hr1235, hr1238, hl1239, (Hp.le_trans hle969 hle1241), rfl, rfl⟩) (List.Perm.refl _) ⟨rfl, rfl, rfl, rfl, rfl, trivial⟩
      · have hm := ite_f' hb978 hm
        refine C_exit ?_
        refine E_exit_then ?_
        refine E_exit_then ?_
        refine E_exit_hit ?_
        refine E_then ?_
        refine C_seq ?_
        refine C_region ?_
        refine W_loadArr (m := 256) (List.mem_cons_of_mem _ (List.mem_cons_self ..)) rfl rfl Proofs.Try.isAgg53 Proofs.Try.sizeOf53 (by rw [(hr966).rd.len, hl967]; rfl) rfl ?_
        refine W_perm (List.Perm.trans (List.Perm.cons _ (List.Perm.swap _ _ _)) (List.Perm.swap _ _ _)) ?_
        refine W_storeArr (l := (List.replicate 256 (0 : Int))) (l2 := l965) rfl Proofs.Try.sizeOf53 rfl rfl ((hr102.mono hle139).mono hle969) (hr966).rd (hl967.trans hl103.symm) rfl rfl (by rw [hl967]; rfl) ?_
        intro hr1362
        refine W_end ?_
        refine E_then ?_
        refine C_ret ?_
        obtain rfl := Option.some.inj hm
        exact endC1 (Hp.le_trans hle139 hle969) rfl (ResV.arr rfl Proofs.Try.isAgg53 Proofs.Try.sizeOf53 (List.mem_cons_self ..) (by rw [(hr1362).rd.len, hl967]; rfl)) (List.Sublist.cons _ (List.Sublist.cons _ (List.Sublist.cons _ (List.Sublist.refl _)))) (List.Perm.refl _) ⟨rfl, xs964, rfl, rfl, ((hr1362).rd).toF, hl967⟩

theorem m_slices_Reverse_api_OrderStep_api_OrderStep_c {B : Nat} {w0 w : World} {H : Hp} {M : List Res} {p0_s : (List S_api_OrderStep)} {v0 : Value} {xs0 : List Value} {r : (List S_api_OrderStep)} (hm : m_slices_Reverse_api_OrderStep_api_OrderStep p0_s = some r) (h0 : Rw H v0 xs0 p0_s) (ht : St B w0 H (.row v0 36 (Rep.sz S_api_OrderStep) p0_s.length xs0 :: M) w) :
    Calls Proofs.Try.prog 21 [v0].toArray w (Ret B w0 fun H' M' v => H = H' ∧ ∃ qxs0 : List Value, .row v0 36 (Rep.sz S_api_OrderStep) r.length qxs0 :: M = M' ∧ .tuple #[] = v ∧ RwF v0 qxs0 r) := by
  unfold m_slices_Reverse_api_OrderStep_api_OrderStep at hm
  refine enter Proofs.Try.func21 rfl rfl rfl ht ?_
  refine C_seq ?_
  refine C_region ?_
  refine W_move rfl rfl rfl ?_
  refine W_lenO (List.mem_cons_self ..) rfl rfl Proofs.Try.runUnderlying25 rfl ?_
  refine W_bin rfl rfl rfl rfl rfl ?_
  refine W_assign rfl rfl rfl ?_
  refine W_assign rfl rfl rfl ?_
  refine W_end ?_
  refine E_then ?_
  refine C_block ?_
  refine C_keep (L' := [(0, v0), (2, .int .i64 (0)), (3, .int .i64 (IntKind.i64.wrap ((p0_s.length : Int) - 1)))]) ⟨rfl, rfl, rfl, trivial⟩ (List.Perm.refl _) ?_
  refine C_loop (fun n H' M' L' => ∃ l181 : List S_api_OrderStep, ∃ n183 : Int, ∃ n184 : Int, ∃ xs180 : List Value, loopF (fun s n => m_slices_Reverse_api_OrderStep_api_OrderStep_b1 s.1 s.2.1 s.2.2 n) n (l181, n183, n184) = some r ∧ Rw H' v0 xs180 l181 ∧ H.le H' ∧ .row v0 36 (Rep.sz S_api_OrderStep) l181.length xs180 :: M = M' ∧ [(0, v0), (2, .int .i64 (n183)), (3, .int .i64 (n184))] = L') FUEL ⟨p0_s, 0, IntKind.i64.wrap ((p0_s.length : Int) - 1), xs0, hm, h0, (Hp.le_refl _), rfl, rfl⟩ ?_
  rintro n189 H185 _ _ ⟨l181, n183, n184, xs180, hm, hr182, hle186, rfl, rfl⟩
  cases n189 with
  | zero => cases hm
  | succ n189 =>
    have hm : m_slices_Reverse_api_OrderStep_api_OrderStep_b1 l181 n183 n184 (loopF (fun s n => m_slices_Reverse_api_OrderStep_api_OrderStep_b1 s.1 s.2.1 s.2.2 n) n189) = some r := hm
    generalize hn188 : loopF (fun s n => m_slices_Reverse_api_OrderStep_api_OrderStep_b1 s.1 s.2.1 s.2.2 n) n189 = nx187 at hm
    unfold m_slices_Reverse_api_OrderStep_api_OrderStep_b1 at hm
    refine C_seq ?_
    refine C_seq ?_
    refine C_region ?_
    refine W_move rfl rfl rfl ?_
    refine W_move rfl rfl rfl ?_
    refine W_bin rfl rfl rfl rfl rfl ?_
    refine W_end ?_
    refine E_then ?_
    refine C_cond (b := decide (n183 < n184)) rfl (fun hb195 => ?_) (fun hb195 => ?_)
    · have hm := ite_t' hb195 hm
      refine C_skip ?_
      refine E_then ?_
      refine C_seq ?_
      refine C_block ?_
      obtain ⟨y196, h197, he198, hm⟩ := idx_some hm
      obtain ⟨_, rfl, hg199⟩ := (hr182).elem he198
      obtain ⟨y200, h201, he202, hm⟩ := idx_some hm
      obtain ⟨_, rfl, hg203⟩ := (hr182).elem he202
      obtain ⟨y204, h205, he206, hm⟩ := idx_some hm
      obtain ⟨_, rfl, hg207⟩ := (hr182).elem he206
      refine C_perm (List.Perm.refl _) ?_
      refine C_as (M' := [[.row v0 36 (Rep.sz S_api_OrderStep) l181.length xs180]].flatten ++ (M)) rfl ?_
      refine C_region_tok0 14 (phiT [(fun H rs v => [] = rs ∧ v0 = v), (fun H rs v => [] = rs ∧ .int .i64 (n183) = v), (fun H rs v => [] = rs ∧ v0 = v), (fun H rs v => [] = rs ∧ .int .i64 (n184) = v), (fun H rs v => [] = rs ∧ v0 = v), (fun H rs v => [] = rs ∧ .int .i64 (n184) = v), (fun H rs v => [] = rs ∧ .pointer (some ((Value.base (v0)).add ((n184 : Int).toNat * Rep.sz S_api_OrderStep))) = v), (fun H rs v => [] = rs ∧ .agg [.bool (y196.Close), .string (y196.Switch)].toArray = v), (fun H rs v => [] = rs ∧ v0 = v), (fun H rs v => [] = rs ∧ .int .i64 (n183) = v), (fun H rs v => [] = rs ∧ .pointer (some ((Value.base (v0)).add ((n183 : Int).toNat * Rep.sz S_api_OrderStep))) = v), (fun H rs v => [] = rs ∧ .agg [.bool (y200.Close), .string (y200.Switch)].toArray = v), (fun H rs v => [] = rs ∧ .pointer (some ((Value.base (v0)).add ((n183 : Int).toNat * Rep.sz S_api_OrderStep))) = v), (fun H rs v => ∃ xs215 : List Value, [.row v0 36 (Rep.sz S_api_OrderStep) (l181.set ((n183 : Int).toNat) y196).length xs215] = rs ∧ undef = v ∧ Rw H v0 xs215 (l181.set ((n183 : Int).toNat) y196))]) [[], [], [], [], [], [], [], [], [], [], [], [], [], [14]] [[], [], [], [], [], [], [14], [14], [], [], [14], [14], [14], []] [[.row v0 36 (Rep.sz S_api_OrderStep) l181.length xs180]] [0, 1, 2, 3, 4, 5, 6, 7, 8, 9, 10, 11, 12, 13] Facts.mixed (by kernel_rfl) rfl rfl rfl (by kernel_rfl) (phiT_mono ⟨eq_monoT _ _, eq_monoT _ _, eq_monoT _ _, eq_monoT _ _, eq_monoT _ _, eq_monoT _ _, eq_monoT _ _, eq_monoT _ _, eq_monoT _ _, eq_monoT _ _, eq_monoT _ _, eq_monoT _ _, eq_monoT _ _, (by rintro H1 H2 rs v hle ⟨xs215, rfl, hv_, hr212⟩; exact ⟨xs215, rfl, hv_, (hr212.mono hle)⟩), trivial⟩) ⟨?_, ?_, ?_, ?_, ?_, ?_, ?_, ?_, ?_, ?_, ?_, ?_, ?_, ?_, trivial⟩ ?_
      · intro HX hX X Rest hR
        intro hU
        refine W_move rfl rfl rfl ?_
        exact W_end (OneT_end [] (Hp.le_refl _) ⟨rfl, rfl⟩)
      · intro HX hX X Rest hR
        intro hU
        refine W_move rfl rfl rfl ?_
        exact W_end (OneT_end [] (Hp.le_refl _) ⟨rfl, rfl⟩)
      · intro HX hX X Rest hR
        intro hU
        refine W_move rfl rfl rfl ?_
        exact W_end (OneT_end [] (Hp.le_refl _) ⟨rfl, rfl⟩)
      · intro HX hX X Rest hR
        intro hU
        refine W_move rfl rfl rfl ?_
        exact W_end (OneT_end [] (Hp.le_refl _) ⟨rfl, rfl⟩)
      · intro HX hX X Rest hR
        intro hU
        refine W_move rfl rfl rfl ?_
        exact W_end (OneT_end [] (Hp.le_refl _) ⟨rfl, rfl⟩)
      · intro HX hX X Rest hR
        intro hU
        refine W_move rfl rfl rfl ?_
        exact W_end (OneT_end [] (Hp.le_refl _) ⟨rfl, rfl⟩)
      · intro HX hX X Rest hR
        rintro _ _ ⟨rfl, rfl⟩
        rintro _ _ ⟨rfl, rfl⟩
        intro hU
        have hU2 : ∀ s ∈ [.row v0 36 (Rep.sz S_api_OrderStep) l181.length xs180], s ∈ Rest := hU
        refine W_indexO (hU2 _ (List.mem_cons_self ..)) rfl rfl Proofs.Try.runUnderlying25 Proofs.Try.sizeOf36 rfl rfl h197 (List.getElem?_eq_some_iff.1 he198).1 ?_
        exact W_end (OneT_end [] (Hp.le_refl _) ⟨rfl, rfl⟩)
      · intro HX hX X Rest hR
        rintro _ _ ⟨rfl, rfl⟩
        intro hU
        have hU2 : ∀ s ∈ [.row v0 36 (Rep.sz S_api_OrderStep) l181.length xs180], s ∈ Rest := hU
        refine W_loadAgg (cs := [.bool (y196.Close), .string (y196.Switch)]) rfl rfl Proofs.Try.isAgg36 Proofs.Try.sizeOf36 rfl (row_cells (hU2 _ (List.mem_cons_self ..)) hg199) rfl ?_
        exact W_end (OneT_end [] (Hp.le_refl _) ⟨rfl, rfl⟩)
      · intro HX hX X Rest hR
        intro hU
        refine W_move rfl rfl rfl ?_
        exact W_end (OneT_end [] (Hp.le_refl _) ⟨rfl, rfl⟩)
      · intro HX hX X Rest hR
        intro hU
        refine W_move rfl rfl rfl ?_
        exact W_end (OneT_end [] (Hp.le_refl _) ⟨rfl, rfl⟩)
      · intro HX hX X Rest hR
        rintro _ _ ⟨rfl, rfl⟩
        rintro _ _ ⟨rfl, rfl⟩
        intro hU
        have hU2 : ∀ s ∈ [.row v0 36 (Rep.sz S_api_OrderStep) l181.length xs180], s ∈ Rest := hU
        refine W_indexO (hU2 _ (List.mem_cons_self ..)) rfl rfl Proofs.Try.runUnderlying25 Proofs.Try.sizeOf36 rfl rfl h201 (List.getElem?_eq_some_iff.1 he202).1 ?_
        exact W_end (OneT_end [] (Hp.le_refl _) ⟨rfl, rfl⟩)
      · intro HX hX X Rest hR
        rintro _ _ ⟨rfl, rfl⟩
        intro hU
        have hU2 : ∀ s ∈ [.row v0 36 (Rep.sz S_api_OrderStep) l181.length xs180], s ∈ Rest := hU
        refine W_loadAgg (cs := [.bool (y200.Close), .string (y200.Switch)]) rfl rfl Proofs.Try.isAgg36 Proofs.Try.sizeOf36 rfl (row_cells (hU2 _ (List.mem_cons_self ..)) hg203) rfl ?_
        exact W_end (OneT_end [] (Hp.le_refl _) ⟨rfl, rfl⟩)
      · intro HX hX X Rest hR
        rintro _ _ ⟨rfl, rfl⟩
        rintro _ _ ⟨rfl, rfl⟩
        rintro _ _ ⟨rfl, rfl⟩
        rintro _ _ ⟨rfl, rfl⟩
        rintro _ _ ⟨rfl, rfl⟩
        rintro _ _ ⟨rfl, rfl⟩
        rintro _ _ ⟨rfl, rfl⟩
        rintro _ _ ⟨rfl, rfl⟩
        rintro _ _ ⟨rfl, rfl⟩
        intro hU
        have hU2 : ∀ s ∈ [.row v0 36 (Rep.sz S_api_OrderStep) l181.length xs180], s ∈ Rest := hU
        refine W_indexO (hU2 _ (List.mem_cons_self ..)) rfl rfl Proofs.Try.runUnderlying25 Proofs.Try.sizeOf36 rfl rfl h205 (List.getElem?_eq_some_iff.1 he206).1 ?_
        exact W_end (OneT_end [] (Hp.le_refl _) ⟨rfl, rfl⟩)
      · intro HX hX X Rest hR
        rintro _ _ ⟨rfl, rfl⟩
        rintro _ _ ⟨rfl, rfl⟩
        rintro _ _ ⟨rfl, rfl⟩
        rintro _ _ ⟨rfl, rfl⟩
        rintro _ _ ⟨rfl, rfl⟩
        rintro _ _ ⟨rfl, rfl⟩
        rintro _ _ ⟨rfl, rfl⟩
        rintro _ _ ⟨rfl, rfl⟩
        rintro _ _ ⟨rfl, rfl⟩
        intro hU
        refine W_as (M' := .row v0 36 (Rep.sz S_api_OrderStep) l181.length xs180 :: Rest) rfl ?_
        obtain ⟨hr212, he213, hg214⟩ := Rw.put (cs := [.bool (y196.Close), .string (y196.Switch)]) (o := 0) (c := [.bool (y204.Close), .string (y204.Switch)]) (out := [.bool (y196.Close), .string (y196.Switch)]) (e2 := y196) (hr182.mono hX) he206 rfl hg207 rfl rfl rfl
        refine W_storeO2 (i := (n183 : Int).toNat * Rep.sz S_api_OrderStep + 0) (cs := [.bool (y196.Close), .string (y196.Switch)]) rfl Proofs.Try.sizeOf36 rfl (row_ad0 _ _) rfl rfl rfl (Rw.room (hr182.mono hX) he206 rfl) rfl (all_cons rfl (all_cons rfl all_nil)) (n' := (l181.set ((n183 : Int).toNat) y196).length) List.length_set ?_
        generalize over xs180 ((n183 : Int).toNat * Rep.sz S_api_OrderStep + 0) [.bool (y196.Close), .string (y196.Switch)] = xs215 at hr212 hg214 ⊢
        exact W_end (OneT_end_ [.row v0 36 (Rep.sz S_api_OrderStep) (l181.set ((n183 : Int).toNat) y196).length xs215] (Hp.le_refl _) ⟨xs215, rfl, rfl, (hr212)⟩)
      intro H216 hle217
      rintro _ _ ⟨rfl, rfl⟩
      rintro _ _ ⟨rfl, rfl⟩
      rintro _ _ ⟨rfl, rfl⟩
      rintro _ _ ⟨rfl, rfl⟩
      rintro _ _ ⟨rfl, rfl⟩
      rintro _ _ ⟨rfl, rfl⟩
      rintro _ _ ⟨rfl, rfl⟩
      rintro _ _ ⟨rfl, rfl⟩
      rintro _ _ ⟨rfl, rfl⟩
      rintro _ _ ⟨rfl, rfl⟩
      rintro _ _ ⟨rfl, rfl⟩
      rintro _ _ ⟨rfl, rfl⟩
      rintro _ _ ⟨rfl, rfl⟩
      rintro _ ⟨xs215, rfl, _, hr212⟩
      refine W_as (M' := .row v0 36 (Rep.sz S_api_OrderStep) (l181.set ((n183 : Int).toNat) y196).length xs215 :: M) rfl ?_
      obtain ⟨y218, h219, he220, hm⟩ := idx_some hm
      refine W_indexO (List.mem_cons_self ..) rfl rfl Proofs.Try.runUnderlying25 Proofs.Try.sizeOf36 rfl rfl h219 (List.getElem?_eq_some_iff.1 he220).1 ?_
      obtain ⟨_, rfl, hg221⟩ := (hr212).elem he220
      obtain ⟨hr222, he223, hg224⟩ := Rw.put (cs := [.bool (y200.Close), .string (y200.Switch)]) (o := 0) (c := [.bool (y218.Close), .string (y218.Switch)]) (out := [.bool (y200.Close), .string (y200.Switch)]) (e2 := y200) hr212 he220 rfl hg221 rfl rfl rfl
      refine W_storeO2 (i := (n184 : Int).toNat * Rep.sz S_api_OrderStep + 0) (cs := [.bool (y200.Close), .string (y200.Switch)]) rfl Proofs.Try.sizeOf36 rfl (row_ad0 _ _) rfl rfl rfl (Rw.room hr212 he220 rfl) rfl (all_cons rfl (all_cons rfl all_nil)) (n' := ((l181.set ((n183 : Int).toNat) y196).set ((n184 : Int).toNat) y200).length) List.length_set ?_
      generalize over xs215 ((n184 : Int).toNat * Rep.sz S_api_OrderStep + 0) [.bool (y200.Close), .string (y200.Switch)] = xs225 at hr222 hg224 ⊢
      refine W_end ?_
      refine E_normal_block ?_
      refine E_then ?_
      refine C_region ?_
      refine W_move rfl rfl rfl ?_
      refine W_bin rfl rfl rfl rfl rfl ?_
      refine W_move rfl rfl rfl ?_
      refine W_bin rfl rfl rfl rfl rfl ?_
      refine W_assign rfl rfl rfl ?_
      refine W_assign rfl rfl rfl ?_
      refine W_end ?_
      exact E_keepJ (E_back (Nat.lt_succ_self _) ⟨((l181.set ((n183 : Int).toNat) y196).set ((n184 : Int).toNat) y200), IntKind.i64.wrap (n183 + 1), IntKind.i64.wrap (n184 - 1), xs225, (by rw [hn188]; exact hm), hr222, (Hp.le_trans hle186 hle217), rfl, rfl⟩) (List.Perm.refl _) ⟨rfl, rfl, rfl, trivial⟩
    · have hm := ite_f' hb195 hm
      refine C_exit ?_
      refine E_exit_then ?_
      refine E_exit_then ?_
      refine E_exit_hit ?_
      refine E_off ?_
      obtain rfl := Option.some.inj hm
      refine E_weak hle186 ?_
      exact end0 rfl ⟨rfl, xs180, rfl, rfl, (hr182).toF⟩

theorem m_order_Plan_c {B : Nat} {w0 w : World} {H : Hp} {M : List Res} {rules : (List S_api_InterlockRule)} {p1_from : (List S_api_InterlockState)} {to : (List S_api_InterlockState)} {held : (List ByteArray)} {v0 : Value} {v1 : Value} {v2 : Value} {v3 : Value} {r : (List S_api_OrderStep) × Int} (hm : m_order_Plan rules p1_from to held = some r) (h0 : RdS H v0 rules) (h1 : RdS H v1 p1_from) (h2 : RdS H v2 to) (h3 : RdS H v3 held) (ht : St B w0 H (M) w) :
    Calls Proofs.Try.prog 8 [v0, v1, v2, v3].toArray w (Ret B w0 fun H' M' v => H = H' ∧ ∃ qv0 : Value, ∃ qxs0 : List Value, .row qv0 36 (Rep.sz S_api_OrderStep) r.1.length qxs0 :: M = M' ∧ .tuple #[qv0, .int .i64 (r.2)] = v ∧ RwF qv0 qxs0 r.1) := by
  unfold m_order_Plan at hm
  refine enter Proofs.Try.func8 rfl rfl rfl ht ?_
  refine C_seq ?_
  refine C_region ?_
  refine W_assign rfl rfl rfl ?_
  refine W_assign rfl rfl rfl ?_
  refine W_end ?_
  refine E_then ?_
  refine C_seq ?_
  refine C_seq ?_
  refine C_region ?_
  refine W_move rfl rfl rfl ?_
  refine W_move rfl rfl rfl ?_
  refine W_move rfl rfl rfl ?_
  refine W_move rfl rfl rfl ?_
  obtain ⟨r101, hc102, hm⟩ := bind_some hm
  refine W_call Proofs.Try.call18 rfl rfl rfl (fun w ht => by have h := m_order_check_c (hm := hc102) h0 h1 h2 h3 ht; exact h) ?_
  rintro _ _ _ ⟨rfl, rfl, rfl⟩
  refine W_assign rfl rfl rfl ?_
  refine W_end ?_
  refine E_then ?_
  refine C_seq ?_
  refine C_region ?_
  refine W_move rfl rfl rfl ?_
  refine W_bin rfl rfl rfl rfl rfl ?_
  refine W_end ?_
  refine E_then ?_
  refine C_cond (b := !decide (r101 = 0)) rfl (fun hb103 => ?_) (fun hb103 => ?_)
  · have hm := ite_t' hb103 hm
    refine C_seq ?_
    refine C_region ?_
    refine W_move rfl rfl rfl ?_
    refine W_assign rfl rfl rfl ?_
    refine W_assign rfl rfl rfl ?_
    refine W_end ?_
    refine E_then ?_
    refine C_ret ?_
    refine E_ret_then ?_
    refine E_nilRow 36 (Rep.sz S_api_OrderStep) ?_
    obtain rfl := Option.some.inj hm
    refine E_weak (Hp.le_refl _) ?_
    exact end2 rfl rfl rfl ⟨rfl, (.slice none 0 0), [], rfl, rfl, (Rw.nil (H := H)).toF⟩
  · have hm := ite_f' hb103 hm
    refine C_skip ?_
    refine E_then ?_
    refine C_seq ?_
    refine C_region ?_
    refine W_move rfl rfl rfl ?_
    refine W_move rfl rfl rfl ?_
    refine W_move rfl rfl rfl ?_
    obtain ⟨r104, hc105, hm⟩ := bind_some hm
    refine W_call Proofs.Try.call19 rfl rfl rfl (fun w ht => by have h := m_order_walk_c (hm := hc105) h0 h1 h3 ht; exact h) ?_
    rintro _ _ _ ⟨rfl, xs106, rfl, rfl, h107, hl108⟩
    have h107 := h107 H
    refine W_allocArr (α := Int) (z := .agg ((List.replicate 256 (0 : Int)).map (Value.int .i64)).toArray) (cs := (List.replicate 256 (0 : Int)).map (Value.int .i64)) (l := List.replicate 256 (0 : Int)) (n := 256) rfl rfl (fun _ => by kernel_rfl) (by kernel_rfl) (RdC.ints _) (by kernel_rfl) rfl ?_
    intro v109 hr110
    have hl111 : (List.replicate 256 (0 : Int)).length = 256 := by first | rfl | (simp only [List.length_set, List.length_replicate, *])
    refine W_storeArr (l := (List.replicate 256 (0 : Int))) (l2 := r104) rfl Proofs.Try.sizeOf53 rfl rfl hr110 h107 (hl108.trans hl111.symm) rfl rfl (by rw [hl108]; rfl) ?_
    intro hr112
    refine W_end ?_
    refine E_then ?_
    refine C_seq ?_
    refine C_region ?_
    refine W_move rfl rfl rfl ?_
    obtain ⟨r113, hc114, hm⟩ := bind_some hm
    refine W_call Proofs.Try.call20 rfl rfl rfl (fun w ht => by have h := m_order_code_c (hm := hc114) h2 ht; exact h) ?_
    rintro _ _ _ ⟨rfl, rfl, rfl⟩
    refine W_assign rfl rfl rfl ?_
    refine W_end ?_
    refine E_then ?_
    refine C_seq ?_
    refine C_seq ?_
    refine C_region ?_
    refine W_move rfl rfl rfl ?_
    obtain ⟨y115, h116, he117, hm⟩ := idx_some hm
    refine W_indexArr (List.mem_cons_self ..) rfl rfl Proofs.Try.runUnderlying53 Proofs.Try.sizeOf3 hl108 rfl rfl h116 (List.getElem?_eq_some_iff.1 he117).1 ?_
    obtain ⟨_, rfl, hg118⟩ := (hr112).elem he117
    refine W_load rfl rfl Proofs.Try.isAgg3 rfl (row_one0 (List.mem_cons_self ..) hg118 rfl) ?_
    refine W_bin rfl rfl rfl rfl rfl ?_
    refine W_end ?_
    refine E_then ?_
    refine C_cond (b := decide (y115 = (-2))) rfl (fun hb119 => ?_) (fun hb119 => ?_)
    · have hm := ite_t' hb119 hm
      refine C_seq ?_
      refine C_region ?_
      refine W_assign rfl rfl rfl ?_
      refine W_assign rfl rfl rfl ?_
      refine W_end ?_
      refine E_then ?_
      refine C_ret ?_
      refine E_ret_then ?_
      refine E_nilRow 36 (Rep.sz S_api_OrderStep) ?_
      obtain rfl := Option.some.inj hm
      refine E_drop (List.Sublist.cons_cons _ (List.Sublist.cons _ (List.Sublist.refl _))) ?_
      refine E_weak (Hp.le_refl _) ?_
      exact end2 rfl rfl rfl ⟨rfl, (.slice none 0 0), [], rfl, rfl, (Rw.nil (H := H)).toF⟩
    · have hm := ite_f' hb119 hm
      refine C_skip ?_
      refine E_then ?_
      refine C_seq ?_
      refine C_region ?_
      refine W_assign rfl rfl rfl ?_
      refine W_end ?_
      refine E_then ?_
      refine C_seq_join (fun H' M' L' => ∃ l256 : List S_api_OrderStep, ∃ v254 : Value, ∃ xs255 : List Value, m_order_Plan_b2 l256 = some r ∧ Rw H' v254 xs255 l256 ∧ H.le H' ∧ .row v254 36 (Rep.sz S_api_OrderStep) l256.length xs255 :: M = M' ∧ [(13, v254)] = L') ?_ (fun J260 => ?_)
      · rintro H258 _ _ ⟨l256, v254, xs255, hm, hr257, hle259, rfl, rfl⟩
        unfold m_order_Plan_b2 at hm
        refine C_seq ?_
        refine C_region ?_
        refine W_move rfl rfl rfl ?_
        obtain ⟨r261, hc262, hm⟩ := bind_some hm
        refine W_call Proofs.Try.call21 rfl rfl rfl (fun w ht => by have h := m_slices_Reverse_api_OrderStep_api_OrderStep_c (hm := hc262) hr257 ht; exact h) ?_
        rintro _ _ _ ⟨rfl, xs264, rfl, rfl, h265⟩
        have h265 := h265 H258
        refine W_end ?_
        refine E_then ?_
        refine C_seq ?_
        refine C_region ?_
        refine W_move rfl rfl rfl ?_
        refine W_assign rfl rfl rfl ?_
        refine W_assign rfl rfl rfl ?_
        refine W_end ?_
        refine E_then ?_
        refine C_ret ?_
        obtain rfl := Option.some.inj hm
        refine E_weak hle259 ?_
        exact end2 rfl rfl rfl ⟨rfl, v254, xs264, rfl, rfl, (h265).toF⟩
      · refine C_block ?_
        refine C_nilRow 36 (Rep.sz S_api_OrderStep) ?_
        refine C_keep (L' := [(1, v1), (11, .pointer (some (Value.base v109))), (12, .int .i64 (r113)), (13, (.slice none 0 0))]) ⟨rfl, rfl, rfl, rfl, trivial⟩ (List.Perm.refl _) ?_
        refine C_loop (fun n H' M' L' => ∃ n350 : Int, ∃ l353 : List S_api_OrderStep, ∃ v351 : Value, ∃ xs352 : List Value, loopF (fun s n => m_order_Plan_b3 p1_from r104 s.1 s.2 n) n (n350, l353) = some r ∧ Rw H' v351 xs352 l353 ∧ H.le H' ∧ .row v351 36 (Rep.sz S_api_OrderStep) l353.length xs352 :: .row v109 53 (Rep.sz Int) r104.length xs106 :: M = M' ∧ [(1, v1), (11, .pointer (some (Value.base v109))), (12, .int .i64 (n350)), (13, v351)] = L') FUEL ⟨r113, ([] : List S_api_OrderStep), (.slice none 0 0), ([]), hm, Rw.nil, (Hp.le_refl _), rfl, rfl⟩ ?_
        rintro n359 H355 _ _ ⟨n350, l353, v351, xs352, hm, hr354, hle356, rfl, rfl⟩
        cases n359 with
        | zero => cases hm
        | succ n359 =>
          have hm : m_order_Plan_b3 p1_from r104 n350 l353 (loopF (fun s n => m_order_Plan_b3 p1_from r104 s.1 s.2 n) n359) = some r := hm
          generalize hn358 : loopF (fun s n => m_order_Plan_b3 p1_from r104 s.1 s.2 n) n359 = nx357 at hm
          unfold m_order_Plan_b3 at hm
          refine C_seq ?_
          refine C_seq ?_
          refine C_region ?_
          refine W_move rfl rfl rfl ?_
          obtain ⟨y365, h366, he367, hm⟩ := idx_some hm
          refine W_indexArr (List.mem_cons_of_mem _ (List.mem_cons_self ..)) rfl rfl Proofs.Try.runUnderlying53 Proofs.Try.sizeOf3 hl108 rfl rfl h366 (List.getElem?_eq_some_iff.1 he367).1 ?_
          obtain ⟨_, rfl, hg368⟩ := (hr112).elem he367
          refine W_load rfl rfl Proofs.Try.isAgg3 rfl (row_one0 (List.mem_cons_of_mem _ (List.mem_cons_self ..)) hg368 rfl) ?_
          refine W_bin rfl rfl rfl rfl rfl ?_
          refine W_end ?_
          refine E_then ?_
          refine C_cond (b := decide (0 ≤ y365)) rfl (fun hb369 => ?_) (fun hb369 => ?_)
          · have hm := ite_t' hb369 hm
            refine C_skip ?_
            refine E_then ?_
            refine C_block ?_
            refine C_seq ?_
            refine C_region ?_
            refine W_move rfl rfl rfl ?_
            obtain ⟨y370, h371, he372, hm⟩ := idx_some hm
            refine W_indexArr (List.mem_cons_of_mem _ (List.mem_cons_self ..)) rfl rfl Proofs.Try.runUnderlying53 Proofs.Try.sizeOf3 hl108 rfl rfl h371 (List.getElem?_eq_some_iff.1 he372).1 ?_
            obtain ⟨_, rfl, hg373⟩ := (hr112).elem he372
            refine W_load rfl rfl Proofs.Try.isAgg3 rfl (row_one0 (List.mem_cons_of_mem _ (List.mem_cons_self ..)) hg373 rfl) ?_
            refine W_assign rfl rfl rfl ?_
            refine W_end ?_
            refine E_then ?_
            refine C_seq ?_
            obtain ⟨hq374, hm⟩ := need_some hm
            obtain ⟨y375, h376, he377, hm⟩ := idx_some hm
            obtain ⟨_, ⟨rfl⟩, hc378⟩ := (h1).elem he377
            refine C_region_tok0 13 (phiT [(fun H rs v => [] = rs ∧ v351 = v), (fun H rs v => [] = rs ∧ .int .i64 (n350) = v), (fun H rs v => [] = rs ∧ .int .i64 (y370) = v), (fun H rs v => [] = rs ∧ .int .i64 (shrV .i64 n350 y370) = v), (fun H rs v => [] = rs ∧ .int .i64 (IntKind.i64.wrap ((BitVec.ofInt (IntKind.i64).bits (shrV .i64 n350 y370) &&& BitVec.ofInt (IntKind.i64).bits 1).toNat)) = v), (fun H rs v => [] = rs ∧ .bool (decide ((IntKind.i64.wrap ((BitVec.ofInt (IntKind.i64).bits (shrV .i64 n350 y370) &&& BitVec.ofInt (IntKind.i64).bits 1).toNat)) = 1)) = v), (fun H rs v => [] = rs ∧ v1 = v), (fun H rs v => [] = rs ∧ .int .i64 (y370) = v), (fun H rs v => [] = rs ∧ .pointer (some ((Value.base (v1)).add ((y370 : Int).toNat * 2))) = v), (fun H rs v => [] = rs ∧ .pointer (some ((Value.base (v1)).add ((y370 : Int).toNat * 2))) = v), (fun H rs v => [] = rs ∧ .string (y375.Name) = v), (fun H rs v => [] = rs ∧ .agg [.bool (decide ((IntKind.i64.wrap ((BitVec.ofInt (IntKind.i64).bits (shrV .i64 n350 y370) &&& BitVec.ofInt (IntKind.i64).bits 1).toNat)) = 1)), .string (y375.Name)].toArray = v), (fun H rs v => ∃ v387 : Value, [] = rs ∧ v387 = v ∧ RdS H v387 ([(S_api_OrderStep.mk (decide ((IntKind.i64.wrap ((BitVec.ofInt (IntKind.i64).bits (shrV .i64 n350 y370) &&& BitVec.ofInt (IntKind.i64).bits 1).toNat)) = 1)) y375.Name)]) ∧ Value.cap' v387 = ([(S_api_OrderStep.mk (decide ((IntKind.i64.wrap ((BitVec.ofInt (IntKind.i64).bits (shrV .i64 n350 y370) &&& BitVec.ofInt (IntKind.i64).bits 1).toNat)) = 1)) y375.Name)]).length)]) [[], [], [], [], [], [], [], [], [], [], [], [], []] [[], [], [], [], [], [], [], [], [], [], [], [], []] [] [0, 1, 2, 3, 4, 5, 6, 7, 8, 9, 10, 11, 12] Facts.mixed (by kernel_rfl) rfl rfl rfl (by kernel_rfl) (phiT_mono ⟨eq_monoT _ _, eq_monoT _ _, eq_monoT _ _, eq_monoT _ _, eq_monoT _ _, eq_monoT _ _, eq_monoT _ _, eq_monoT _ _, eq_monoT _ _, eq_monoT _ _, eq_monoT _ _, eq_monoT _ _, (by rintro H1 H2 rs v hle ⟨v387, rfl, rfl, h391, hc392⟩; exact ⟨v387, rfl, rfl, (h391.mono hle), (hc392)⟩), trivial⟩) ⟨?_, ?_, ?_, ?_, ?_, ?_, ?_, ?_, ?_, ?_, ?_, ?_, ?_, trivial⟩ ?_
            · intro HX hX X Rest hR
              intro hU
              refine W_move rfl rfl rfl ?_
              exact W_end (OneT_end [] (Hp.le_refl _) ⟨rfl, rfl⟩)
            · intro HX hX X Rest hR
              intro hU
              refine W_move rfl rfl rfl ?_
              exact W_end (OneT_end [] (Hp.le_refl _) ⟨rfl, rfl⟩)
            · intro HX hX X Rest hR
              intro hU
              refine W_move rfl rfl rfl ?_
              exact W_end (OneT_end [] (Hp.le_refl _) ⟨rfl, rfl⟩)
            · intro HX hX X Rest hR
              rintro _ _ ⟨rfl, rfl⟩
              rintro _ _ ⟨rfl, rfl⟩
              intro hU
              refine W_shr rfl rfl rfl rfl hq374 ?_
              exact W_end (OneT_end [] (Hp.le_refl _) ⟨rfl, rfl⟩)
            · intro HX hX X Rest hR
              rintro _ _ ⟨rfl, rfl⟩
              intro hU
              refine W_bin rfl rfl rfl rfl rfl ?_
              exact W_end (OneT_end [] (Hp.le_refl _) ⟨rfl, rfl⟩)
            · intro HX hX X Rest hR
              rintro _ _ ⟨rfl, rfl⟩
              intro hU
              refine W_bin rfl rfl rfl rfl rfl ?_
              exact W_end (OneT_end [] (Hp.le_refl _) ⟨rfl, rfl⟩)
            · intro HX hX X Rest hR
              intro hU
              refine W_move rfl rfl rfl ?_
              exact W_end (OneT_end [] (Hp.le_refl _) ⟨rfl, rfl⟩)
            · intro HX hX X Rest hR
              intro hU
              refine W_move rfl rfl rfl ?_
              exact W_end (OneT_end [] (Hp.le_refl _) ⟨rfl, rfl⟩)
            · intro HX hX X Rest hR
              rintro _ _ ⟨rfl, rfl⟩
              rintro _ _ ⟨rfl, rfl⟩
              intro hU
              refine W_indexS rfl rfl Proofs.Try.runUnderlying23 Proofs.Try.sizeOf33 rfl ((h1.mono hle356).mono hX) rfl h376 he377 ?_
              exact W_end (OneT_end [] (Hp.le_refl _) ⟨rfl, rfl⟩)
            · intro HX hX X Rest hR
              rintro _ _ ⟨rfl, rfl⟩
              intro hU
              refine W_field (o := 0) rfl rfl Proofs.Try.runUnderlying33 rfl Proofs.Try.sizeOf9 rfl rfl rfl ?_
              exact W_end (OneT_end [] (Hp.le_refl _) ⟨rfl, rfl⟩)
            · intro HX hX X Rest hR
              rintro _ _ ⟨rfl, rfl⟩
              intro hU
              refine W_load rfl rfl Proofs.Try.isAgg9 rfl (HCells.one ((hc378.mono hle356).mono hX) 0 rfl).at ?_
              exact W_end (OneT_end [] (Hp.le_refl _) ⟨rfl, rfl⟩)
            · intro HX hX X Rest hR
              rintro _ _ ⟨rfl, rfl⟩
              rintro _ _ ⟨rfl, rfl⟩
              intro hU
              refine W_build (css := [[.bool (decide ((IntKind.i64.wrap ((BitVec.ofInt (IntKind.i64).bits (shrV .i64 n350 y370) &&& BitVec.ofInt (IntKind.i64).bits 1).toNat)) = 1))], [.string (y375.Name)]]) (zs := [.bool (false), .string (⟨#[]⟩)]) (out := [.bool (decide ((IntKind.i64.wrap ((BitVec.ofInt (IntKind.i64).bits (shrV .i64 n350 y370) &&& BitVec.ofInt (IntKind.i64).bits 1).toNat)) = 1)), .string (y375.Name)]) (places := [(0, 1), (1, 1)]) rfl rfl rfl ⟨rfl, rfl, trivial⟩ Proofs.Try.zeroValue36 rfl Proofs.Try.runUnderlying36 (fun w => by kernel_rfl) rfl ?_
              exact W_end (OneT_end [] (Hp.le_refl _) ⟨rfl, rfl⟩)
            · intro HX hX X Rest hR
              rintro _ _ ⟨rfl, rfl⟩
              intro hU
              refine W_buildSlice (α := S_api_OrderStep) (css := [[.bool (decide ((IntKind.i64.wrap ((BitVec.ofInt (IntKind.i64).bits (shrV .i64 n350 y370) &&& BitVec.ofInt (IntKind.i64).bits 1).toNat)) = 1)), .string (y375.Name)]]) (zs := [.bool (false), .string (⟨#[]⟩)]) (out := [.bool (decide ((IntKind.i64.wrap ((BitVec.ofInt (IntKind.i64).bits (shrV .i64 n350 y370) &&& BitVec.ofInt (IntKind.i64).bits 1).toNat)) = 1)), .string (y375.Name)]) (ys := [(S_api_OrderStep.mk (decide ((IntKind.i64.wrap ((BitVec.ofInt (IntKind.i64).bits (shrV .i64 n350 y370) &&& BitVec.ofInt (IntKind.i64).bits 1).toNat)) = 1)) y375.Name)]) rfl rfl rfl ⟨rfl, trivial⟩ Proofs.Try.runUnderlying25 Proofs.Try.sizeOf36 rfl Proofs.Try.zeroValue36 (by kernel_rfl) rfl rfl rfl rfl ⟨[.bool (decide ((IntKind.i64.wrap ((BitVec.ofInt (IntKind.i64).bits (shrV .i64 n350 y370) &&& BitVec.ofInt (IntKind.i64).bits 1).toNat)) = 1)), .string (y375.Name)], [], rfl, rfl, rfl⟩ rfl ?_
              intro b386 v387 H388 hv389 hle390 h391
              have hc392 : Value.cap' v387 = ([(S_api_OrderStep.mk (decide ((IntKind.i64.wrap ((BitVec.ofInt (IntKind.i64).bits (shrV .i64 n350 y370) &&& BitVec.ofInt (IntKind.i64).bits 1).toNat)) = 1)) y375.Name)]).length := by rw [hv389]; rfl
              exact W_end (OneT_end [] hle390 ⟨v387, rfl, rfl, (h391), (hc392)⟩)
            intro H393 hle394
            rintro _ _ ⟨rfl, rfl⟩
            rintro _ _ ⟨rfl, rfl⟩
            rintro _ _ ⟨rfl, rfl⟩
            rintro _ _ ⟨rfl, rfl⟩
            rintro _ _ ⟨rfl, rfl⟩
            rintro _ _ ⟨rfl, rfl⟩
            rintro _ _ ⟨rfl, rfl⟩
            rintro _ _ ⟨rfl, rfl⟩
            rintro _ _ ⟨rfl, rfl⟩
            rintro _ _ ⟨rfl, rfl⟩
            rintro _ _ ⟨rfl, rfl⟩
            rintro _ _ ⟨rfl, rfl⟩
            rintro _ _ ⟨v387, rfl, rfl, h391, hc392⟩
            obtain ⟨hz395, hm⟩ := need_some hm
            refine W_appendO (α := S_api_OrderStep) (l := l353) (ys := [(S_api_OrderStep.mk (decide ((IntKind.i64.wrap ((BitVec.ofInt (IntKind.i64).bits (shrV .i64 n350 y370) &&& BitVec.ofInt (IntKind.i64).bits 1).toNat)) = 1)) y375.Name)]) rfl rfl Proofs.Try.underlying25 ⟨_, rfl, rfl, rfl, rfl⟩ rfl rfl rfl rfl rfl (hr354.mono hle394) h391 hz395 ?_
            intro v396 xs397 hr398
            refine W_assign rfl rfl rfl ?_
            refine W_end ?_
            refine E_then ?_
            refine C_region ?_
            refine W_move rfl rfl rfl ?_
            refine W_move rfl rfl rfl ?_
            obtain ⟨hq399, hm⟩ := need_some hm
            refine W_shl rfl rfl rfl rfl hq399 ?_
            refine W_bin rfl rfl rfl rfl rfl ?_
            refine W_assign rfl rfl rfl ?_
            refine W_end ?_
            refine E_normal_block ?_
            exact E_keepJ (E_back (Nat.lt_succ_self _) ⟨IntKind.i64.wrap ((BitVec.ofInt (IntKind.i64).bits n350 ^^^ BitVec.ofInt (IntKind.i64).bits (shlV .i64 1 y370)).toNat), (l353 ++ ([(S_api_OrderStep.mk (decide ((IntKind.i64.wrap ((BitVec.ofInt (IntKind.i64).bits (shrV .i64 n350 y370) &&& BitVec.ofInt (IntKind.i64).bits 1).toNat)) = 1)) y375.Name)])), v396, xs397, (by rw [hn358]; exact hm), hr398, (Hp.le_trans hle356 hle394), rfl, rfl⟩) (List.Perm.refl _) ⟨rfl, rfl, rfl, rfl, trivial⟩
          · have hm := ite_f' hb369 hm
            refine C_exit ?_
            refine E_exit_then ?_
            refine E_exit_then ?_
            refine E_exit_hit ?_
            refine E_drop (List.Sublist.cons_cons _ (List.Sublist.cons _ (List.Sublist.refl _))) ?_
            exact E_keepJ (J260 _ _ _ ⟨l353, v351, xs352, hm, hr354, hle356, rfl, rfl⟩) (List.Perm.refl _) ⟨rfl, trivial⟩

theorem m_gridhallkeep4_orderFact_c {B : Nat} {w0 w : World} {H : Hp} {M : List Res} {r : Bool} (hm : m_gridhallkeep4_orderFact = some r) (ht : St B w0 H (M) w) :
    Calls Proofs.Try.prog 9 [].toArray w (Ret B w0 fun H' M' v => H = H' ∧ M = M' ∧ .bool (r) = v) := by
  unfold m_gridhallkeep4_orderFact at hm
  refine enter Proofs.Try.func9 rfl rfl rfl ht ?_
  refine C_seq ?_
  refine C_region ?_
  refine W_assign rfl rfl rfl ?_
  refine W_end ?_
  refine E_then ?_
  refine C_seq ?_
  refine C_region ?_
  refine W_build (css := [[.int .i64 (2)], [.string (⟨#[66]⟩)]]) (zs := [.int .i64 (0), .string (⟨#[]⟩), .int .i64 (0), .int .i64 (0)]) (out := [.int .i64 (2), .string (⟨#[66]⟩), .int .i64 (0), .int .i64 (0)]) (places := [(0, 1), (1, 1), (2, 1), (3, 1)]) rfl rfl rfl ⟨rfl, rfl, trivial⟩ Proofs.Try.zeroValue58 rfl Proofs.Try.runUnderlying58 (fun w => by kernel_rfl) rfl ?_
  refine W_buildSliceO (α := S_api_InterlockNode) (css := [[.int .i64 (2), .string (⟨#[66]⟩), .int .i64 (0), .int .i64 (0)]]) (zs := [.int .i64 (0), .string (⟨#[]⟩), .int .i64 (0), .int .i64 (0)]) (out := [.int .i64 (2), .string (⟨#[66]⟩), .int .i64 (0), .int .i64 (0)]) (ys := [(S_api_InterlockNode.mk 2 (⟨#[66]⟩) 0 0)]) rfl rfl rfl ⟨rfl, trivial⟩ Proofs.Try.runUnderlying44 Proofs.Try.sizeOf58 rfl Proofs.Try.zeroValue58 (by kernel_rfl) rfl rfl rfl rfl ⟨[.int .i64 (2), .string (⟨#[66]⟩), .int .i64 (0), .int .i64 (0)], [], rfl, rfl, rfl⟩ rfl ?_
  intro v101 xs102 hr103
  refine W_build (css := [[.bool (true)], [.string (⟨#[65]⟩)], [v101]]) (zs := [.bool (false), .string (⟨#[]⟩), .slice none 0 0]) (out := [.bool (true), .string (⟨#[65]⟩), v101]) (places := [(0, 1), (1, 1), (2, 1)]) rfl rfl rfl ⟨rfl, rfl, (Rw.cells hr103), trivial⟩ Proofs.Try.zeroValue46 rfl Proofs.Try.runUnderlying46 (fun w => by kernel_rfl) rfl ?_
  refine W_freeze (hr103).rd rfl (fun H104 hle105 h106 => ?_)
  refine W_buildSliceO (α := S_api_InterlockRule) (css := [[.bool (true), .string (⟨#[65]⟩), v101]]) (zs := [.bool (false), .string (⟨#[]⟩), .slice none 0 0]) (out := [.bool (true), .string (⟨#[65]⟩), v101]) (ys := [(S_api_InterlockRule.mk true (⟨#[65]⟩) ([(S_api_InterlockNode.mk 2 (⟨#[66]⟩) 0 0)]))]) rfl rfl rfl ⟨rfl, trivial⟩ Proofs.Try.runUnderlying22 Proofs.Try.sizeOf46 rfl Proofs.Try.zeroValue46 (by kernel_rfl) rfl rfl rfl rfl ⟨[.bool (true), .string (⟨#[65]⟩), v101], [], rfl, ⟨v101, rfl, h106⟩, rfl⟩ rfl ?_
  intro v107 xs108 hr109
  refine W_assign rfl rfl rfl ?_
  refine W_end ?_
  refine E_then ?_
  refine C_seq ?_
  refine C_region ?_
  refine W_move rfl rfl rfl ?_
  refine W_build (css := [[.string (⟨#[65]⟩)]]) (zs := [.string (⟨#[]⟩), .bool (false)]) (out := [.string (⟨#[65]⟩), .bool (false)]) (places := [(0, 1), (1, 1)]) rfl rfl rfl ⟨rfl, trivial⟩ Proofs.Try.zeroValue33 rfl Proofs.Try.runUnderlying33 (fun w => by kernel_rfl) rfl ?_
  refine W_build (css := [[.string (⟨#[66]⟩)], [.bool (true)]]) (zs := [.string (⟨#[]⟩), .bool (false)]) (out := [.string (⟨#[66]⟩), .bool (true)]) (places := [(0, 1), (1, 1)]) rfl rfl rfl ⟨rfl, rfl, trivial⟩ Proofs.Try.zeroValue33 rfl Proofs.Try.runUnderlying33 (fun w => by kernel_rfl) rfl ?_
  refine W_buildSliceO (α := S_api_InterlockState) (css := [[.string (⟨#[65]⟩), .bool (false)], [.string (⟨#[66]⟩), .bool (true)]]) (zs := [.string (⟨#[]⟩), .bool (false), .string (⟨#[]⟩), .bool (false)]) (out := [.string (⟨#[65]⟩), .bool (false), .string (⟨#[66]⟩), .bool (true)]) (ys := [(S_api_InterlockState.mk (⟨#[65]⟩) false), (S_api_InterlockState.mk (⟨#[66]⟩) true)]) rfl rfl rfl ⟨rfl, rfl, trivial⟩ Proofs.Try.runUnderlying23 Proofs.Try.sizeOf33 rfl Proofs.Try.zeroValue33 (by kernel_rfl) rfl rfl rfl rfl ⟨[.string (⟨#[65]⟩), .bool (false)], [.string (⟨#[66]⟩), .bool (true)], rfl, rfl, ⟨[.string (⟨#[66]⟩), .bool (true)], [], rfl, rfl, rfl⟩⟩ rfl ?_
  intro v110 xs111 hr112
  refine W_build (css := [[.string (⟨#[65]⟩)], [.bool (true)]]) (zs := [.string (⟨#[]⟩), .bool (false)]) (out := [.string (⟨#[65]⟩), .bool (true)]) (places := [(0, 1), (1, 1)]) rfl rfl rfl ⟨rfl, rfl, trivial⟩ Proofs.Try.zeroValue33 rfl Proofs.Try.runUnderlying33 (fun w => by kernel_rfl) rfl ?_
  refine W_build (css := [[.string (⟨#[66]⟩)]]) (zs := [.string (⟨#[]⟩), .bool (false)]) (out := [.string (⟨#[66]⟩), .bool (false)]) (places := [(0, 1), (1, 1)]) rfl rfl rfl ⟨rfl, trivial⟩ Proofs.Try.zeroValue33 rfl Proofs.Try.runUnderlying33 (fun w => by kernel_rfl) rfl ?_
  refine W_buildSliceO (α := S_api_InterlockState) (css := [[.string (⟨#[65]⟩), .bool (true)], [.string (⟨#[66]⟩), .bool (false)]]) (zs := [.string (⟨#[]⟩), .bool (false), .string (⟨#[]⟩), .bool (false)]) (out := [.string (⟨#[65]⟩), .bool (true), .string (⟨#[66]⟩), .bool (false)]) (ys := [(S_api_InterlockState.mk (⟨#[65]⟩) true), (S_api_InterlockState.mk (⟨#[66]⟩) false)]) rfl rfl rfl ⟨rfl, rfl, trivial⟩ Proofs.Try.runUnderlying23 Proofs.Try.sizeOf33 rfl Proofs.Try.zeroValue33 (by kernel_rfl) rfl rfl rfl rfl ⟨[.string (⟨#[65]⟩), .bool (true)], [.string (⟨#[66]⟩), .bool (false)], rfl, rfl, ⟨[.string (⟨#[66]⟩), .bool (false)], [], rfl, rfl, rfl⟩⟩ rfl ?_
  intro v113 xs114 hr115
  refine W_perm (List.Perm.trans (List.Perm.cons _ (List.Perm.swap _ _ _)) (List.Perm.trans (List.Perm.swap _ _ _) (List.Perm.cons _ (List.Perm.swap _ _ _)))) ?_
  obtain ⟨r116, hc117, hm⟩ := bind_some hm
  refine W_call Proofs.Try.call8 rfl rfl rfl (fun w ht => by obtain ⟨H0_, hl0_, ht0_, hr0_, bk0_⟩ := ht.lendRow hr109 rfl; obtain ⟨H1_, hl1_, ht1_, hr1_, bk1_⟩ := ht0_.lendRow (hr112.mono hl0_) rfl; obtain ⟨H2_, hl2_, ht2_, hr2_, bk2_⟩ := ht1_.lendRow ((hr115.mono hl0_).mono hl1_) rfl; have h := m_order_Plan_c (hm := hc117) ((hr0_.mono hl1_).mono hl2_) (hr1_.mono hl2_) hr2_ RdS.nil ht2_; exact lend_back bk0_ (lend_back bk1_ (lend_back bk2_ (h)))) ?_
  rintro _ _ _ ⟨rfl, ⟨_, rfl, ⟨_, rfl, ⟨_, rfl, v118, xs119, rfl, rfl, h120⟩⟩⟩⟩
  have h120 := h120 H104
  refine W_move rfl rfl rfl ?_
  refine W_extract rfl rfl rfl rfl ?_
  refine W_extract rfl rfl rfl rfl ?_
  refine W_assign rfl rfl rfl ?_
  refine W_assign rfl rfl rfl ?_
  refine W_end ?_
  refine E_then ?_
  refine C_seq ?_
  refine C_region ?_
  refine W_move rfl rfl rfl ?_
  refine W_bin rfl rfl rfl rfl rfl ?_
  refine W_move rfl rfl rfl ?_
  cases hb121 : (decide (r116.2 = 0))
  · have hm := ite_f' hb121 hm
    refine W_no rfl rfl rfl ?_
    refine W_no rfl rfl rfl ?_
    refine W_no rfl rfl rfl ?_
    refine W_pick rfl rfl rfl rfl ?_
    refine W_move rfl rfl rfl ?_
    refine W_no rfl rfl rfl ?_
    refine W_no rfl rfl rfl ?_
    refine W_no rfl rfl rfl ?_
    refine W_no rfl rfl rfl ?_
    refine W_no rfl rfl rfl ?_
    refine W_pick rfl rfl rfl rfl ?_
    refine W_move rfl rfl rfl ?_
    refine W_no rfl rfl rfl ?_
    refine W_no rfl rfl rfl ?_
    refine W_no rfl rfl rfl ?_
    refine W_no rfl rfl rfl ?_
    refine W_no rfl rfl rfl ?_
    refine W_pick rfl rfl rfl rfl ?_
    refine W_assign rfl rfl rfl ?_
    refine W_end ?_
    refine E_then ?_
    refine C_ret ?_
    obtain rfl := Option.some.inj hm
    refine E_drop (List.Sublist.cons _ (List.Sublist.cons _ (List.Sublist.cons _ (List.Sublist.cons _ (List.Sublist.refl _))))) ?_
    refine E_weak hle105 ?_
    exact end1 rfl rfl ⟨rfl, rfl, rfl⟩
  · have hm := ite_t' hb121 hm
    refine W_move rfl rfl rfl ?_
    refine W_lenO (List.mem_cons_of_mem _ (List.mem_cons_of_mem _ (List.mem_cons_of_mem _ (List.mem_cons_self ..)))) rfl rfl Proofs.Try.runUnderlying25 rfl ?_
    refine W_bin rfl rfl rfl rfl rfl ?_
    refine W_pick rfl rfl rfl rfl ?_
    refine W_move rfl rfl rfl ?_
    cases hb122 : (decide ((r116.1.length : Int) = 2))
    · have hm := ite_f' hb122 hm
      refine W_no rfl rfl rfl ?_
      refine W_no rfl rfl rfl ?_
      refine W_no rfl rfl rfl ?_
      refine W_no rfl rfl rfl ?_
      refine W_no rfl rfl rfl ?_
      refine W_pick rfl rfl rfl rfl ?_
      refine W_move rfl rfl rfl ?_
      refine W_no rfl rfl rfl ?_
      refine W_no rfl rfl rfl ?_
      refine W_no rfl rfl rfl ?_
      refine W_no rfl rfl rfl ?_
      refine W_no rfl rfl rfl ?_
      refine W_pick rfl rfl rfl rfl ?_
      refine W_assign rfl rfl rfl ?_
      refine W_end ?_
      refine E_then ?_
      refine C_ret ?_
      obtain rfl := Option.some.inj hm
      refine E_drop (List.Sublist.cons _ (List.Sublist.cons _ (List.Sublist.cons _ (List.Sublist.cons _ (List.Sublist.refl _))))) ?_
      refine E_weak hle105 ?_
      exact end1 rfl rfl ⟨rfl, rfl, rfl⟩
    · have hm := ite_t' hb122 hm
      refine W_move rfl rfl rfl ?_
      obtain ⟨y123, h124, he125, hm⟩ := idx_some hm
      refine W_indexO (List.mem_cons_of_mem _ (List.mem_cons_of_mem _ (List.mem_cons_of_mem _ (List.mem_cons_self ..)))) rfl rfl Proofs.Try.runUnderlying25 Proofs.Try.sizeOf36 rfl rfl h124 (List.getElem?_eq_some_iff.1 he125).1 ?_
      obtain ⟨_, rfl, hg126⟩ := (h120).elem he125
      refine W_loadAgg (cs := [.bool (y123.Close), .string (y123.Switch)]) rfl rfl Proofs.Try.isAgg36 Proofs.Try.sizeOf36 rfl (row_cells (List.mem_cons_of_mem _ (List.mem_cons_of_mem _ (List.mem_cons_of_mem _ (List.mem_cons_self ..)))) hg126) rfl ?_
      refine W_build (css := [[.string (⟨#[66]⟩)]]) (zs := [.bool (false), .string (⟨#[]⟩)]) (out := [.bool (false), .string (⟨#[66]⟩)]) (places := [(0, 1), (1, 1)]) rfl rfl rfl ⟨rfl, trivial⟩ Proofs.Try.zeroValue36 rfl Proofs.Try.runUnderlying36 (fun w => by kernel_rfl) rfl ?_
      refine W_eqAgg (b := decide (y123.Close = false) && (decide (y123.Switch = (⟨#[66]⟩)) && true)) rfl rfl (by kernel_rfl) rfl rfl (fun w => run_equal_struct (bs := [decide (y123.Close = false), decide (y123.Switch = (⟨#[66]⟩))]) Proofs.Try.runUnderlying36 (by kernel_rfl) ⟨(by decide), (fldEq_bool Proofs.Try.isAgg4 Proofs.Try.runUnderlying4 rfl rfl), (by decide), (fldEq_str Proofs.Try.isAgg9 Proofs.Try.runUnderlying9 rfl rfl), trivial⟩) ?_
      refine W_pick rfl rfl rfl rfl ?_
      refine W_move rfl rfl rfl ?_
      cases hb127 : (decide (y123.Close = false) && (decide (y123.Switch = (⟨#[66]⟩)) && true))
      · have hm := ite_f' hb127 hm
        refine W_no rfl rfl rfl ?_
        refine W_no rfl rfl rfl ?_
        refine W_no rfl rfl rfl ?_
        refine W_no rfl rfl rfl ?_
        refine W_no rfl rfl rfl ?_
        refine W_pick rfl rfl rfl rfl ?_
        refine W_assign rfl rfl rfl ?_
        refine W_end ?_
        refine E_then ?_
        refine C_ret ?_
        obtain rfl := Option.some.inj hm
        refine E_drop (List.Sublist.cons _ (List.Sublist.cons _ (List.Sublist.cons _ (List.Sublist.cons _ (List.Sublist.refl _))))) ?_
        refine E_weak hle105 ?_
        exact end1 rfl rfl ⟨rfl, rfl, rfl⟩
      · have hm := ite_t' hb127 hm
        refine W_move rfl rfl rfl ?_
        obtain ⟨y128, h129, he130, hm⟩ := idx_some hm
        refine W_indexO (List.mem_cons_of_mem _ (List.mem_cons_of_mem _ (List.mem_cons_of_mem _ (List.mem_cons_self ..)))) rfl rfl Proofs.Try.runUnderlying25 Proofs.Try.sizeOf36 rfl rfl h129 (List.getElem?_eq_some_iff.1 he130).1 ?_
        obtain ⟨_, rfl, hg131⟩ := (h120).elem he130
        refine W_loadAgg (cs := [.bool (y128.Close), .string (y128.Switch)]) rfl rfl Proofs.Try.isAgg36 Proofs.Try.sizeOf36 rfl (row_cells (List.mem_cons_of_mem _ (List.mem_cons_of_mem _ (List.mem_cons_of_mem _ (List.mem_cons_self ..)))) hg131) rfl ?_
        refine W_build (css := [[.bool (true)], [.string (⟨#[65]⟩)]]) (zs := [.bool (false), .string (⟨#[]⟩)]) (out := [.bool (true), .string (⟨#[65]⟩)]) (places := [(0, 1), (1, 1)]) rfl rfl rfl ⟨rfl, rfl, trivial⟩ Proofs.Try.zeroValue36 rfl Proofs.Try.runUnderlying36 (fun w => by kernel_rfl) rfl ?_
        refine W_eqAgg (b := decide (y128.Close = true) && (decide (y128.Switch = (⟨#[65]⟩)) && true)) rfl rfl (by kernel_rfl) rfl rfl (fun w => run_equal_struct (bs := [decide (y128.Close = true), decide (y128.Switch = (⟨#[65]⟩))]) Proofs.Try.runUnderlying36 (by kernel_rfl) ⟨(by decide), (fldEq_bool Proofs.Try.isAgg4 Proofs.Try.runUnderlying4 rfl rfl), (by decide), (fldEq_str Proofs.Try.isAgg9 Proofs.Try.runUnderlying9 rfl rfl), trivial⟩) ?_
        refine W_pick rfl rfl rfl rfl ?_
        refine W_assign rfl rfl rfl ?_
        refine W_end ?_
        refine E_then ?_
        refine C_ret ?_
        obtain rfl := Option.some.inj hm
        refine E_drop (List.Sublist.cons _ (List.Sublist.cons _ (List.Sublist.cons _ (List.Sublist.cons _ (List.Sublist.refl _))))) ?_
        refine E_weak hle105 ?_
        exact end1 rfl rfl ⟨rfl, rfl, rfl⟩
end Go.Sim
