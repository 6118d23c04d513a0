/-
  Printed by a program: each Go function computes its model.
-/
import Derived.Test.YtogalpcheddenaaModP
import Derived.Test.YtogalpcheddenaaRows
import Derived.KernelRfl
namespace Go.Sim
open Go
set_option linter.unusedVariables false
set_option linter.unusedSimpArgs false
set_option maxRecDepth 100000
theorem Facts.mixed : Proofs.Try.prog.follows .mixedOrders = true := by kernel_rfl

theorem m_netmodel_Name_c {B : Nat} {w0 w : World} {H : Hp} {M : List Res} {p0_s : ByteArray} {r : Bool} (hm : m_netmodel_Name p0_s = some r) (ht : St B w0 H (M) w) :
    Calls Proofs.Try.prog 25 [.string (p0_s)].toArray w (Ret B w0 fun H' M' v => H = H' ∧ M = M' ∧ .bool (r) = v) := by
  unfold m_netmodel_Name at hm
  refine enter Proofs.Try.func25 rfl rfl rfl ht ?_
  refine C_seq ?_
  refine C_region ?_
  refine W_assign rfl rfl rfl ?_
  refine W_end ?_
  refine E_then ?_
  refine C_seq ?_
  refine C_seq ?_
  refine C_region ?_
  refine W_move rfl rfl rfl ?_
  obtain ⟨hz101, hm⟩ := need_some hm
  refine W_convBytes rfl rfl Proofs.Try.runUnderlying9 Proofs.Try.runUnderlying76 Proofs.Try.runUnderlying5 rfl hz101 ?_
  intro v102 H103 hle104 h105
  refine W_lenR rfl rfl Proofs.Try.runUnderlying76 rfl h105 ?_
  refine W_move rfl rfl rfl ?_
  refine W_end ?_
  refine E_then ?_
  refine C_block ?_
  refine C_keep (L' := [(0, .string (p0_s)), (6, v102), (7, .int .i64 (((bytesL p0_s).length : Int))), (8, .int .i64 (((0 : Nat) : Int)))]) ⟨rfl, rfl, rfl, rfl, trivial⟩ (List.Perm.refl _) ?_
  refine C_loop (fun n H' M' L' => ∃ (k106 : Nat) (zs144' : List U8), (bytesL p0_s).drop k106 = zs144' ∧ zs144'.length = n ∧ forI (fun k y s139 n => m_netmodel_Name_b1 k y n) (fun _ => some ((decide (1 ≤ (p0_s.size : Int))) && (decide ((p0_s.size : Int) ≤ 8)))) k106 zs144' () = some r ∧ H103.le H' ∧ M = M' ∧ [(0, .string (p0_s)), (6, v102), (7, .int .i64 (((bytesL p0_s).length : Int))), (8, .int .i64 ((k106 : Int)))] = L') _ ⟨0, _, rfl, rfl, hm, (Hp.le_refl _), rfl, rfl⟩ ?_
  rintro _ H137 _ _ ⟨k106, zs144', hd146, rfl, hm, hle138, rfl, rfl⟩
  refine C_seq ?_
  refine C_region ?_
  refine W_bin rfl rfl rfl rfl rfl ?_
  refine W_end (E_then ?_)
  refine C_seq ?_
  refine C_cond (b := decide ((k106 : Int) < ((bytesL p0_s).length : Int))) rfl (fun hb148 => ?_) (fun hb148 => ?_)
  · obtain ⟨y143, zs144, rfl, hy145, hd147⟩ := rng_t hd146 hb148
    have hm : m_netmodel_Name_b1 k106 y143 (forI (fun k y s139 n => m_netmodel_Name_b1 k y n) (fun _ => some ((decide (1 ≤ (p0_s.size : Int))) && (decide ((p0_s.size : Int) ≤ 8)))) (k106 + 1) zs144) = some r := hm
    generalize hn141 : forI (fun k y s139 n => m_netmodel_Name_b1 k y n) (fun _ => some ((decide (1 ≤ (p0_s.size : Int))) && (decide ((p0_s.size : Int) ≤ 8)))) (k106 + 1) zs144 = nx140 at hm
    unfold m_netmodel_Name_b1 at hm
    refine C_skip (E_then ?_)
    refine C_seq ?_
    refine C_block ?_
    refine C_seq ?_
    refine C_region ?_
    refine W_move rfl rfl rfl ?_
    obtain ⟨_, rfl, hc149⟩ := (h105).elem hy145
    refine W_indexS rfl rfl Proofs.Try.runUnderlying76 Proofs.Try.sizeOf5 rfl (h105.mono hle138) rfl (Int.natCast_nonneg _) hy145 ?_
    refine W_load rfl rfl Proofs.Try.isAgg5 rfl (HCells.one (hc149.mono hle138) 0 rfl).at ?_
    refine W_assign rfl rfl rfl ?_
    refine W_assign rfl rfl rfl ?_
    refine W_end ?_
    refine E_then ?_
    refine C_seq_join (fun H' M' L' => H137 = H' ∧ M = M' ∧ [(0, .string (p0_s)), (6, v102), (7, .int .i64 (((bytesL p0_s).length : Int))), (8, .int .i64 ((k106 : Int))), (31, .bool (!(((decide (65 ≤ y143.n)) && (decide (y143.n ≤ 90))) || (((decide (0 < (k106 : Int))) && (decide (48 ≤ y143.n))) && (decide (y143.n ≤ 57))))))] = L') ?_ (fun J156 => ?_)
    · rintro _ _ _ ⟨rfl, rfl, rfl⟩
      refine C_cond (b := !(((decide (65 ≤ y143.n)) && (decide (y143.n ≤ 90))) || (((decide (0 < (k106 : Int))) && (decide (48 ≤ y143.n))) && (decide (y143.n ≤ 57))))) rfl (fun hb157 => ?_) (fun hb157 => ?_)
      · have hm := ite_t' hb157 hm
        refine C_seq ?_
        refine C_region ?_
        refine W_assign rfl rfl rfl ?_
        refine W_end ?_
        refine E_then ?_
        refine C_ret ?_
        refine E_ret_block ?_
        refine E_ret_then ?_
        refine E_ret_then ?_
        refine E_ret_block ?_
        refine E_ret_then ?_
        obtain rfl := Option.some.inj hm
        refine E_weak (Hp.le_trans hle104 hle138) ?_
        exact end1 rfl rfl ⟨rfl, rfl, rfl⟩
      · have hm := ite_f' hb157 hm
        refine C_skip ?_
        refine E_normal_block ?_
        refine E_then ?_
        refine C_region ?_
        refine W_bin rfl rfl rfl rfl rfl ?_
        refine W_move rfl rfl rfl ?_
        refine W_end ?_
        exact E_keepJ (E_back (Nat.lt_succ_self _) ⟨k106 + 1, zs144, hd147, rfl, (by rw [hn141]; exact hm), hle138, rfl, rfl⟩) (List.Perm.refl _) ⟨rfl, rfl, rfl, (congrArg (fun z => some (Value.int .i64 z)) (i64_succ hy145 ((h105.mono hle138)).lenMax)), trivial⟩
    · refine C_region ?_
      refine W_move rfl rfl rfl ?_
      refine W_bin rfl rfl rfl rfl rfl ?_
      refine W_move rfl rfl rfl ?_
      cases hb158 : (decide (65 ≤ y143.n))
      · refine W_no rfl rfl rfl ?_
        refine W_no rfl rfl rfl ?_
        refine W_pick rfl rfl rfl rfl ?_
        refine W_move rfl rfl rfl ?_
        refine W_move rfl rfl rfl ?_
        refine W_bin rfl rfl rfl rfl rfl ?_
        refine W_move rfl rfl rfl ?_
        cases hb159 : (decide (0 < (k106 : Int)))
        · refine W_no rfl rfl rfl ?_
          refine W_no rfl rfl rfl ?_
          refine W_pick rfl rfl rfl rfl ?_
          refine W_move rfl rfl rfl ?_
          refine W_no rfl rfl rfl ?_
          refine W_no rfl rfl rfl ?_
          refine W_pick rfl rfl rfl rfl ?_
          refine W_pick rfl rfl rfl rfl ?_
          refine W_un rfl rfl rfl rfl ?_
          refine W_end ?_
          exact E_keepJ (J156 _ _ _ ⟨rfl, rfl, rfl⟩) (List.Perm.refl _) ⟨rfl, rfl, rfl, rfl, (by show some (Value.bool (true)) = some (Value.bool (!(((decide (65 ≤ y143.n)) && (decide (y143.n ≤ 90))) || (((decide (0 < (k106 : Int))) && (decide (48 ≤ y143.n))) && (decide (y143.n ≤ 57)))))); simp only [hb158, hb159, Bool.and_true, Bool.true_and, Bool.false_and, Bool.and_false, Bool.or_true, Bool.true_or, Bool.or_false, Bool.false_or, Bool.not_true, Bool.not_false]), trivial⟩
        · refine W_move rfl rfl rfl ?_
          refine W_bin rfl rfl rfl rfl rfl ?_
          refine W_pick rfl rfl rfl rfl ?_
          refine W_move rfl rfl rfl ?_
          cases hb160 : (decide (48 ≤ y143.n))
          · refine W_no rfl rfl rfl ?_
            refine W_no rfl rfl rfl ?_
            refine W_pick rfl rfl rfl rfl ?_
            refine W_pick rfl rfl rfl rfl ?_
            refine W_un rfl rfl rfl rfl ?_
            refine W_end ?_
            exact E_keepJ (J156 _ _ _ ⟨rfl, rfl, rfl⟩) (List.Perm.refl _) ⟨rfl, rfl, rfl, rfl, (by show some (Value.bool (true)) = some (Value.bool (!(((decide (65 ≤ y143.n)) && (decide (y143.n ≤ 90))) || (((decide (0 < (k106 : Int))) && (decide (48 ≤ y143.n))) && (decide (y143.n ≤ 57)))))); simp only [hb158, hb159, hb160, Bool.and_true, Bool.true_and, Bool.false_and, Bool.and_false, Bool.or_true, Bool.true_or, Bool.or_false, Bool.false_or, Bool.not_true, Bool.not_false]), trivial⟩
          · refine W_move rfl rfl rfl ?_
            refine W_bin rfl rfl rfl rfl rfl ?_
            refine W_pick rfl rfl rfl rfl ?_
            refine W_pick rfl rfl rfl rfl ?_
            refine W_un rfl rfl rfl rfl ?_
            refine W_end ?_
            exact E_keepJ (J156 _ _ _ ⟨rfl, rfl, rfl⟩) (List.Perm.refl _) ⟨rfl, rfl, rfl, rfl, (by show some (Value.bool (!(decide (y143.n ≤ 57)))) = some (Value.bool (!(((decide (65 ≤ y143.n)) && (decide (y143.n ≤ 90))) || (((decide (0 < (k106 : Int))) && (decide (48 ≤ y143.n))) && (decide (y143.n ≤ 57)))))); simp only [hb158, hb159, hb160, Bool.and_true, Bool.true_and, Bool.false_and, Bool.and_false, Bool.or_true, Bool.true_or, Bool.or_false, Bool.false_or, Bool.not_true, Bool.not_false]), trivial⟩
      · refine W_move rfl rfl rfl ?_
        refine W_bin rfl rfl rfl rfl rfl ?_
        refine W_pick rfl rfl rfl rfl ?_
        refine W_move rfl rfl rfl ?_
        cases hb161 : (decide (y143.n ≤ 90))
        · refine W_move rfl rfl rfl ?_
          refine W_bin rfl rfl rfl rfl rfl ?_
          refine W_move rfl rfl rfl ?_
          cases hb162 : (decide (0 < (k106 : Int)))
          · refine W_no rfl rfl rfl ?_
            refine W_no rfl rfl rfl ?_
            refine W_pick rfl rfl rfl rfl ?_
            refine W_move rfl rfl rfl ?_
            refine W_no rfl rfl rfl ?_
            refine W_no rfl rfl rfl ?_
            refine W_pick rfl rfl rfl rfl ?_
            refine W_pick rfl rfl rfl rfl ?_
            refine W_un rfl rfl rfl rfl ?_
            refine W_end ?_
            exact E_keepJ (J156 _ _ _ ⟨rfl, rfl, rfl⟩) (List.Perm.refl _) ⟨rfl, rfl, rfl, rfl, (by show some (Value.bool (true)) = some (Value.bool (!(((decide (65 ≤ y143.n)) && (decide (y143.n ≤ 90))) || (((decide (0 < (k106 : Int))) && (decide (48 ≤ y143.n))) && (decide (y143.n ≤ 57)))))); simp only [hb158, hb161, hb162, Bool.and_true, Bool.true_and, Bool.false_and, Bool.and_false, Bool.or_true, Bool.true_or, Bool.or_false, Bool.false_or, Bool.not_true, Bool.not_false]), trivial⟩
          · refine W_move rfl rfl rfl ?_
            refine W_bin rfl rfl rfl rfl rfl ?_
            refine W_pick rfl rfl rfl rfl ?_
            refine W_move rfl rfl rfl ?_
            cases hb163 : (decide (48 ≤ y143.n))
            · refine W_no rfl rfl rfl ?_
              refine W_no rfl rfl rfl ?_
              refine W_pick rfl rfl rfl rfl ?_
              refine W_pick rfl rfl rfl rfl ?_
              refine W_un rfl rfl rfl rfl ?_
              refine W_end ?_
              exact E_keepJ (J156 _ _ _ ⟨rfl, rfl, rfl⟩) (List.Perm.refl _) ⟨rfl, rfl, rfl, rfl, (by show some (Value.bool (true)) = some (Value.bool (!(((decide (65 ≤ y143.n)) && (decide (y143.n ≤ 90))) || (((decide (0 < (k106 : Int))) && (decide (48 ≤ y143.n))) && (decide (y143.n ≤ 57)))))); simp only [hb158, hb161, hb162, hb163, Bool.and_true, Bool.true_and, Bool.false_and, Bool.and_false, Bool.or_true, Bool.true_or, Bool.or_false, Bool.false_or, Bool.not_true, Bool.not_false]), trivial⟩
            · refine W_move rfl rfl rfl ?_
              refine W_bin rfl rfl rfl rfl rfl ?_
              refine W_pick rfl rfl rfl rfl ?_
              refine W_pick rfl rfl rfl rfl ?_
              refine W_un rfl rfl rfl rfl ?_
              refine W_end ?_
              exact E_keepJ (J156 _ _ _ ⟨rfl, rfl, rfl⟩) (List.Perm.refl _) ⟨rfl, rfl, rfl, rfl, (by show some (Value.bool (!(decide (y143.n ≤ 57)))) = some (Value.bool (!(((decide (65 ≤ y143.n)) && (decide (y143.n ≤ 90))) || (((decide (0 < (k106 : Int))) && (decide (48 ≤ y143.n))) && (decide (y143.n ≤ 57)))))); simp only [hb158, hb161, hb162, hb163, Bool.and_true, Bool.true_and, Bool.false_and, Bool.and_false, Bool.or_true, Bool.true_or, Bool.or_false, Bool.false_or, Bool.not_true, Bool.not_false]), trivial⟩
        · refine W_no rfl rfl rfl ?_
          refine W_no rfl rfl rfl ?_
          refine W_no rfl rfl rfl ?_
          refine W_no rfl rfl rfl ?_
          refine W_no rfl rfl rfl ?_
          refine W_no rfl rfl rfl ?_
          refine W_no rfl rfl rfl ?_
          refine W_no rfl rfl rfl ?_
          refine W_no rfl rfl rfl ?_
          refine W_no rfl rfl rfl ?_
          refine W_pick rfl rfl rfl rfl ?_
          refine W_un rfl rfl rfl rfl ?_
          refine W_end ?_
          exact E_keepJ (J156 _ _ _ ⟨rfl, rfl, rfl⟩) (List.Perm.refl _) ⟨rfl, rfl, rfl, rfl, (by show some (Value.bool (false)) = some (Value.bool (!(((decide (65 ≤ y143.n)) && (decide (y143.n ≤ 90))) || (((decide (0 < (k106 : Int))) && (decide (48 ≤ y143.n))) && (decide (y143.n ≤ 57)))))); simp only [hb158, hb161, Bool.and_true, Bool.true_and, Bool.false_and, Bool.and_false, Bool.or_true, Bool.true_or, Bool.or_false, Bool.false_or, Bool.not_true, Bool.not_false]), trivial⟩
  · obtain rfl := rng_f hd146 hb148
    have hm : (some ((decide (1 ≤ (p0_s.size : Int))) && (decide ((p0_s.size : Int) ≤ 8)))) = some r := hm
    refine C_exit (E_exit_then ?_)
    refine E_exit_then ?_
    refine E_exit_hit ?_
    refine E_then ?_
    refine C_seq_join (fun H' M' L' => H137 = H' ∧ M = M' ∧ [(2, .bool ((decide (1 ≤ (p0_s.size : Int))) && (decide ((p0_s.size : Int) ≤ 8))))] = L') ?_ (fun J165 => ?_)
    · rintro _ _ _ ⟨rfl, rfl, rfl⟩
      refine C_ret ?_
      obtain rfl := Option.some.inj hm
      refine E_weak (Hp.le_trans hle104 hle138) ?_
      exact end1 rfl rfl ⟨rfl, rfl, rfl⟩
    · refine C_region ?_
      refine W_move rfl rfl rfl ?_
      refine W_lenStr rfl rfl Proofs.Try.runUnderlying9 rfl ?_
      refine W_bin rfl rfl rfl rfl rfl ?_
      refine W_move rfl rfl rfl ?_
      cases hb166 : (decide (1 ≤ (p0_s.size : Int)))
      · refine W_no rfl rfl rfl ?_
        refine W_no rfl rfl rfl ?_
        refine W_no rfl rfl rfl ?_
        refine W_pick rfl rfl rfl rfl ?_
        refine W_assign rfl rfl rfl ?_
        refine W_end ?_
        exact E_keepJ (J165 _ _ _ ⟨rfl, rfl, rfl⟩) (List.Perm.refl _) ⟨(by show some (Value.bool (false)) = some (Value.bool ((decide (1 ≤ (p0_s.size : Int))) && (decide ((p0_s.size : Int) ≤ 8)))); simp only [hb166, Bool.and_true, Bool.true_and, Bool.false_and, Bool.and_false, Bool.or_true, Bool.true_or, Bool.or_false, Bool.false_or, Bool.not_true, Bool.not_false]), trivial⟩
      · refine W_move rfl rfl rfl ?_
        refine W_lenStr rfl rfl Proofs.Try.runUnderlying9 rfl ?_
        refine W_bin rfl rfl rfl rfl rfl ?_
        refine W_pick rfl rfl rfl rfl ?_
        refine W_assign rfl rfl rfl ?_
        refine W_end ?_
        exact E_keepJ (J165 _ _ _ ⟨rfl, rfl, rfl⟩) (List.Perm.refl _) ⟨(by show some (Value.bool (decide ((p0_s.size : Int) ≤ 8))) = some (Value.bool ((decide (1 ≤ (p0_s.size : Int))) && (decide ((p0_s.size : Int) ≤ 8)))); simp only [hb166, Bool.and_true, Bool.true_and, Bool.false_and, Bool.and_false, Bool.or_true, Bool.true_or, Bool.or_false, Bool.false_or, Bool.not_true, Bool.not_false]), trivial⟩

theorem m_slices_Index_string_string_c {B : Nat} {w0 w : World} {H : Hp} {M : List Res} {p0_s : (List ByteArray)} {p1_v : ByteArray} {v0 : Value} {r : Int} (hm : m_slices_Index_string_string p0_s p1_v = some r) (h0 : RdS H v0 p0_s) (ht : St B w0 H (M) w) :
    Calls Proofs.Try.prog 37 [v0, .string (p1_v)].toArray w (Ret B w0 fun H' M' v => H = H' ∧ M = M' ∧ .int .i64 (r) = v) := by
  unfold m_slices_Index_string_string at hm
  refine enter Proofs.Try.func37 rfl rfl rfl ht ?_
  refine C_seq ?_
  refine C_region ?_
  refine W_assign rfl rfl rfl ?_
  refine W_end ?_
  refine E_then ?_
  refine C_seq ?_
  refine C_seq ?_
  refine C_region ?_
  refine W_move rfl rfl rfl ?_
  refine W_lenR rfl rfl Proofs.Try.runUnderlying33 rfl h0 ?_
  refine W_move rfl rfl rfl ?_
  refine W_end ?_
  refine E_then ?_
  refine C_block ?_
  refine C_keep (L' := [(0, v0), (1, .string (p1_v)), (7, .int .i64 ((p0_s.length : Int))), (8, .int .i64 (((0 : Nat) : Int)))]) ⟨rfl, rfl, rfl, rfl, trivial⟩ (List.Perm.refl _) ?_
  refine C_loop (fun n H' M' L' => ∃ (k101 : Nat) (zs119' : Nat), k101 + zs119' = ((p0_s.length : Int) : Int).toNat ∧ zs119' = n ∧ forN (fun k s114 n => m_slices_Index_string_string_b1 p0_s p1_v k n) (fun _ => some ((-1))) zs119' k101 () = some r ∧ H.le H' ∧ M = M' ∧ [(0, v0), (1, .string (p1_v)), (7, .int .i64 ((p0_s.length : Int))), (8, .int .i64 ((k101 : Int)))] = L') _ ⟨0, _, Nat.zero_add _, rfl, hm, (Hp.le_refl _), rfl, rfl⟩ ?_
  rintro _ H112 _ _ ⟨k101, zs119', hd121, rfl, hm, hle113, rfl, rfl⟩
  refine C_seq ?_
  refine C_region ?_
  refine W_bin rfl rfl rfl rfl rfl ?_
  refine W_end (E_then ?_)
  refine C_seq ?_
  refine C_cond (b := decide ((k101 : Int) < (p0_s.length : Int))) rfl (fun hb123 => ?_) (fun hb123 => ?_)
  · obtain ⟨zs119, rfl, hd122, hy120⟩ := rngN_t hd121 hb123
    have hm : m_slices_Index_string_string_b1 p0_s p1_v k101 (forN (fun k s114 n => m_slices_Index_string_string_b1 p0_s p1_v k n) (fun _ => some ((-1))) zs119 (k101 + 1)) = some r := hm
    generalize hn116 : forN (fun k s114 n => m_slices_Index_string_string_b1 p0_s p1_v k n) (fun _ => some ((-1))) zs119 (k101 + 1) = nx115 at hm
    unfold m_slices_Index_string_string_b1 at hm
    refine C_skip (E_then ?_)
    refine C_seq ?_
    refine C_block ?_
    refine C_seq ?_
    refine C_region ?_
    refine W_move rfl rfl rfl ?_
    refine W_assign rfl rfl rfl ?_
    refine W_end ?_
    refine E_then ?_
    refine C_seq ?_
    refine C_region ?_
    refine W_move rfl rfl rfl ?_
    refine W_move rfl rfl rfl ?_
    refine W_move rfl rfl rfl ?_
    obtain ⟨y124, h125, he126, hm⟩ := idx_some hm
    obtain ⟨_, rfl, hc127⟩ := (h0).elem he126
    refine W_indexS rfl rfl Proofs.Try.runUnderlying33 Proofs.Try.sizeOf9 rfl (h0.mono hle113) rfl h125 he126 ?_
    refine W_load rfl rfl Proofs.Try.isAgg9 rfl (HCells.one (hc127.mono hle113) 0 rfl).at ?_
    refine W_bin rfl rfl rfl rfl rfl ?_
    refine W_end ?_
    refine E_then ?_
    refine C_cond (b := decide (p1_v = y124)) rfl (fun hb128 => ?_) (fun hb128 => ?_)
    · have hm := ite_t' hb128 hm
      refine C_seq ?_
      refine C_region ?_
      refine W_move rfl rfl rfl ?_
      refine W_assign rfl rfl rfl ?_
      refine W_end ?_
      refine E_then ?_
      refine C_ret ?_
      refine E_ret_block ?_
      refine E_ret_then ?_
      refine E_ret_then ?_
      refine E_ret_block ?_
      refine E_ret_then ?_
      obtain rfl := Option.some.inj hm
      refine E_weak hle113 ?_
      exact end1 rfl rfl ⟨rfl, rfl, rfl⟩
    · have hm := ite_f' hb128 hm
      refine C_skip ?_
      refine E_normal_block ?_
      refine E_then ?_
      refine C_region ?_
      refine W_bin rfl rfl rfl rfl rfl ?_
      refine W_move rfl rfl rfl ?_
      refine W_end ?_
      exact E_keepJ (E_back (Nat.lt_succ_self _) ⟨k101 + 1, zs119, hd122, rfl, (by rw [hn116]; exact hm), hle113, rfl, rfl⟩) (List.Perm.refl _) ⟨rfl, rfl, rfl, (congrArg (fun z => some (Value.int .i64 z)) (i64_succN hy120 (toNat_max (len_max (h0).lenMax)))), trivial⟩
  · obtain rfl := rngN_f hd121 hb123
    have hm : (some ((-1))) = some r := hm
    refine C_exit (E_exit_then ?_)
    refine E_exit_then ?_
    refine E_exit_hit ?_
    refine E_then ?_
    refine C_seq ?_
    refine C_region ?_
    refine W_assign rfl rfl rfl ?_
    refine W_end ?_
    refine E_then ?_
    refine C_ret ?_
    obtain rfl := Option.some.inj hm
    refine E_weak hle113 ?_
    exact end1 rfl rfl ⟨rfl, rfl, rfl⟩

theorem m_slices_Contains_string_string_c {B : Nat} {w0 w : World} {H : Hp} {M : List Res} {p0_s : (List ByteArray)} {p1_v : ByteArray} {v0 : Value} {r : Bool} (hm : m_slices_Contains_string_string p0_s p1_v = some r) (h0 : RdS H v0 p0_s) (ht : St B w0 H (M) w) :
    Calls Proofs.Try.prog 26 [v0, .string (p1_v)].toArray w (Ret B w0 fun H' M' v => H = H' ∧ M = M' ∧ .bool (r) = v) := by
  unfold m_slices_Contains_string_string at hm
  refine enter Proofs.Try.func26 rfl rfl rfl ht ?_
  refine C_seq ?_
  refine C_region ?_
  refine W_assign rfl rfl rfl ?_
  refine W_end ?_
  refine E_then ?_
  refine C_seq ?_
  refine C_region ?_
  refine W_move rfl rfl rfl ?_
  refine W_move rfl rfl rfl ?_
  obtain ⟨r101, hc102, hm⟩ := bind_some hm
  refine W_call Proofs.Try.call37 rfl rfl rfl (fun w ht => by have h := m_slices_Index_string_string_c (hm := hc102) h0 ht; exact h) ?_
  rintro _ _ _ ⟨rfl, rfl, rfl⟩
  refine W_bin rfl rfl rfl rfl rfl ?_
  refine W_assign rfl rfl rfl ?_
  refine W_end ?_
  refine E_then ?_
  refine C_ret ?_
  obtain rfl := Option.some.inj hm
  refine E_weak (Hp.le_refl _) ?_
  exact end1 rfl rfl ⟨rfl, rfl, rfl⟩

theorem m_permit_Check_c {B : Nat} {w0 w : World} {H : Hp} {M : List Res} {p0_l : (List ByteArray)} {v0 : Value} {r : Int} (hm : m_permit_Check p0_l = some r) (h0 : RdS H v0 p0_l) (ht : St B w0 H (M) w) :
    Calls Proofs.Try.prog 12 [v0].toArray w (Ret B w0 fun H' M' v => H = H' ∧ M = M' ∧ .int .i64 (r) = v) := by
  unfold m_permit_Check at hm
  refine enter Proofs.Try.func12 rfl rfl rfl ht ?_
  refine C_seq ?_
  refine C_region ?_
  refine W_assign rfl rfl rfl ?_
  refine W_end ?_
  refine E_then ?_
  refine C_seq ?_
  refine C_seq ?_
  refine C_region ?_
  refine W_move rfl rfl rfl ?_
  refine W_lenR rfl rfl Proofs.Try.runUnderlying33 rfl h0 ?_
  refine W_bin rfl rfl rfl rfl rfl ?_
  refine W_end ?_
  refine E_then ?_
  refine C_cond (b := decide (256 < (p0_l.length : Int))) rfl (fun hb101 => ?_) (fun hb101 => ?_)
  · have hm := ite_t' hb101 hm
    refine C_seq ?_
    refine C_region ?_
    refine W_assign rfl rfl rfl ?_
    refine W_end ?_
    refine E_then ?_
    refine C_ret ?_
    refine E_ret_then ?_
    obtain rfl := Option.some.inj hm
    refine E_weak (Hp.le_refl _) ?_
    exact end1 rfl rfl ⟨rfl, rfl, rfl⟩
  · have hm := ite_f' hb101 hm
    refine C_skip ?_
    refine E_then ?_
    refine C_seq ?_
    refine C_seq ?_
    refine C_region ?_
    refine W_move rfl rfl rfl ?_
    refine W_lenR rfl rfl Proofs.Try.runUnderlying33 rfl h0 ?_
    refine W_move rfl rfl rfl ?_
    refine W_end ?_
    refine E_then ?_
    refine C_block ?_
    refine C_keep (L' := [(0, v0), (8, v0), (9, .int .i64 ((p0_l.length : Int))), (10, .int .i64 (((0 : Nat) : Int)))]) ⟨rfl, rfl, rfl, rfl, trivial⟩ (List.Perm.refl _) ?_
    refine C_loop (fun n H' M' L' => ∃ (k102 : Nat) (zs132' : List ByteArray), (p0_l).drop k102 = zs132' ∧ zs132'.length = n ∧ forI (fun k y s127 n => m_permit_Check_b1 p0_l k y n) (fun _ => some 0) k102 zs132' () = some r ∧ H.le H' ∧ M = M' ∧ [(0, v0), (8, v0), (9, .int .i64 ((p0_l.length : Int))), (10, .int .i64 ((k102 : Int)))] = L') _ ⟨0, _, rfl, rfl, hm, (Hp.le_refl _), rfl, rfl⟩ ?_
    rintro _ H125 _ _ ⟨k102, zs132', hd134, rfl, hm, hle126, rfl, rfl⟩
    refine C_seq ?_
    refine C_region ?_
    refine W_bin rfl rfl rfl rfl rfl ?_
    refine W_end (E_then ?_)
    refine C_seq ?_
    refine C_cond (b := decide ((k102 : Int) < (p0_l.length : Int))) rfl (fun hb136 => ?_) (fun hb136 => ?_)
    · obtain ⟨y131, zs132, rfl, hy133, hd135⟩ := rng_t hd134 hb136
      have hm : m_permit_Check_b1 p0_l k102 y131 (forI (fun k y s127 n => m_permit_Check_b1 p0_l k y n) (fun _ => some 0) (k102 + 1) zs132) = some r := hm
      generalize hn129 : forI (fun k y s127 n => m_permit_Check_b1 p0_l k y n) (fun _ => some 0) (k102 + 1) zs132 = nx128 at hm
      unfold m_permit_Check_b1 at hm
      refine C_skip (E_then ?_)
      refine C_seq ?_
      refine C_block ?_
      refine C_seq ?_
      refine C_region ?_
      refine W_move rfl rfl rfl ?_
      obtain ⟨_, rfl, hc137⟩ := (h0).elem hy133
      refine W_indexS rfl rfl Proofs.Try.runUnderlying33 Proofs.Try.sizeOf9 rfl (h0.mono hle126) rfl (Int.natCast_nonneg _) hy133 ?_
      refine W_load rfl rfl Proofs.Try.isAgg9 rfl (HCells.one (hc137.mono hle126) 0 rfl).at ?_
      refine W_assign rfl rfl rfl ?_
      refine W_assign rfl rfl rfl ?_
      refine W_end ?_
      refine E_then ?_
      refine C_block ?_
      refine C_seq ?_
      refine C_region ?_
      refine W_move rfl rfl rfl ?_
      obtain ⟨r138, hc139, hm⟩ := bind_some hm
      refine W_call Proofs.Try.call25 rfl rfl rfl (fun w ht => by have h := m_netmodel_Name_c (hm := hc139)  ht; exact h) ?_
      rintro _ _ _ ⟨rfl, rfl, rfl⟩
      refine W_un rfl rfl rfl rfl ?_
      refine W_assign rfl rfl rfl ?_
      refine W_end ?_
      refine E_then ?_
      refine C_cond (b := !r138) rfl (fun hb140 => ?_) (fun hb140 => ?_)
      · have hm := ite_t' hb140 hm
        refine C_seq ?_
        refine C_region ?_
        refine W_assign rfl rfl rfl ?_
        refine W_end ?_
        refine E_then ?_
        refine C_ret ?_
        refine E_ret_block ?_
        refine E_ret_block ?_
        refine E_ret_then ?_
        refine E_ret_then ?_
        refine E_ret_block ?_
        refine E_ret_then ?_
        obtain rfl := Option.some.inj hm
        refine E_weak hle126 ?_
        exact end1 rfl rfl ⟨rfl, rfl, rfl⟩
      · have hm := ite_f' hb140 hm
        refine C_seq ?_
        refine C_region ?_
        refine W_move rfl rfl rfl ?_
        refine W_move rfl rfl rfl ?_
        obtain ⟨hz141, hm⟩ := need_some hm
        refine W_sliceR (α := ByteArray) (l := 0) (h := ((k102 : Int) : Int).toNat) (xs := p0_l) rfl rfl Proofs.Try.runUnderlying33 Proofs.Try.sizeOf9 rfl (h0.mono hle126) (by omega) (by omega) (.inl rfl) (fun cap hcap => by rw [if_pos rfl]; exact (.inl ⟨rfl, rfl⟩)) (fun m hmm => (.inr ⟨_, _, _, rfl, rfl, by omega, by omega, rfl⟩)) (.inl ⟨rfl, rfl⟩) ?_
        intro v142 h143 hc144
        refine W_move rfl rfl rfl ?_
        obtain ⟨r145, hc146, hm⟩ := bind_some hm
        refine W_call Proofs.Try.call26 rfl rfl rfl (fun w ht => by have h := m_slices_Contains_string_string_c (hm := hc146) h143 ht; exact h) ?_
        rintro _ _ _ ⟨rfl, rfl, rfl⟩
        refine W_assign rfl rfl rfl ?_
        refine W_end ?_
        refine E_then ?_
        refine C_cond (b := r145) rfl (fun hb147 => ?_) (fun hb147 => ?_)
        · have hm := ite_t' hb147 hm
          refine C_seq ?_
          refine C_region ?_
          refine W_assign rfl rfl rfl ?_
          refine W_end ?_
          refine E_then ?_
          refine C_ret ?_
          refine E_ret_block ?_
          refine E_ret_block ?_
          refine E_ret_then ?_
          refine E_ret_then ?_
          refine E_ret_block ?_
          refine E_ret_then ?_
          obtain rfl := Option.some.inj hm
          refine E_weak hle126 ?_
          exact end1 rfl rfl ⟨rfl, rfl, rfl⟩
        · have hm := ite_f' hb147 hm
          refine C_skip ?_
          refine E_normal_block ?_
          refine E_normal_block ?_
          refine E_then ?_
          refine C_region ?_
          refine W_bin rfl rfl rfl rfl rfl ?_
          refine W_move rfl rfl rfl ?_
          refine W_end ?_
          exact E_keepJ (E_back (Nat.lt_succ_self _) ⟨k102 + 1, zs132, hd135, rfl, (by rw [hn129]; exact hm), hle126, rfl, rfl⟩) (List.Perm.refl _) ⟨rfl, rfl, rfl, (congrArg (fun z => some (Value.int .i64 z)) (i64_succ hy133 ((h0.mono hle126)).lenMax)), trivial⟩
    · obtain rfl := rng_f hd134 hb136
      have hm : (some 0) = some r := hm
      refine C_exit (E_exit_then ?_)
      refine E_exit_then ?_
      refine E_exit_hit ?_
      refine E_then ?_
      refine C_seq ?_
      refine C_region ?_
      refine W_assign rfl rfl rfl ?_
      refine W_end ?_
      refine E_then ?_
      refine C_ret ?_
      obtain rfl := Option.some.inj hm
      refine E_weak hle126 ?_
      exact end1 rfl rfl ⟨rfl, rfl, rfl⟩

theorem clone23_c {B : Nat} {w0 w : World} {H : Hp} {M : List Res} {s : List ByteArray} {v0 : Value} (h0 : RdS H v0 s) (hz : s.length * 16 ≤ 140737488355328) (ht : St B w0 H M w) :
    Calls Proofs.Try.prog 23 [v0].toArray w (Ret B w0 fun H' M' v => H = H' ∧ ∃ (v' : Value) (xs' : List Value), .row v' 9 (Rep.sz ByteArray) s.length xs' :: M = M' ∧ v' = v ∧ RwF v' xs' s) := by
  refine enter Proofs.Try.func23 rfl rfl rfl ht ?_
  obtain ⟨o, n, c, rfl⟩ := h0.shape
  refine C_seq ?_
  refine C_region ?_
  refine W_assign rfl rfl rfl ?_
  refine W_end (E_then ?_)
  refine C_seq ?_
  refine C_seq ?_
  refine C_region ?_
  refine W_move rfl rfl rfl ?_
  refine W_eqNil rfl rfl Proofs.Try.runUnderlying33 rfl rfl ?_
  refine W_end (E_then ?_)
  cases o with
  | none =>
    refine C_cond (b := true) rfl (fun _ => ?_) (fun hb => Bool.noConfusion hb)
    obtain rfl := h0.isNil
    refine C_seq ?_
    refine C_region ?_
    refine W_assign rfl rfl rfl ?_
    refine W_end (E_then ?_)
    refine C_ret (E_ret_then ?_)
    refine E_nilRow 9 (Rep.sz ByteArray) ?_
    exact end1 rfl rfl ⟨rfl, .slice none 0 0, [], rfl, rfl, (Rw.nil (H := H)).toF⟩
  | some a =>
    refine C_cond (b := false) rfl (fun hb => Bool.noConfusion hb) (fun _ => ?_)
    refine C_skip (E_then ?_)
    refine C_seq ?_
    refine C_region ?_
    refine W_build0 ByteArray rfl rfl Proofs.Try.runUnderlying33 Proofs.Try.sizeOf9 ?_
    intro v1 xs1 h1
    refine W_move rfl rfl rfl ?_
    refine W_appendO (α := ByteArray) (l := []) (ys := s) (bytes := 16) rfl rfl Proofs.Try.underlying33 ⟨_, rfl, rfl, rfl, rfl⟩ rfl rfl rfl rfl rfl h1 h0 (by simpa using hz) ?_
    intro v2 xs2 h2
    refine W_assign rfl rfl rfl ?_
    refine W_end (E_then ?_)
    refine C_ret ?_
    exact end1 rfl rfl ⟨rfl, v2, xs2, rfl, rfl, h2.toF⟩

theorem m_permit_New_c {B : Nat} {w0 w : World} {H : Hp} {M : List Res} {devices : (List ByteArray)} {v0 : Value} {r : (Option S_permit_Desk) × Int} (hm : m_permit_New devices = some r) (h0 : RdS H v0 devices) (ht : St B w0 H (M) w) :
    Calls Proofs.Try.prog 10 [v0].toArray w (Ret B w0 fun H' M' v => (r.1 = none ∧ H.le H' ∧ M = M' ∧ .tuple #[.pointer none, .int .i64 (r.2)] = v) ∨ (∃ qsp0 : S_permit_Desk, r.1 = some qsp0 ∧ H.le H' ∧ ∃ qb0 : Nat, ∃ qv0 : Value, ∃ qv1 : Value, ∃ qxs0 : List Value, .obj qb0 (.cells [qv0, qv1, .int .i64 (qsp0.last)].toArray 63 (0, 0)) :: .row qv1 43 (Rep.sz S_api_PermitPaper) qsp0.papers.length qxs0 :: M = M' ∧ .tuple #[.pointer (some ⟨qb0, 0, none⟩), .int .i64 (r.2)] = v ∧ RdS H' qv0 qsp0.devices ∧ Rw H' qv1 qxs0 qsp0.papers)) := by
  unfold m_permit_New at hm
  refine enter Proofs.Try.func10 rfl rfl rfl ht ?_
  refine C_seq ?_
  refine C_region ?_
  refine W_assign rfl rfl rfl ?_
  refine W_assign rfl rfl rfl ?_
  refine W_end ?_
  refine E_then ?_
  refine C_seq ?_
  refine C_seq ?_
  refine C_region ?_
  refine W_move rfl rfl rfl ?_
  obtain ⟨r101, hc102, hm⟩ := bind_some hm
  refine W_call Proofs.Try.call12 rfl rfl rfl (fun w ht => by have h := m_permit_Check_c (hm := hc102) h0 ht; exact h) ?_
  rintro _ _ _ ⟨rfl, rfl, rfl⟩
  refine W_assign rfl rfl rfl ?_
  refine W_end ?_
  refine E_then ?_
  refine C_seq ?_
  refine C_region ?_
  refine W_move rfl rfl rfl ?_
  refine W_bin rfl rfl rfl rfl rfl ?_
  refine W_end ?_
  refine E_then ?_
  refine C_cond (b := !decide (r101 = 0)) rfl (fun hb103 => ?_) (fun hb103 => ?_)
  · have hm := ite_t' hb103 hm
    refine C_seq ?_
    refine C_region ?_
    refine W_move rfl rfl rfl ?_
    refine W_assign rfl rfl rfl ?_
    refine W_assign rfl rfl rfl ?_
    refine W_end ?_
    refine E_then ?_
    refine C_ret ?_
    refine E_ret_then ?_
    obtain rfl := Option.some.inj hm
    exact end2 rfl rfl rfl (.inl ⟨rfl, (Hp.le_refl _), rfl, rfl⟩)
  · have hm := ite_f' hb103 hm
    refine C_skip ?_
    refine E_then ?_
    refine C_seq ?_
    refine C_region ?_
    refine W_move rfl rfl rfl ?_
    obtain ⟨hz104, hm⟩ := need_some hm
    refine W_call Proofs.Try.call23 rfl rfl rfl (fun w ht => by have h := clone23_c (s := devices) h0 hz104 ht; exact h) ?_
    rintro _ _ _ ⟨rfl, v105, xs106, rfl, rfl, hr107⟩
    have hr107 := hr107 H
    refine W_build (css := [[v105]]) (zs := [.slice none 0 0, .slice none 0 0, .int .i64 (0)]) (out := [v105, .slice none 0 0, .int .i64 (0)]) (places := [(0, 1), (1, 1), (2, 1)]) rfl rfl rfl ⟨(Rw.cells hr107), trivial⟩ Proofs.Try.zeroValue63 rfl Proofs.Try.runUnderlying63 (fun w => by kernel_rfl) rfl ?_
    refine W_box (cs := [v105, .slice none 0 0, .int .i64 (0)]) rfl rfl rfl rfl (fun b108 => ?_)
    refine W_assign rfl rfl rfl ?_
    refine W_assign rfl rfl rfl ?_
    refine W_end ?_
    refine E_then ?_
    refine C_ret ?_
    refine E_nilRow 43 (Rep.sz S_api_PermitPaper) ?_
    refine E_perm (List.Perm.trans (List.Perm.cons _ (List.Perm.swap _ _ _)) (List.Perm.swap _ _ _)) ?_
    refine E_freeze (hr107).rd rfl (fun H109 hle110 h111 => ?_)
    obtain rfl := Option.some.inj hm
    refine E_perm (List.Perm.swap _ _ _) ?_
    exact end2 rfl rfl rfl (.inr ⟨(S_permit_Desk.mk devices ([] : List S_api_PermitPaper) 0), rfl, hle110, b108, v105, (.slice none 0 0), [], rfl, rfl, h111, Rw.nil⟩)

theorem m_permit_Desk_Issue_1_c {B : Nat} {w0 w : World} {H : Hp} {M : List Res} {p0_s : ByteArray} {p1_c1 : S_permit_Desk} {b1 : Nat} {b0 : Nat} {v0 : Value} {v1 : Value} {r : Bool} (hm : m_permit_Desk_Issue_1 p0_s p1_c1 = some r) (h0 : RdS H v0 p1_c1.devices) (h1 : RdS H v1 p1_c1.papers) (ht : St B w0 H (.obj b1 (.cells [.pointer (some ⟨b0, 0, none⟩)].toArray 34 (0, 0)) :: .obj b0 (.cells [v0, v1, .int .i64 (p1_c1.last)].toArray 63 (0, 0)) :: M) w) :
    Calls Proofs.Try.prog 28 [.string (p0_s), .pointer (some ⟨b1, 0, none⟩)].toArray w (Ret B w0 fun H' M' v => H = H' ∧ .obj b1 (.cells [.pointer (some ⟨b0, 0, none⟩)].toArray 34 (0, 0)) :: .obj b0 (.cells [v0, v1, .int .i64 (p1_c1.last)].toArray 63 (0, 0)) :: M = M' ∧ .bool (r) = v) := by
  unfold m_permit_Desk_Issue_1 at hm
  refine enter Proofs.Try.func28 rfl rfl rfl ht ?_
  refine C_seq ?_
  refine C_region ?_
  refine W_assign rfl rfl rfl ?_
  refine W_end ?_
  refine E_then ?_
  refine C_seq ?_
  refine C_region ?_
  refine W_load rfl rfl Proofs.Try.isAgg34 rfl (own_at (List.mem_cons_self ..) rfl) ?_
  refine W_nilCheck rfl rfl rfl ?_
  refine W_field (o := 0) rfl rfl Proofs.Try.runUnderlying63 rfl Proofs.Try.sizeOf33 rfl rfl rfl ?_
  refine W_load rfl rfl Proofs.Try.isAgg33 rfl (own_at (List.mem_cons_of_mem _ (List.mem_cons_self ..)) rfl) ?_
  refine W_move rfl rfl rfl ?_
  obtain ⟨r101, hc102, hm⟩ := bind_some hm
  refine W_call Proofs.Try.call26 rfl rfl rfl (fun w ht => by have h := m_slices_Contains_string_string_c (hm := hc102) h0 ht; exact h) ?_
  rintro _ _ _ ⟨rfl, rfl, rfl⟩
  refine W_un rfl rfl rfl rfl ?_
  refine W_assign rfl rfl rfl ?_
  refine W_end ?_
  refine E_then ?_
  refine C_ret ?_
  obtain rfl := Option.some.inj hm
  refine E_weak (Hp.le_refl _) ?_
  exact end1 rfl rfl ⟨rfl, rfl, rfl⟩

theorem m_slices_IndexFunc_string_string__permit_Desk_Issue_1_c {B : Nat} {w0 w : World} {H : Hp} {M : List Res} {p0_s : (List ByteArray)} {p1_f_0 : S_permit_Desk} {v0 : Value} {b1 : Nat} {b0 : Nat} {v1 : Value} {v2 : Value} {r : Int} (hm : m_slices_IndexFunc_string_string__permit_Desk_Issue_1 p0_s p1_f_0 = some r) (h0 : RdS H v0 p0_s) (h1 : RdS H v1 p1_f_0.devices) (h2 : RdS H v2 p1_f_0.papers) (ht : St B w0 H (.obj b1 (.cells [.pointer (some ⟨b0, 0, none⟩)].toArray 34 (0, 0)) :: .obj b0 (.cells [v1, v2, .int .i64 (p1_f_0.last)].toArray 63 (0, 0)) :: M) w) :
    Calls Proofs.Try.prog 38 [v0, .func (.func 28) [].toArray [.pointer (some ⟨b1, 0, none⟩)].toArray].toArray w (Ret B w0 fun H' M' v => H = H' ∧ .obj b1 (.cells [.pointer (some ⟨b0, 0, none⟩)].toArray 34 (0, 0)) :: .obj b0 (.cells [v1, v2, .int .i64 (p1_f_0.last)].toArray 63 (0, 0)) :: M = M' ∧ .int .i64 (r) = v) := by
  unfold m_slices_IndexFunc_string_string__permit_Desk_Issue_1 at hm
  refine enter Proofs.Try.func38 rfl rfl rfl ht ?_
  refine C_seq ?_
  refine C_region ?_
  refine W_assign rfl rfl rfl ?_
  refine W_end ?_
  refine E_then ?_
  refine C_seq ?_
  refine C_seq ?_
  refine C_region ?_
  refine W_move rfl rfl rfl ?_
  refine W_lenR rfl rfl Proofs.Try.runUnderlying33 rfl h0 ?_
  refine W_move rfl rfl rfl ?_
  refine W_end ?_
  refine E_then ?_
  refine C_block ?_
  refine C_keep (L' := [(0, v0), (1, .func (.func 28) [].toArray [.pointer (some ⟨b1, 0, none⟩)].toArray), (7, .int .i64 ((p0_s.length : Int))), (8, .int .i64 (((0 : Nat) : Int)))]) ⟨rfl, rfl, rfl, rfl, trivial⟩ (List.Perm.refl _) ?_
  refine C_loop (fun n H' M' L' => ∃ (k101 : Nat) (zs123' : Nat), k101 + zs123' = ((p0_s.length : Int) : Int).toNat ∧ zs123' = n ∧ forN (fun k s118 n => m_slices_IndexFunc_string_string__permit_Desk_Issue_1_b1 p0_s p1_f_0 k n) (fun _ => some ((-1))) zs123' k101 () = some r ∧ H.le H' ∧ .obj b1 (.cells [.pointer (some ⟨b0, 0, none⟩)].toArray 34 (0, 0)) :: .obj b0 (.cells [v1, v2, .int .i64 (p1_f_0.last)].toArray 63 (0, 0)) :: M = M' ∧ [(0, v0), (1, .func (.func 28) [].toArray [.pointer (some ⟨b1, 0, none⟩)].toArray), (7, .int .i64 ((p0_s.length : Int))), (8, .int .i64 ((k101 : Int)))] = L') _ ⟨0, _, Nat.zero_add _, rfl, hm, (Hp.le_refl _), rfl, rfl⟩ ?_
  rintro _ H116 _ _ ⟨k101, zs123', hd125, rfl, hm, hle117, rfl, rfl⟩
  refine C_seq ?_
  refine C_region ?_
  refine W_bin rfl rfl rfl rfl rfl ?_
  refine W_end (E_then ?_)
  refine C_seq ?_
  refine C_cond (b := decide ((k101 : Int) < (p0_s.length : Int))) rfl (fun hb127 => ?_) (fun hb127 => ?_)
  · obtain ⟨zs123, rfl, hd126, hy124⟩ := rngN_t hd125 hb127
    have hm : m_slices_IndexFunc_string_string__permit_Desk_Issue_1_b1 p0_s p1_f_0 k101 (forN (fun k s118 n => m_slices_IndexFunc_string_string__permit_Desk_Issue_1_b1 p0_s p1_f_0 k n) (fun _ => some ((-1))) zs123 (k101 + 1)) = some r := hm
    generalize hn120 : forN (fun k s118 n => m_slices_IndexFunc_string_string__permit_Desk_Issue_1_b1 p0_s p1_f_0 k n) (fun _ => some ((-1))) zs123 (k101 + 1) = nx119 at hm
    unfold m_slices_IndexFunc_string_string__permit_Desk_Issue_1_b1 at hm
    refine C_skip (E_then ?_)
    refine C_seq ?_
    refine C_block ?_
    refine C_seq ?_
    refine C_region ?_
    refine W_move rfl rfl rfl ?_
    refine W_assign rfl rfl rfl ?_
    refine W_end ?_
    refine E_then ?_
    refine C_seq ?_
    refine C_region ?_
    refine W_move rfl rfl rfl ?_
    refine W_move rfl rfl rfl ?_
    refine W_move rfl rfl rfl ?_
    obtain ⟨y128, h129, he130, hm⟩ := idx_some hm
    obtain ⟨_, rfl, hc131⟩ := (h0).elem he130
    refine W_indexS rfl rfl Proofs.Try.runUnderlying33 Proofs.Try.sizeOf9 rfl (h0.mono hle117) rfl h129 he130 ?_
    refine W_load rfl rfl Proofs.Try.isAgg9 rfl (HCells.one (hc131.mono hle117) 0 rfl).at ?_
    obtain ⟨r132, hc133, hm⟩ := bind_some hm
    refine W_callv Proofs.Try.call28 rfl rfl rfl rfl (fun w ht => by have h := m_permit_Desk_Issue_1_c (hm := hc133) (h1.mono hle117) (h2.mono hle117) ht; exact h) ?_
    rintro _ _ _ ⟨rfl, rfl, rfl⟩
    refine W_end ?_
    refine E_then ?_
    refine C_cond (b := r132) rfl (fun hb134 => ?_) (fun hb134 => ?_)
    · have hm := ite_t' hb134 hm
      refine C_seq ?_
      refine C_region ?_
      refine W_move rfl rfl rfl ?_
      refine W_assign rfl rfl rfl ?_
      refine W_end ?_
      refine E_then ?_
      refine C_ret ?_
      refine E_ret_block ?_
      refine E_ret_then ?_
      refine E_ret_then ?_
      refine E_ret_block ?_
      refine E_ret_then ?_
      obtain rfl := Option.some.inj hm
      refine E_weak hle117 ?_
      exact end1 rfl rfl ⟨rfl, rfl, rfl⟩
    · have hm := ite_f' hb134 hm
      refine C_skip ?_
      refine E_normal_block ?_
      refine E_then ?_
      refine C_region ?_
      refine W_bin rfl rfl rfl rfl rfl ?_
      refine W_move rfl rfl rfl ?_
      refine W_end ?_
      exact E_keepJ (E_back (Nat.lt_succ_self _) ⟨k101 + 1, zs123, hd126, rfl, (by rw [hn120]; exact hm), hle117, rfl, rfl⟩) (List.Perm.refl _) ⟨rfl, rfl, rfl, (congrArg (fun z => some (Value.int .i64 z)) (i64_succN hy124 (toNat_max (len_max (h0).lenMax)))), trivial⟩
  · obtain rfl := rngN_f hd125 hb127
    have hm : (some ((-1))) = some r := hm
    refine C_exit (E_exit_then ?_)
    refine E_exit_then ?_
    refine E_exit_hit ?_
    refine E_then ?_
    refine C_seq ?_
    refine C_region ?_
    refine W_assign rfl rfl rfl ?_
    refine W_end ?_
    refine E_then ?_
    refine C_ret ?_
    obtain rfl := Option.some.inj hm
    refine E_weak hle117 ?_
    exact end1 rfl rfl ⟨rfl, rfl, rfl⟩

theorem m_slices_ContainsFunc_string_string__permit_Desk_Issue_1_c {B : Nat} {w0 w : World} {H : Hp} {M : List Res} {p0_s : (List ByteArray)} {p1_f_0 : S_permit_Desk} {v0 : Value} {b1 : Nat} {b0 : Nat} {v1 : Value} {v2 : Value} {r : Bool} (hm : m_slices_ContainsFunc_string_string__permit_Desk_Issue_1 p0_s p1_f_0 = some r) (h0 : RdS H v0 p0_s) (h1 : RdS H v1 p1_f_0.devices) (h2 : RdS H v2 p1_f_0.papers) (ht : St B w0 H (.obj b1 (.cells [.pointer (some ⟨b0, 0, none⟩)].toArray 34 (0, 0)) :: .obj b0 (.cells [v1, v2, .int .i64 (p1_f_0.last)].toArray 63 (0, 0)) :: M) w) :
    Calls Proofs.Try.prog 27 [v0, .func (.func 28) [].toArray [.pointer (some ⟨b1, 0, none⟩)].toArray].toArray w (Ret B w0 fun H' M' v => H = H' ∧ .obj b1 (.cells [.pointer (some ⟨b0, 0, none⟩)].toArray 34 (0, 0)) :: .obj b0 (.cells [v1, v2, .int .i64 (p1_f_0.last)].toArray 63 (0, 0)) :: M = M' ∧ .bool (r) = v) := by
  unfold m_slices_ContainsFunc_string_string__permit_Desk_Issue_1 at hm
  refine enter Proofs.Try.func27 rfl rfl rfl ht ?_
  refine C_seq ?_
  refine C_region ?_
  refine W_assign rfl rfl rfl ?_
  refine W_end ?_
  refine E_then ?_
  refine C_seq ?_
  refine C_region ?_
  refine W_move rfl rfl rfl ?_
  refine W_move rfl rfl rfl ?_
  obtain ⟨r101, hc102, hm⟩ := bind_some hm
  refine W_call Proofs.Try.call38 rfl rfl rfl (fun w ht => by have h := m_slices_IndexFunc_string_string__permit_Desk_Issue_1_c (hm := hc102) h0 h1 h2 ht; exact h) ?_
  rintro _ _ _ ⟨rfl, rfl, rfl⟩
  refine W_bin rfl rfl rfl rfl rfl ?_
  refine W_assign rfl rfl rfl ?_
  refine W_end ?_
  refine E_then ?_
  refine C_ret ?_
  obtain rfl := Option.some.inj hm
  refine E_weak (Hp.le_refl _) ?_
  exact end1 rfl rfl ⟨rfl, rfl, rfl⟩

theorem m_permit_Desk_Issue_c {B : Nat} {w0 w : World} {H : Hp} {M : List Res} {p0_d : S_permit_Desk} {holder : ByteArray} {devices : (List ByteArray)} {b0 : Nat} {v0 : Value} {v1 : Value} {xs0 : List Value} {v2 : Value} {r : Int × Int × S_permit_Desk} (hm : m_permit_Desk_Issue p0_d holder devices = some r) (h0 : RdS H v0 p0_d.devices) (h1 : Rw H v1 xs0 p0_d.papers) (h2 : RdS H v2 devices) (ht : St B w0 H (.obj b0 (.cells [v0, v1, .int .i64 (p0_d.last)].toArray 63 (0, 0)) :: .row v1 43 (Rep.sz S_api_PermitPaper) p0_d.papers.length xs0 :: M) w) :
    Calls Proofs.Try.prog 13 [.pointer (some ⟨b0, 0, none⟩), .string (holder), v2].toArray w (Ret B w0 fun H' M' v => H.le H' ∧ ∃ qv0 : Value, ∃ qv1 : Value, ∃ qxs0 : List Value, .obj b0 (.cells [qv0, qv1, .int .i64 (r.2.2.last)].toArray 63 (0, 0)) :: .row qv1 43 (Rep.sz S_api_PermitPaper) r.2.2.papers.length qxs0 :: M = M' ∧ .tuple #[.int .i64 (r.1), .int .i64 (r.2.1)] = v ∧ RdS H' qv0 r.2.2.devices ∧ Rw H' qv1 qxs0 r.2.2.papers) := by
  unfold m_permit_Desk_Issue at hm
  refine enter Proofs.Try.func13 rfl rfl rfl ht ?_
  refine C_seq ?_
  refine C_region ?_
  refine W_box (cs := [.pointer (some ⟨b0, 0, none⟩)]) rfl rfl rfl rfl (fun b101 => ?_)
  refine W_assign rfl rfl rfl ?_
  refine W_assign rfl rfl rfl ?_
  refine W_end ?_
  refine E_then ?_
  refine C_seq ?_
  refine C_seq ?_
  refine C_region ?_
  refine W_move rfl rfl rfl ?_
  obtain ⟨r102, hc103, hm⟩ := bind_some hm
  refine W_call Proofs.Try.call25 rfl rfl rfl (fun w ht => by have h := m_netmodel_Name_c (hm := hc103)  ht; exact h) ?_
  rintro _ _ _ ⟨rfl, rfl, rfl⟩
  refine W_un rfl rfl rfl rfl ?_
  refine W_end ?_
  refine E_then ?_
  refine C_cond (b := !r102) rfl (fun hb104 => ?_) (fun hb104 => ?_)
  · have hm := ite_t' hb104 hm
    refine C_seq ?_
    refine C_region ?_
    refine W_assign rfl rfl rfl ?_
    refine W_assign rfl rfl rfl ?_
    refine W_end ?_
    refine E_then ?_
    refine C_ret ?_
    refine E_ret_then ?_
    obtain rfl := Option.some.inj hm
    refine E_drop (List.Sublist.cons _ (List.Sublist.refl _)) ?_
    exact end2 rfl rfl rfl ⟨(Hp.le_refl _), v0, v1, xs0, rfl, rfl, h0, h1⟩
  · have hm := ite_f' hb104 hm
    refine C_skip ?_
    refine E_then ?_
    refine C_seq ?_
    refine C_seq ?_
    refine C_region ?_
    refine W_move rfl rfl rfl ?_
    obtain ⟨r105, hc106, hm⟩ := bind_some hm
    refine W_call Proofs.Try.call12 rfl rfl rfl (fun w ht => by have h := m_permit_Check_c (hm := hc106) h2 ht; exact h) ?_
    rintro _ _ _ ⟨rfl, rfl, rfl⟩
    refine W_assign rfl rfl rfl ?_
    refine W_end ?_
    refine E_then ?_
    refine C_seq ?_
    refine C_region ?_
    refine W_move rfl rfl rfl ?_
    refine W_bin rfl rfl rfl rfl rfl ?_
    refine W_end ?_
    refine E_then ?_
    refine C_cond (b := !decide (r105 = 0)) rfl (fun hb107 => ?_) (fun hb107 => ?_)
    · have hm := ite_t' hb107 hm
      refine C_seq ?_
      refine C_region ?_
      refine W_move rfl rfl rfl ?_
      refine W_assign rfl rfl rfl ?_
      refine W_assign rfl rfl rfl ?_
      refine W_end ?_
      refine E_then ?_
      refine C_ret ?_
      refine E_ret_then ?_
      obtain rfl := Option.some.inj hm
      refine E_drop (List.Sublist.cons _ (List.Sublist.refl _)) ?_
      exact end2 rfl rfl rfl ⟨(Hp.le_refl _), v0, v1, xs0, rfl, rfl, h0, h1⟩
    · have hm := ite_f' hb107 hm
      refine C_skip ?_
      refine E_then ?_
      refine C_seq ?_
      refine C_block ?_
      refine C_seq ?_
      refine C_region ?_
      refine W_move rfl rfl rfl ?_
      refine W_makeFunc rfl rfl rfl rfl ?_
      refine W_perm (List.Perm.trans (List.Perm.cons _ (List.Perm.swap _ _ _)) (List.Perm.swap _ _ _)) ?_
      obtain ⟨r108, hc109, hm⟩ := bind_some hm
      refine W_call Proofs.Try.call27 rfl rfl rfl (fun w ht => by obtain ⟨H0_, hl0_, ht0_, hr0_, bk0_⟩ := ht.lendRow h1 rfl; have h := m_slices_ContainsFunc_string_string__permit_Desk_Issue_1_c (hm := hc109) (h2.mono hl0_) (h0.mono hl0_) hr0_ ht0_; exact lend_back bk0_ (h)) ?_
      rintro _ _ _ ⟨rfl, ⟨_, rfl, rfl, rfl⟩⟩
      refine W_assign rfl rfl rfl ?_
      refine W_end ?_
      refine E_then ?_
      refine C_cond (b := r108) rfl (fun hb110 => ?_) (fun hb110 => ?_)
      · have hm := ite_t' hb110 hm
        refine C_seq ?_
        refine C_region ?_
        refine W_assign rfl rfl rfl ?_
        refine W_assign rfl rfl rfl ?_
        refine W_end ?_
        refine E_then ?_
        refine C_ret ?_
        refine E_ret_block ?_
        refine E_ret_then ?_
        obtain rfl := Option.some.inj hm
        refine E_drop (List.Sublist.cons_cons _ (List.Sublist.cons _ (List.Sublist.refl _))) ?_
        refine E_perm (List.Perm.swap _ _ _) ?_
        exact end2 rfl rfl rfl ⟨(Hp.le_refl _), v0, v1, xs0, rfl, rfl, h0, h1⟩
      · have hm := ite_f' hb110 hm
        refine C_seq ?_
        refine C_region ?_
        refine W_move rfl rfl rfl ?_
        refine W_lenR rfl rfl Proofs.Try.runUnderlying33 rfl h2 ?_
        refine W_bin rfl rfl rfl rfl rfl ?_
        refine W_assign rfl rfl rfl ?_
        refine W_end ?_
        refine E_then ?_
        refine C_cond (b := decide ((devices.length : Int) = 0)) rfl (fun hb111 => ?_) (fun hb111 => ?_)
        · have hm := ite_t' hb111 hm
          refine C_seq ?_
          refine C_region ?_
          refine W_assign rfl rfl rfl ?_
          refine W_assign rfl rfl rfl ?_
          refine W_end ?_
          refine E_then ?_
          refine C_ret ?_
          refine E_ret_block ?_
          refine E_ret_then ?_
          obtain rfl := Option.some.inj hm
          refine E_drop (List.Sublist.cons_cons _ (List.Sublist.cons _ (List.Sublist.refl _))) ?_
          refine E_perm (List.Perm.swap _ _ _) ?_
          exact end2 rfl rfl rfl ⟨(Hp.le_refl _), v0, v1, xs0, rfl, rfl, h0, h1⟩
        · have hm := ite_f' hb111 hm
          refine C_seq ?_
          refine C_region ?_
          refine W_move rfl rfl rfl ?_
          refine W_lenR rfl rfl Proofs.Try.runUnderlying33 rfl h2 ?_
          refine W_bin rfl rfl rfl rfl rfl ?_
          refine W_assign rfl rfl rfl ?_
          refine W_end ?_
          refine E_then ?_
          refine C_cond (b := decide (12 < (devices.length : Int))) rfl (fun hb112 => ?_) (fun hb112 => ?_)
          · have hm := ite_t' hb112 hm
            refine C_seq ?_
            refine C_region ?_
            refine W_assign rfl rfl rfl ?_
            refine W_assign rfl rfl rfl ?_
            refine W_end ?_
            refine E_then ?_
            refine C_ret ?_
            refine E_ret_block ?_
            refine E_ret_then ?_
            obtain rfl := Option.some.inj hm
            refine E_drop (List.Sublist.cons_cons _ (List.Sublist.cons _ (List.Sublist.refl _))) ?_
            refine E_perm (List.Perm.swap _ _ _) ?_
            exact end2 rfl rfl rfl ⟨(Hp.le_refl _), v0, v1, xs0, rfl, rfl, h0, h1⟩
          · have hm := ite_f' hb112 hm
            refine C_seq ?_
            refine C_region ?_
            refine W_load rfl rfl Proofs.Try.isAgg34 rfl (own_at (List.mem_cons_of_mem _ (List.mem_cons_self ..)) rfl) ?_
            refine W_nilCheck rfl rfl rfl ?_
            refine W_field (o := 1) rfl rfl Proofs.Try.runUnderlying63 rfl Proofs.Try.sizeOf40 rfl rfl rfl ?_
            refine W_load rfl rfl Proofs.Try.isAgg40 rfl (own_at (List.mem_cons_of_mem _ (List.mem_cons_of_mem _ (List.mem_cons_self ..))) rfl) ?_
            refine W_lenO (List.mem_cons_self ..) rfl rfl Proofs.Try.runUnderlying40 rfl ?_
            refine W_bin rfl rfl rfl rfl rfl ?_
            refine W_assign rfl rfl rfl ?_
            refine W_end ?_
            refine E_then ?_
            refine C_cond (b := decide ((p0_d.papers.length : Int) = 20)) rfl (fun hb113 => ?_) (fun hb113 => ?_)
            · have hm := ite_t' hb113 hm
              refine C_seq ?_
              refine C_region ?_
              refine W_assign rfl rfl rfl ?_
              refine W_assign rfl rfl rfl ?_
              refine W_end ?_
              refine E_then ?_
              refine C_ret ?_
              refine E_ret_block ?_
              refine E_ret_then ?_
              obtain rfl := Option.some.inj hm
              refine E_drop (List.Sublist.cons_cons _ (List.Sublist.cons _ (List.Sublist.refl _))) ?_
              refine E_perm (List.Perm.swap _ _ _) ?_
              exact end2 rfl rfl rfl ⟨(Hp.le_refl _), v0, v1, xs0, rfl, rfl, h0, h1⟩
            · have hm := ite_f' hb113 hm
              refine C_skip ?_
              refine E_normal_block ?_
              refine E_then ?_
              refine C_seq ?_
              refine C_region ?_
              refine W_load rfl rfl Proofs.Try.isAgg34 rfl (own_at (List.mem_cons_of_mem _ (List.mem_cons_self ..)) rfl) ?_
              refine W_nilCheck rfl rfl rfl ?_
              refine W_field (o := 2) rfl rfl Proofs.Try.runUnderlying63 rfl Proofs.Try.sizeOf3 rfl rfl rfl ?_
              refine W_load rfl rfl Proofs.Try.isAgg3 rfl (own_at (List.mem_cons_of_mem _ (List.mem_cons_of_mem _ (List.mem_cons_self ..))) rfl) ?_
              refine W_bin rfl rfl rfl rfl rfl ?_
              refine W_nilCheck rfl rfl rfl ?_
              refine W_field (o := 2) rfl rfl Proofs.Try.runUnderlying63 rfl Proofs.Try.sizeOf3 rfl rfl rfl ?_
              refine W_perm (List.Perm.trans (List.Perm.cons _ (List.Perm.swap _ _ _)) (List.Perm.swap _ _ _)) ?_
              refine W_store (cs := [.int .i64 (IntKind.i64.wrap (p0_d.last + 1))]) (out := [v0, v1, .int .i64 (IntKind.i64.wrap (p0_d.last + 1))]) rfl Proofs.Try.sizeOf3 rfl rfl rfl rfl rfl (all_cons rfl all_nil) rfl ?_
              refine W_end ?_
              refine E_then ?_
              refine C_seq ?_
              obtain ⟨hz114, hm⟩ := need_some hm
              obtain ⟨hz128, hm⟩ := need_some hm
              refine C_perm (List.Perm.swap _ _ _) ?_
              refine C_as (M' := [[.row v1 43 (Rep.sz S_api_PermitPaper) p0_d.papers.length xs0]].flatten ++ (.obj b0 (.cells [v0, v1, .int .i64 (IntKind.i64.wrap (p0_d.last + 1))].toArray 63 (0, 0)) :: .obj b101 (.cells [.pointer (some ⟨b0, 0, none⟩)].toArray 34 (0, 0)) :: M)) rfl ?_
              refine C_region_tok0 15 (phiT [(fun H rs v => [] = rs ∧ .pointer (some ⟨b0, 0, none⟩) = v), (fun H rs v => [] = rs ∧ .pointer (some ⟨b0, 0, none⟩) = v), (fun H rs v => [] = rs ∧ .pointer (some ⟨b0, 0, none⟩) = v), (fun H rs v => [] = rs ∧ .pointer (some ⟨b0, 1, none⟩) = v), (fun H rs v => [] = rs ∧ v1 = v), (fun H rs v => [] = rs ∧ .pointer (some ⟨b0, 0, none⟩) = v), (fun H rs v => [] = rs ∧ .pointer (some ⟨b0, 0, none⟩) = v), (fun H rs v => [] = rs ∧ .pointer (some ⟨b0, 2, none⟩) = v), (fun H rs v => [] = rs ∧ .int .i64 (IntKind.i64.wrap (p0_d.last + 1)) = v), (fun H rs v => [] = rs ∧ .string (holder) = v), (fun H rs v => [] = rs ∧ v2 = v), (fun H rs v => ∃ v132 : Value, ∃ xs133 : List Value, [.row v132 9 (Rep.sz ByteArray) devices.length xs133] = rs ∧ v132 = v ∧ Rw H v132 xs133 devices), (fun H rs v => ∃ v132 : Value, ∃ xs133 : List Value, [.row v132 9 (Rep.sz ByteArray) devices.length xs133] = rs ∧ .agg [.int .i64 (IntKind.i64.wrap (p0_d.last + 1)), .string (holder), v132].toArray = v ∧ Rw H v132 xs133 devices), (fun H rs v => ∃ v132 : Value, ∃ xs133 : List Value, ∃ v139 : Value, [] = rs ∧ v139 = v ∧ Rw H v132 xs133 devices ∧ RdS H v132 devices ∧ RdS H v139 ([(S_api_PermitPaper.mk (IntKind.i64.wrap (p0_d.last + 1)) holder devices)]) ∧ Value.cap' v139 = ([(S_api_PermitPaper.mk (IntKind.i64.wrap (p0_d.last + 1)) holder devices)]).length), (fun H rs v => ∃ v145 : Value, ∃ xs146 : List Value, [.row v145 43 (Rep.sz S_api_PermitPaper) (p0_d.papers ++ ([(S_api_PermitPaper.mk (IntKind.i64.wrap (p0_d.last + 1)) holder devices)])).length xs146] = rs ∧ v145 = v ∧ Rw H v145 xs146 (p0_d.papers ++ ([(S_api_PermitPaper.mk (IntKind.i64.wrap (p0_d.last + 1)) holder devices)])))]) [[], [], [], [], [], [], [], [], [], [], [], [], [11], [12], [15]] [[], [], [], [], [], [], [], [], [], [], [], [], [], [], []] [[.row v1 43 (Rep.sz S_api_PermitPaper) p0_d.papers.length xs0]] [0, 1, 2, 3, 4, 5, 6, 7, 8, 9, 10, 13, 14] Facts.mixed (by kernel_rfl) rfl rfl rfl (by kernel_rfl) (phiT_mono ⟨eq_monoT _ _, eq_monoT _ _, eq_monoT _ _, eq_monoT _ _, eq_monoT _ _, eq_monoT _ _, eq_monoT _ _, eq_monoT _ _, eq_monoT _ _, eq_monoT _ _, eq_monoT _ _, (by rintro H1 H2 rs v hle ⟨v132, xs133, rfl, rfl, hr134⟩; exact ⟨v132, xs133, rfl, rfl, (hr134.mono hle)⟩), (by rintro H1 H2 rs v hle ⟨v132, xs133, rfl, rfl, hr134⟩; exact ⟨v132, xs133, rfl, rfl, (hr134.mono hle)⟩), (by rintro H1 H2 rs v hle ⟨v132, xs133, v139, rfl, rfl, hr134, h137, h143, hc144⟩; exact ⟨v132, xs133, v139, rfl, rfl, (hr134.mono hle), (h137.mono hle), (h143.mono hle), (hc144)⟩), (by rintro H1 H2 rs v hle ⟨v145, xs146, rfl, rfl, hr147⟩; exact ⟨v145, xs146, rfl, rfl, (hr147.mono hle)⟩), trivial⟩) ⟨?_, ?_, ?_, ?_, ?_, ?_, ?_, ?_, ?_, ?_, ?_, ?_, ?_, ?_, ?_, trivial⟩ ?_
              · intro HX hX X Rest hR
                intro hU
                refine W_load rfl rfl Proofs.Try.isAgg34 rfl (own_at (hR _ (List.mem_cons_of_mem _ (List.mem_cons_self ..))) rfl) ?_
                exact W_end (OneT_end [] (Hp.le_refl _) ⟨rfl, rfl⟩)
              · intro HX hX X Rest hR
                intro hU
                refine W_load rfl rfl Proofs.Try.isAgg34 rfl (own_at (hR _ (List.mem_cons_of_mem _ (List.mem_cons_self ..))) rfl) ?_
                exact W_end (OneT_end [] (Hp.le_refl _) ⟨rfl, rfl⟩)
              · intro HX hX X Rest hR
                rintro _ _ ⟨rfl, rfl⟩
                intro hU
                refine W_nilCheck rfl rfl rfl ?_
                exact W_end (OneT_end [] (Hp.le_refl _) ⟨rfl, rfl⟩)
              · intro HX hX X Rest hR
                rintro _ _ ⟨rfl, rfl⟩
                intro hU
                refine W_field (o := 1) rfl rfl Proofs.Try.runUnderlying63 rfl Proofs.Try.sizeOf40 rfl rfl rfl ?_
                exact W_end (OneT_end [] (Hp.le_refl _) ⟨rfl, rfl⟩)
              · intro HX hX X Rest hR
                rintro _ _ ⟨rfl, rfl⟩
                intro hU
                refine W_load rfl rfl Proofs.Try.isAgg40 rfl (own_at (hR _ (List.mem_cons_self ..)) rfl) ?_
                exact W_end (OneT_end [] (Hp.le_refl _) ⟨rfl, rfl⟩)
              · intro HX hX X Rest hR
                intro hU
                refine W_load rfl rfl Proofs.Try.isAgg34 rfl (own_at (hR _ (List.mem_cons_of_mem _ (List.mem_cons_self ..))) rfl) ?_
                exact W_end (OneT_end [] (Hp.le_refl _) ⟨rfl, rfl⟩)
              · intro HX hX X Rest hR
                rintro _ _ ⟨rfl, rfl⟩
                intro hU
                refine W_nilCheck rfl rfl rfl ?_
                exact W_end (OneT_end [] (Hp.le_refl _) ⟨rfl, rfl⟩)
              · intro HX hX X Rest hR
                rintro _ _ ⟨rfl, rfl⟩
                intro hU
                refine W_field (o := 2) rfl rfl Proofs.Try.runUnderlying63 rfl Proofs.Try.sizeOf3 rfl rfl rfl ?_
                exact W_end (OneT_end [] (Hp.le_refl _) ⟨rfl, rfl⟩)
              · intro HX hX X Rest hR
                rintro _ _ ⟨rfl, rfl⟩
                intro hU
                refine W_load rfl rfl Proofs.Try.isAgg3 rfl (own_at (hR _ (List.mem_cons_self ..)) rfl) ?_
                exact W_end (OneT_end [] (Hp.le_refl _) ⟨rfl, rfl⟩)
              · intro HX hX X Rest hR
                intro hU
                refine W_move rfl rfl rfl ?_
                exact W_end (OneT_end [] (Hp.le_refl _) ⟨rfl, rfl⟩)
              · intro HX hX X Rest hR
                intro hU
                refine W_move rfl rfl rfl ?_
                exact W_end (OneT_end [] (Hp.le_refl _) ⟨rfl, rfl⟩)
              · intro HX hX X Rest hR
                rintro _ _ ⟨rfl, rfl⟩
                intro hU
                refine W_call Proofs.Try.call23 rfl rfl rfl (fun w ht => by have h := clone23_c (s := devices) (h2.mono hX) hz114 ht; exact h) ?_
                rintro _ _ _ ⟨rfl, v132, xs133, rfl, rfl, hr134⟩
                have hr134 := hr134 HX
                exact W_end (OneT_end [.row v132 9 (Rep.sz ByteArray) devices.length xs133] (Hp.le_refl _) ⟨v132, xs133, rfl, rfl, (hr134)⟩)
              · intro HX hX X Rest hR
                rintro _ _ ⟨rfl, rfl⟩
                rintro _ _ ⟨rfl, rfl⟩
                rintro _ _ ⟨v132, xs133, rfl, rfl, hr134⟩
                intro hU
                refine W_as (M' := .row v132 9 (Rep.sz ByteArray) devices.length xs133 :: Rest) rfl ?_
                refine W_build (css := [[.int .i64 (IntKind.i64.wrap (p0_d.last + 1))], [.string (holder)], [v132]]) (zs := [.int .i64 (0), .string (⟨#[]⟩), .slice none 0 0]) (out := [.int .i64 (IntKind.i64.wrap (p0_d.last + 1)), .string (holder), v132]) (places := [(0, 1), (1, 1), (2, 1)]) rfl rfl rfl ⟨rfl, rfl, (Rw.cells hr134), trivial⟩ Proofs.Try.zeroValue43 rfl Proofs.Try.runUnderlying43 (fun w => by kernel_rfl) rfl ?_
                exact W_end (OneT_end [.row v132 9 (Rep.sz ByteArray) devices.length xs133] (Hp.le_refl _) ⟨v132, xs133, rfl, rfl, (hr134)⟩)
              · intro HX hX X Rest hR
                rintro _ _ ⟨v132, xs133, rfl, rfl, hr134⟩
                intro hU
                refine W_as (M' := .row v132 9 (Rep.sz ByteArray) devices.length xs133 :: Rest) rfl ?_
                refine W_freeze (hr134).rd rfl (fun H135 hle136 h137 => ?_)
                refine W_buildSlice (α := S_api_PermitPaper) (css := [[.int .i64 (IntKind.i64.wrap (p0_d.last + 1)), .string (holder), v132]]) (zs := [.int .i64 (0), .string (⟨#[]⟩), .slice none 0 0]) (out := [.int .i64 (IntKind.i64.wrap (p0_d.last + 1)), .string (holder), v132]) (ys := [(S_api_PermitPaper.mk (IntKind.i64.wrap (p0_d.last + 1)) holder devices)]) rfl rfl rfl ⟨rfl, trivial⟩ Proofs.Try.runUnderlying40 Proofs.Try.sizeOf43 rfl Proofs.Try.zeroValue43 (by kernel_rfl) rfl rfl rfl rfl ⟨[.int .i64 (IntKind.i64.wrap (p0_d.last + 1)), .string (holder), v132], [], rfl, ⟨v132, rfl, h137⟩, rfl⟩ rfl ?_
                intro b138 v139 H140 hv141 hle142 h143
                have hc144 : Value.cap' v139 = ([(S_api_PermitPaper.mk (IntKind.i64.wrap (p0_d.last + 1)) holder devices)]).length := by rw [hv141]; rfl
                exact W_end (OneT_end [] (Hp.le_trans hle136 hle142) ⟨v132, xs133, v139, rfl, rfl, (hr134.mono (Hp.le_trans hle136 hle142)), ((h137.mono hle142)), (h143), (hc144)⟩)
              · intro HX hX X Rest hR
                rintro _ _ ⟨rfl, rfl⟩
                rintro _ _ ⟨v132, xs133, v139, rfl, rfl, hr134, h137, h143, hc144⟩
                rintro _ _ ⟨v132, xs133, rfl, rfl, hr134⟩
                intro hU
                refine W_as (M' := .row v1 43 (Rep.sz S_api_PermitPaper) p0_d.papers.length xs0 :: Rest) rfl ?_
                refine W_appendO (α := S_api_PermitPaper) (l := p0_d.papers) (ys := [(S_api_PermitPaper.mk (IntKind.i64.wrap (p0_d.last + 1)) holder devices)]) rfl rfl Proofs.Try.underlying40 ⟨_, rfl, rfl, rfl, rfl⟩ rfl rfl rfl rfl rfl (h1.mono hX) h143 hz128 ?_
                intro v145 xs146 hr147
                exact W_end (OneT_end [.row v145 43 (Rep.sz S_api_PermitPaper) (p0_d.papers ++ ([(S_api_PermitPaper.mk (IntKind.i64.wrap (p0_d.last + 1)) holder devices)])).length xs146] (Hp.le_refl _) ⟨v145, xs146, rfl, rfl, (hr147)⟩)
              intro H148 hle149
              rintro _ _ ⟨rfl, rfl⟩
              rintro _ _ ⟨rfl, rfl⟩
              rintro _ _ ⟨rfl, rfl⟩
              rintro _ _ ⟨rfl, rfl⟩
              rintro _ _ ⟨rfl, rfl⟩
              rintro _ _ ⟨rfl, rfl⟩
              rintro _ _ ⟨rfl, rfl⟩
              rintro _ _ ⟨rfl, rfl⟩
              rintro _ _ ⟨rfl, rfl⟩
              rintro _ _ ⟨rfl, rfl⟩
              rintro _ _ ⟨rfl, rfl⟩
              rintro _ _ ⟨v132, xs133, rfl, rfl, hr134⟩
              rintro _ _ ⟨v132, xs133, rfl, rfl, hr134⟩
              rintro _ _ ⟨v132, xs133, v139, rfl, rfl, hr134, h137, h143, hc144⟩
              rintro _ _ ⟨v145, xs146, rfl, rfl, hr147⟩
              refine W_as (M' := .row v145 43 (Rep.sz S_api_PermitPaper) (p0_d.papers ++ ([(S_api_PermitPaper.mk (IntKind.i64.wrap (p0_d.last + 1)) holder devices)])).length xs146 :: .obj b0 (.cells [v0, v1, .int .i64 (IntKind.i64.wrap (p0_d.last + 1))].toArray 63 (0, 0)) :: .obj b101 (.cells [.pointer (some ⟨b0, 0, none⟩)].toArray 34 (0, 0)) :: M) rfl ?_
              refine W_nilCheck rfl rfl rfl ?_
              refine W_field (o := 1) rfl rfl Proofs.Try.runUnderlying63 rfl Proofs.Try.sizeOf40 rfl rfl rfl ?_
              refine W_perm (List.Perm.swap _ _ _) ?_
              refine W_store (cs := [v145]) (out := [v0, v145, .int .i64 (IntKind.i64.wrap (p0_d.last + 1))]) rfl Proofs.Try.sizeOf40 rfl rfl (Rw.cells hr147) rfl rfl (all_cons (Rw.one hr147) all_nil) rfl ?_
              refine W_end ?_
              refine E_then ?_
              refine C_seq ?_
              refine C_region ?_
              refine W_load rfl rfl Proofs.Try.isAgg34 rfl (own_at (List.mem_cons_of_mem _ (List.mem_cons_of_mem _ (List.mem_cons_self ..))) rfl) ?_
              refine W_nilCheck rfl rfl rfl ?_
              refine W_field (o := 2) rfl rfl Proofs.Try.runUnderlying63 rfl Proofs.Try.sizeOf3 rfl rfl rfl ?_
              refine W_load rfl rfl Proofs.Try.isAgg3 rfl (own_at (List.mem_cons_self ..) rfl) ?_
              refine W_assign rfl rfl rfl ?_
              refine W_assign rfl rfl rfl ?_
              refine W_end ?_
              refine E_then ?_
              refine C_ret ?_
              obtain rfl := Option.some.inj hm
              refine E_drop (List.Sublist.cons_cons _ (List.Sublist.cons_cons _ (List.Sublist.cons _ (List.Sublist.refl _)))) ?_
              exact end2 rfl rfl rfl ⟨hle149, v0, v145, xs146, rfl, rfl, (h0.mono hle149), hr147⟩

theorem m_permit_Desk_Tags_c {B : Nat} {w0 w : World} {H : Hp} {M : List Res} {p0_d : S_permit_Desk} {device : ByteArray} {b0 : Nat} {v0 : Value} {v1 : Value} {xs0 : List Value} {r : (List Int) × Int} (hm : m_permit_Desk_Tags p0_d device = some r) (h0 : RdS H v0 p0_d.devices) (h1 : Rw H v1 xs0 p0_d.papers) (ht : St B w0 H (.obj b0 (.cells [v0, v1, .int .i64 (p0_d.last)].toArray 63 (0, 0)) :: .row v1 43 (Rep.sz S_api_PermitPaper) p0_d.papers.length xs0 :: M) w) :
    Calls Proofs.Try.prog 30 [.pointer (some ⟨b0, 0, none⟩), .string (device)].toArray w (Ret B w0 fun H' M' v => H = H' ∧ ∃ qv0 : Value, ∃ qxs0 : List Value, .row qv0 3 (Rep.sz Int) r.1.length qxs0 :: .obj b0 (.cells [v0, v1, .int .i64 (p0_d.last)].toArray 63 (0, 0)) :: .row v1 43 (Rep.sz S_api_PermitPaper) p0_d.papers.length xs0 :: M = M' ∧ .tuple #[qv0, .int .i64 (r.2)] = v ∧ RwF qv0 qxs0 r.1) := by
  unfold m_permit_Desk_Tags at hm
  refine enter Proofs.Try.func30 rfl rfl rfl ht ?_
  refine C_seq ?_
  refine C_region ?_
  refine W_assign rfl rfl rfl ?_
  refine W_assign rfl rfl rfl ?_
  refine W_end ?_
  refine E_then ?_
  refine C_seq ?_
  refine C_seq ?_
  refine C_region ?_
  refine W_move rfl rfl rfl ?_
  refine W_nilCheck rfl rfl rfl ?_
  refine W_field (o := 0) rfl rfl Proofs.Try.runUnderlying63 rfl Proofs.Try.sizeOf33 rfl rfl rfl ?_
  refine W_load rfl rfl Proofs.Try.isAgg33 rfl (own_at (List.mem_cons_self ..) rfl) ?_
  refine W_move rfl rfl rfl ?_
  obtain ⟨r101, hc102, hm⟩ := bind_some hm
  refine W_call Proofs.Try.call26 rfl rfl rfl (fun w ht => by have h := m_slices_Contains_string_string_c (hm := hc102) h0 ht; exact h) ?_
  rintro _ _ _ ⟨rfl, rfl, rfl⟩
  refine W_un rfl rfl rfl rfl ?_
  refine W_end ?_
  refine E_then ?_
  refine C_cond (b := !r101) rfl (fun hb103 => ?_) (fun hb103 => ?_)
  · have hm := ite_t' hb103 hm
    refine C_seq ?_
    refine C_region ?_
    refine W_assign rfl rfl rfl ?_
    refine W_assign rfl rfl rfl ?_
    refine W_end ?_
    refine E_then ?_
    refine C_ret ?_
    refine E_ret_then ?_
    refine E_nilRow 3 (Rep.sz Int) ?_
    obtain rfl := Option.some.inj hm
    refine E_weak (Hp.le_refl _) ?_
    exact end2 rfl rfl rfl ⟨rfl, (.slice none 0 0), [], rfl, rfl, (Rw.nil (H := H)).toF⟩
  · have hm := ite_f' hb103 hm
    refine C_skip ?_
    refine E_then ?_
    refine C_seq ?_
    refine C_region ?_
    refine W_assign rfl rfl rfl ?_
    refine W_end ?_
    refine E_then ?_
    refine C_seq ?_
    refine C_seq ?_
    refine C_region ?_
    refine W_move rfl rfl rfl ?_
    refine W_nilCheck rfl rfl rfl ?_
    refine W_field (o := 1) rfl rfl Proofs.Try.runUnderlying63 rfl Proofs.Try.sizeOf40 rfl rfl rfl ?_
    refine W_load rfl rfl Proofs.Try.isAgg40 rfl (own_at (List.mem_cons_self ..) rfl) ?_
    refine W_lenO (List.mem_cons_of_mem _ (List.mem_cons_self ..)) rfl rfl Proofs.Try.runUnderlying40 rfl ?_
    refine W_move rfl rfl rfl ?_
    refine W_end ?_
    refine E_then ?_
    refine C_block ?_
    refine C_rowMax (List.mem_cons_of_mem _ (List.mem_cons_self ..)) (fun hmx213 => ?_)
    refine C_nilRow 3 (Rep.sz Int) ?_
    refine C_keep (L' := [(1, .string (device)), (6, (.slice none 0 0)), (19, v1), (20, .int .i64 ((p0_d.papers.length : Int))), (21, .int .i64 (((0 : Nat) : Int)))]) ⟨rfl, rfl, rfl, rfl, rfl, trivial⟩ (List.Perm.refl _) ?_
    refine C_loop (fun n H' M' L' => ∃ (k104 : Nat) (zs215' : List S_api_PermitPaper), ∃ l205 : List Int, ∃ v203 : Value, ∃ xs204 : List Value, (p0_d.papers).drop k104 = zs215' ∧ zs215'.length = n ∧ forI (fun k y s209 n => m_permit_Desk_Tags_b3 device k y s209 n) (fun s209 => some (s209, 0)) k104 zs215' l205 = some r ∧ Rw H' v203 xs204 l205 ∧ H.le H' ∧ .row v203 3 (Rep.sz Int) l205.length xs204 :: .obj b0 (.cells [v0, v1, .int .i64 (p0_d.last)].toArray 63 (0, 0)) :: .row v1 43 (Rep.sz S_api_PermitPaper) p0_d.papers.length xs0 :: M = M' ∧ [(1, .string (device)), (6, v203), (19, v1), (20, .int .i64 ((p0_d.papers.length : Int))), (21, .int .i64 ((k104 : Int)))] = L') _ ⟨0, _, ([] : List Int), (.slice none 0 0), ([]), rfl, rfl, hm, Rw.nil, (Hp.le_refl _), rfl, rfl⟩ ?_
    rintro _ H207 _ _ ⟨k104, zs215', l205, v203, xs204, hd217, rfl, hm, hr206, hle208, rfl, rfl⟩
    refine C_seq ?_
    refine C_region ?_
    refine W_bin rfl rfl rfl rfl rfl ?_
    refine W_end (E_then ?_)
    refine C_seq ?_
    refine C_cond (b := decide ((k104 : Int) < (p0_d.papers.length : Int))) rfl (fun hb219 => ?_) (fun hb219 => ?_)
    · obtain ⟨y214, zs215, rfl, hy216, hd218⟩ := rng_t hd217 hb219
      have hm : m_permit_Desk_Tags_b3 device k104 y214 l205 (forI (fun k y s209 n => m_permit_Desk_Tags_b3 device k y s209 n) (fun s209 => some (s209, 0)) (k104 + 1) zs215) = some r := hm
      generalize hn211 : forI (fun k y s209 n => m_permit_Desk_Tags_b3 device k y s209 n) (fun s209 => some (s209, 0)) (k104 + 1) zs215 = nx210 at hm
      unfold m_permit_Desk_Tags_b3 at hm
      refine C_skip (E_then ?_)
      refine C_seq_join (fun H' M' L' => ∃ l240 : List Int, ∃ v238 : Value, ∃ xs239 : List Value, m_permit_Desk_Tags_b4 nx210 l240 = some r ∧ Rw H' v238 xs239 l240 ∧ H207.le H' ∧ .row v238 3 (Rep.sz Int) l240.length xs239 :: .obj b0 (.cells [v0, v1, .int .i64 (p0_d.last)].toArray 63 (0, 0)) :: .row v1 43 (Rep.sz S_api_PermitPaper) p0_d.papers.length xs0 :: M = M' ∧ [(1, .string (device)), (6, v238), (19, v1), (20, .int .i64 ((p0_d.papers.length : Int))), (21, .int .i64 ((k104 : Int)))] = L') ?_ (fun J244 => ?_)
      · rintro H242 _ _ ⟨l240, v238, xs239, hm, hr241, hle243, rfl, rfl⟩
        unfold m_permit_Desk_Tags_b4 at hm
        refine C_region ?_
        refine W_bin rfl rfl rfl rfl rfl ?_
        refine W_move rfl rfl rfl ?_
        refine W_end ?_
        exact E_keepJ (E_back (Nat.lt_succ_self _) ⟨k104 + 1, zs215, l240, v238, xs239, hd218, rfl, (by rw [hn211]; exact hm), hr241, (Hp.le_trans hle208 hle243), rfl, rfl⟩) (List.Perm.refl _) ⟨rfl, rfl, rfl, rfl, (congrArg (fun z => some (Value.int .i64 z)) (i64_succ hy216 hmx213)), trivial⟩
      · refine C_block ?_
        refine C_seq ?_
        refine C_region ?_
        refine W_indexO (List.mem_cons_of_mem _ (List.mem_cons_of_mem _ (List.mem_cons_self ..))) rfl rfl Proofs.Try.runUnderlying40 Proofs.Try.sizeOf43 rfl rfl (Int.natCast_nonneg _) (List.getElem?_eq_some_iff.1 hy216).1 ?_
        obtain ⟨_, ⟨v246, rfl, h247⟩, hg245⟩ := (h1).elem hy216
        refine W_loadAgg (cs := [.int .i64 (y214.Number), .string (y214.Holder), v246]) rfl rfl Proofs.Try.isAgg43 Proofs.Try.sizeOf43 rfl (row_cells (List.mem_cons_of_mem _ (List.mem_cons_of_mem _ (List.mem_cons_self ..))) hg245) rfl ?_
        refine W_alloc (cs := [.int .i64 (0), .string (⟨#[]⟩), .slice none 0 0]) rfl rfl Proofs.Try.zeroValue43 rfl (fun b248 => ?_)
        refine W_store (cs := [.int .i64 (y214.Number), .string (y214.Holder), v246]) (out := [.int .i64 (y214.Number), .string (y214.Holder), v246]) rfl Proofs.Try.sizeOf43 rfl rfl rfl rfl rfl (all_cons rfl (all_cons rfl (all_cons (RdS.one1 (h247.mono hle208)) all_nil))) (over_all rfl) ?_
        refine W_end ?_
        refine E_then ?_
        refine C_seq ?_
        refine C_region ?_
        refine W_field (o := 2) rfl rfl Proofs.Try.runUnderlying43 rfl Proofs.Try.sizeOf33 rfl rfl rfl ?_
        refine W_load rfl rfl Proofs.Try.isAgg33 rfl (own_at (List.mem_cons_self ..) rfl) ?_
        refine W_move rfl rfl rfl ?_
        obtain ⟨r249, hc250, hm⟩ := bind_some hm
        refine W_call Proofs.Try.call26 rfl rfl rfl (fun w ht => by have h := m_slices_Contains_string_string_c (hm := hc250) (h247.mono hle208) ht; exact h) ?_
        rintro _ _ _ ⟨rfl, rfl, rfl⟩
        refine W_end ?_
        refine E_then ?_
        refine C_cond (b := r249) rfl (fun hb251 => ?_) (fun hb251 => ?_)
        · have hm := ite_t' hb251 hm
          refine C_region ?_
          refine W_move rfl rfl rfl ?_
          refine W_field (o := 0) rfl rfl Proofs.Try.runUnderlying43 rfl Proofs.Try.sizeOf3 rfl rfl rfl ?_
          refine W_load rfl rfl Proofs.Try.isAgg3 rfl (own_at (List.mem_cons_self ..) rfl) ?_
          refine W_buildSlice (α := Int) (css := [[.int .i64 (y214.Number)]]) (zs := [.int .i64 (0)]) (out := [.int .i64 (y214.Number)]) (ys := [y214.Number]) rfl rfl rfl ⟨rfl, trivial⟩ Proofs.Try.runUnderlying27 Proofs.Try.sizeOf3 rfl Proofs.Try.zeroValue3 (by kernel_rfl) rfl rfl rfl rfl ⟨[.int .i64 (y214.Number)], [], rfl, rfl, rfl⟩ rfl ?_
          intro b252 v253 H254 hv255 hle256 h257
          have hc258 : Value.cap' v253 = ([y214.Number]).length := by rw [hv255]; rfl
          obtain ⟨hz259, hm⟩ := need_some hm
          refine W_perm (List.Perm.swap _ _ _) ?_
          refine W_appendO (α := Int) (l := l205) (ys := [y214.Number]) rfl rfl Proofs.Try.underlying27 ⟨_, rfl, rfl, rfl, rfl⟩ rfl rfl rfl rfl rfl (hr206.mono hle256) h257 hz259 ?_
          intro v260 xs261 hr262
          refine W_assign rfl rfl rfl ?_
          refine W_end ?_
          refine E_normal_block ?_
          refine E_drop (List.Sublist.cons_cons _ (List.Sublist.cons _ (List.Sublist.refl _))) ?_
          exact E_keepJ (J244 _ _ _ ⟨(l205 ++ ([y214.Number])), v260, xs261, hm, hr262, hle256, rfl, rfl⟩) (List.Perm.refl _) ⟨rfl, rfl, rfl, rfl, rfl, trivial⟩
        · have hm := ite_f' hb251 hm
          refine C_skip ?_
          refine E_normal_block ?_
          refine E_drop (List.Sublist.cons _ (List.Sublist.refl _)) ?_
          exact E_keepJ (J244 _ _ _ ⟨l205, v203, xs204, hm, hr206, (Hp.le_refl _), rfl, rfl⟩) (List.Perm.refl _) ⟨rfl, rfl, rfl, rfl, rfl, trivial⟩
    · obtain rfl := rng_f hd217 hb219
      have hm : (some (l205, 0)) = some r := hm
      refine C_exit (E_exit_then ?_)
      refine E_exit_then ?_
      refine E_exit_hit ?_
      refine E_then ?_
      refine C_seq ?_
      refine C_region ?_
      refine W_move rfl rfl rfl ?_
      refine W_assign rfl rfl rfl ?_
      refine W_assign rfl rfl rfl ?_
      refine W_end ?_
      refine E_then ?_
      refine C_ret ?_
      obtain rfl := Option.some.inj hm
      refine E_weak hle208 ?_
      exact end2 rfl rfl rfl ⟨rfl, v203, xs204, rfl, rfl, (hr206).toF⟩

theorem m_permit_Desk_Held_c {B : Nat} {w0 w : World} {H : Hp} {M : List Res} {p0_d : S_permit_Desk} {b0 : Nat} {v0 : Value} {v1 : Value} {xs0 : List Value} {r : (List ByteArray)} (hm : m_permit_Desk_Held p0_d = some r) (h0 : RdS H v0 p0_d.devices) (h1 : Rw H v1 xs0 p0_d.papers) (ht : St B w0 H (.obj b0 (.cells [v0, v1, .int .i64 (p0_d.last)].toArray 63 (0, 0)) :: .row v1 43 (Rep.sz S_api_PermitPaper) p0_d.papers.length xs0 :: M) w) :
    Calls Proofs.Try.prog 15 [.pointer (some ⟨b0, 0, none⟩)].toArray w (Ret B w0 fun H' M' v => H = H' ∧ ∃ qv0 : Value, ∃ qxs0 : List Value, .row qv0 9 (Rep.sz ByteArray) r.length qxs0 :: .obj b0 (.cells [v0, v1, .int .i64 (p0_d.last)].toArray 63 (0, 0)) :: .row v1 43 (Rep.sz S_api_PermitPaper) p0_d.papers.length xs0 :: M = M' ∧ qv0 = v ∧ RwF qv0 qxs0 r) := by
  unfold m_permit_Desk_Held at hm
  refine enter Proofs.Try.func15 rfl rfl rfl ht ?_
  refine C_seq ?_
  refine C_region ?_
  refine W_assign rfl rfl rfl ?_
  refine W_end ?_
  refine E_then ?_
  refine C_seq ?_
  refine C_region ?_
  refine W_assign rfl rfl rfl ?_
  refine W_end ?_
  refine E_then ?_
  refine C_seq ?_
  refine C_seq ?_
  refine C_region ?_
  refine W_move rfl rfl rfl ?_
  refine W_nilCheck rfl rfl rfl ?_
  refine W_field (o := 0) rfl rfl Proofs.Try.runUnderlying63 rfl Proofs.Try.sizeOf33 rfl rfl rfl ?_
  refine W_load rfl rfl Proofs.Try.isAgg33 rfl (own_at (List.mem_cons_self ..) rfl) ?_
  refine W_lenR rfl rfl Proofs.Try.runUnderlying33 rfl h0 ?_
  refine W_move rfl rfl rfl ?_
  refine W_end ?_
  refine E_then ?_
  refine C_block ?_
  refine C_nilRow 9 (Rep.sz ByteArray) ?_
  refine C_keep (L' := [(0, .pointer (some ⟨b0, 0, none⟩)), (3, (.slice none 0 0)), (11, v0), (12, .int .i64 ((p0_d.devices.length : Int))), (13, .int .i64 (((0 : Nat) : Int)))]) ⟨rfl, rfl, rfl, rfl, rfl, trivial⟩ (List.Perm.refl _) ?_
  refine C_loop (fun n H' M' L' => ∃ (k101 : Nat) (zs211' : List ByteArray), ∃ l202 : List ByteArray, ∃ v200 : Value, ∃ xs201 : List Value, (p0_d.devices).drop k101 = zs211' ∧ zs211'.length = n ∧ forI (fun k y s206 n => m_permit_Desk_Held_b3 p0_d k y s206 n) (fun s206 => some s206) k101 zs211' l202 = some r ∧ Rw H' v200 xs201 l202 ∧ H.le H' ∧ .row v200 9 (Rep.sz ByteArray) l202.length xs201 :: .obj b0 (.cells [v0, v1, .int .i64 (p0_d.last)].toArray 63 (0, 0)) :: .row v1 43 (Rep.sz S_api_PermitPaper) p0_d.papers.length xs0 :: M = M' ∧ [(0, .pointer (some ⟨b0, 0, none⟩)), (3, v200), (11, v0), (12, .int .i64 ((p0_d.devices.length : Int))), (13, .int .i64 ((k101 : Int)))] = L') _ ⟨0, _, ([] : List ByteArray), (.slice none 0 0), ([]), rfl, rfl, hm, Rw.nil, (Hp.le_refl _), rfl, rfl⟩ ?_
  rintro _ H204 _ _ ⟨k101, zs211', l202, v200, xs201, hd213, rfl, hm, hr203, hle205, rfl, rfl⟩
  refine C_seq ?_
  refine C_region ?_
  refine W_bin rfl rfl rfl rfl rfl ?_
  refine W_end (E_then ?_)
  refine C_seq ?_
  refine C_cond (b := decide ((k101 : Int) < (p0_d.devices.length : Int))) rfl (fun hb215 => ?_) (fun hb215 => ?_)
  · obtain ⟨y210, zs211, rfl, hy212, hd214⟩ := rng_t hd213 hb215
    have hm : m_permit_Desk_Held_b3 p0_d k101 y210 l202 (forI (fun k y s206 n => m_permit_Desk_Held_b3 p0_d k y s206 n) (fun s206 => some s206) (k101 + 1) zs211) = some r := hm
    generalize hn208 : forI (fun k y s206 n => m_permit_Desk_Held_b3 p0_d k y s206 n) (fun s206 => some s206) (k101 + 1) zs211 = nx207 at hm
    unfold m_permit_Desk_Held_b3 at hm
    refine C_skip (E_then ?_)
    refine C_seq_join (fun H' M' L' => ∃ l236 : List ByteArray, ∃ v234 : Value, ∃ xs235 : List Value, m_permit_Desk_Held_b4 nx207 l236 = some r ∧ Rw H' v234 xs235 l236 ∧ H204.le H' ∧ .row v234 9 (Rep.sz ByteArray) l236.length xs235 :: .obj b0 (.cells [v0, v1, .int .i64 (p0_d.last)].toArray 63 (0, 0)) :: .row v1 43 (Rep.sz S_api_PermitPaper) p0_d.papers.length xs0 :: M = M' ∧ [(0, .pointer (some ⟨b0, 0, none⟩)), (3, v234), (11, v0), (12, .int .i64 ((p0_d.devices.length : Int))), (13, .int .i64 ((k101 : Int)))] = L') ?_ (fun J240 => ?_)
    · rintro H238 _ _ ⟨l236, v234, xs235, hm, hr237, hle239, rfl, rfl⟩
      unfold m_permit_Desk_Held_b4 at hm
      refine C_region ?_
      refine W_bin rfl rfl rfl rfl rfl ?_
      refine W_move rfl rfl rfl ?_
      refine W_end ?_
      exact E_keepJ (E_back (Nat.lt_succ_self _) ⟨k101 + 1, zs211, l236, v234, xs235, hd214, rfl, (by rw [hn208]; exact hm), hr237, (Hp.le_trans hle205 hle239), rfl, rfl⟩) (List.Perm.refl _) ⟨rfl, rfl, rfl, rfl, (congrArg (fun z => some (Value.int .i64 z)) (i64_succ hy212 ((h0.mono hle205)).lenMax)), trivial⟩
    · refine C_block ?_
      refine C_seq ?_
      refine C_region ?_
      obtain ⟨_, rfl, hc241⟩ := (h0).elem hy212
      refine W_indexS rfl rfl Proofs.Try.runUnderlying33 Proofs.Try.sizeOf9 rfl (h0.mono hle205) rfl (Int.natCast_nonneg _) hy212 ?_
      refine W_load rfl rfl Proofs.Try.isAgg9 rfl (HCells.one (hc241.mono hle205) 0 rfl).at ?_
      refine W_assign rfl rfl rfl ?_
      refine W_end ?_
      refine E_then ?_
      refine C_seq ?_
      refine C_region ?_
      refine W_move rfl rfl rfl ?_
      refine W_move rfl rfl rfl ?_
      refine W_perm (List.Perm.trans (List.Perm.swap _ _ _) (List.Perm.cons _ (List.Perm.swap _ _ _))) ?_
      obtain ⟨r242, hc243, hm⟩ := bind_some hm
      refine W_call Proofs.Try.call30 rfl rfl rfl (fun w ht => by have h := m_permit_Desk_Tags_c (hm := hc243) (h0.mono hle205) (h1.mono hle205) ht; exact h) ?_
      rintro _ _ _ ⟨rfl, v244, xs245, rfl, rfl, h246⟩
      have h246 := h246 H204
      refine W_move rfl rfl rfl ?_
      refine W_extract rfl rfl rfl rfl ?_
      refine W_extract rfl rfl rfl rfl ?_
      refine W_assign rfl rfl rfl ?_
      refine W_assign rfl rfl rfl ?_
      refine W_end ?_
      refine E_then ?_
      refine C_seq ?_
      refine C_region ?_
      refine W_move rfl rfl rfl ?_
      refine W_lenO (List.mem_cons_self ..) rfl rfl Proofs.Try.runUnderlying27 rfl ?_
      refine W_bin rfl rfl rfl rfl rfl ?_
      refine W_end ?_
      refine E_then ?_
      refine C_cond (b := decide (0 < (r242.1.length : Int))) rfl (fun hb247 => ?_) (fun hb247 => ?_)
      · have hm := ite_t' hb247 hm
        refine C_region ?_
        refine W_move rfl rfl rfl ?_
        refine W_move rfl rfl rfl ?_
        refine W_buildSlice (α := ByteArray) (css := [[.string (y210)]]) (zs := [.string (⟨#[]⟩)]) (out := [.string (y210)]) (ys := [y210]) rfl rfl rfl ⟨rfl, trivial⟩ Proofs.Try.runUnderlying33 Proofs.Try.sizeOf9 rfl Proofs.Try.zeroValue9 (by kernel_rfl) rfl rfl rfl rfl ⟨[.string (y210)], [], rfl, rfl, rfl⟩ rfl ?_
        intro b248 v249 H250 hv251 hle252 h253
        have hc254 : Value.cap' v249 = ([y210]).length := by rw [hv251]; rfl
        obtain ⟨hz255, hm⟩ := need_some hm
        refine W_perm (List.Perm.trans (List.Perm.cons _ (List.Perm.cons _ (List.Perm.swap _ _ _))) (List.Perm.trans (List.Perm.cons _ (List.Perm.swap _ _ _)) (List.Perm.swap _ _ _))) ?_
        refine W_appendO (α := ByteArray) (l := l202) (ys := [y210]) rfl rfl Proofs.Try.underlying33 ⟨_, rfl, rfl, rfl, rfl⟩ rfl rfl rfl rfl rfl (hr203.mono hle252) h253 hz255 ?_
        intro v256 xs257 hr258
        refine W_assign rfl rfl rfl ?_
        refine W_end ?_
        refine E_normal_block ?_
        refine E_drop (List.Sublist.cons_cons _ (List.Sublist.cons _ (List.Sublist.refl _))) ?_
        exact E_keepJ (J240 _ _ _ ⟨(l202 ++ ([y210])), v256, xs257, hm, hr258, hle252, rfl, rfl⟩) (List.Perm.refl _) ⟨rfl, rfl, rfl, rfl, rfl, trivial⟩
      · have hm := ite_f' hb247 hm
        refine C_skip ?_
        refine E_normal_block ?_
        refine E_drop (List.Sublist.cons _ (List.Sublist.refl _)) ?_
        exact E_keepJ (J240 _ _ _ ⟨l202, v200, xs201, hm, hr203, (Hp.le_refl _), rfl, rfl⟩) (List.Perm.trans (List.Perm.cons _ (List.Perm.swap _ _ _)) (List.Perm.swap _ _ _)) ⟨rfl, rfl, rfl, rfl, rfl, trivial⟩
  · obtain rfl := rng_f hd213 hb215
    have hm : (some l202) = some r := hm
    refine C_exit (E_exit_then ?_)
    refine E_exit_then ?_
    refine E_exit_hit ?_
    refine E_then ?_
    refine C_seq ?_
    refine C_region ?_
    refine W_move rfl rfl rfl ?_
    refine W_assign rfl rfl rfl ?_
    refine W_end ?_
    refine E_then ?_
    refine C_ret ?_
    obtain rfl := Option.some.inj hm
    refine E_weak hle205 ?_
    exact end1 rfl rfl ⟨rfl, v200, xs201, rfl, rfl, (hr203).toF⟩

theorem m_slices_Equal_string_string_c {B : Nat} {w0 w : World} {H : Hp} {M : List Res} {p0_s1 : (List ByteArray)} {p1_s2 : (List ByteArray)} {v0 : Value} {v1 : Value} {r : Bool} (hm : m_slices_Equal_string_string p0_s1 p1_s2 = some r) (h0 : RdS H v0 p0_s1) (h1 : RdS H v1 p1_s2) (ht : St B w0 H (M) w) :
    Calls Proofs.Try.prog 24 [v0, v1].toArray w (Ret B w0 fun H' M' v => H = H' ∧ M = M' ∧ .bool (r) = v) := by
  unfold m_slices_Equal_string_string at hm
  refine enter Proofs.Try.func24 rfl rfl rfl ht ?_
  refine C_seq ?_
  refine C_region ?_
  refine W_assign rfl rfl rfl ?_
  refine W_end ?_
  refine E_then ?_
  refine C_seq ?_
  refine C_seq ?_
  refine C_region ?_
  refine W_move rfl rfl rfl ?_
  refine W_lenR rfl rfl Proofs.Try.runUnderlying33 rfl h0 ?_
  refine W_move rfl rfl rfl ?_
  refine W_lenR rfl rfl Proofs.Try.runUnderlying33 rfl h1 ?_
  refine W_bin rfl rfl rfl rfl rfl ?_
  refine W_end ?_
  refine E_then ?_
  refine C_cond (b := !decide ((p0_s1.length : Int) = (p1_s2.length : Int))) rfl (fun hb101 => ?_) (fun hb101 => ?_)
  · have hm := ite_t' hb101 hm
    refine C_seq ?_
    refine C_region ?_
    refine W_assign rfl rfl rfl ?_
    refine W_end ?_
    refine E_then ?_
    refine C_ret ?_
    refine E_ret_then ?_
    obtain rfl := Option.some.inj hm
    refine E_weak (Hp.le_refl _) ?_
    exact end1 rfl rfl ⟨rfl, rfl, rfl⟩
  · have hm := ite_f' hb101 hm
    refine C_skip ?_
    refine E_then ?_
    refine C_seq ?_
    refine C_seq ?_
    refine C_region ?_
    refine W_move rfl rfl rfl ?_
    refine W_lenR rfl rfl Proofs.Try.runUnderlying33 rfl h0 ?_
    refine W_move rfl rfl rfl ?_
    refine W_end ?_
    refine E_then ?_
    refine C_block ?_
    refine C_keep (L' := [(0, v0), (1, v1), (12, .int .i64 ((p0_s1.length : Int))), (13, .int .i64 (((0 : Nat) : Int)))]) ⟨rfl, rfl, rfl, rfl, trivial⟩ (List.Perm.refl _) ?_
    refine C_loop (fun n H' M' L' => ∃ (k102 : Nat) (zs136' : Nat), k102 + zs136' = ((p0_s1.length : Int) : Int).toNat ∧ zs136' = n ∧ forN (fun k s131 n => m_slices_Equal_string_string_b1 p0_s1 p1_s2 k n) (fun _ => some true) zs136' k102 () = some r ∧ H.le H' ∧ M = M' ∧ [(0, v0), (1, v1), (12, .int .i64 ((p0_s1.length : Int))), (13, .int .i64 ((k102 : Int)))] = L') _ ⟨0, _, Nat.zero_add _, rfl, hm, (Hp.le_refl _), rfl, rfl⟩ ?_
    rintro _ H129 _ _ ⟨k102, zs136', hd138, rfl, hm, hle130, rfl, rfl⟩
    refine C_seq ?_
    refine C_region ?_
    refine W_bin rfl rfl rfl rfl rfl ?_
    refine W_end (E_then ?_)
    refine C_seq ?_
    refine C_cond (b := decide ((k102 : Int) < (p0_s1.length : Int))) rfl (fun hb140 => ?_) (fun hb140 => ?_)
    · obtain ⟨zs136, rfl, hd139, hy137⟩ := rngN_t hd138 hb140
      have hm : m_slices_Equal_string_string_b1 p0_s1 p1_s2 k102 (forN (fun k s131 n => m_slices_Equal_string_string_b1 p0_s1 p1_s2 k n) (fun _ => some true) zs136 (k102 + 1)) = some r := hm
      generalize hn133 : forN (fun k s131 n => m_slices_Equal_string_string_b1 p0_s1 p1_s2 k n) (fun _ => some true) zs136 (k102 + 1) = nx132 at hm
      unfold m_slices_Equal_string_string_b1 at hm
      refine C_skip (E_then ?_)
      refine C_seq ?_
      refine C_block ?_
      refine C_seq ?_
      refine C_region ?_
      refine W_move rfl rfl rfl ?_
      refine W_assign rfl rfl rfl ?_
      refine W_end ?_
      refine E_then ?_
      refine C_seq ?_
      obtain ⟨y141, h142, he143, hm⟩ := idx_some hm
      obtain ⟨_, rfl, hc144⟩ := (h0).elem he143
      obtain ⟨y145, h146, he147, hm⟩ := idx_some hm
      obtain ⟨_, rfl, hc148⟩ := (h1).elem he147
      refine C_region_tok0 8 (phiT [(fun H rs v => [] = rs ∧ v0 = v), (fun H rs v => [] = rs ∧ .int .i64 ((k102 : Int)) = v), (fun H rs v => [] = rs ∧ .pointer (some ((Value.base (v0)).add (((k102 : Int) : Int).toNat * 1))) = v), (fun H rs v => [] = rs ∧ .string (y141) = v), (fun H rs v => [] = rs ∧ v1 = v), (fun H rs v => [] = rs ∧ .int .i64 ((k102 : Int)) = v), (fun H rs v => [] = rs ∧ .pointer (some ((Value.base (v1)).add (((k102 : Int) : Int).toNat * 1))) = v), (fun H rs v => [] = rs ∧ .string (y145) = v)]) [[], [], [], [], [], [], [], []] [[], [], [], [], [], [], [], []] [] [0, 1, 2, 3, 4, 5, 6, 7] Facts.mixed (by kernel_rfl) rfl rfl rfl (by kernel_rfl) (phiT_mono ⟨eq_monoT _ _, eq_monoT _ _, eq_monoT _ _, eq_monoT _ _, eq_monoT _ _, eq_monoT _ _, eq_monoT _ _, eq_monoT _ _, trivial⟩) ⟨?_, ?_, ?_, ?_, ?_, ?_, ?_, ?_, trivial⟩ ?_
      · intro HX hX X Rest hR
        intro hU
        refine W_move rfl rfl rfl ?_
        exact W_end (OneT_end [] (Hp.le_refl _) ⟨rfl, rfl⟩)
      · intro HX hX X Rest hR
        intro hU
        refine W_move rfl rfl rfl ?_
        exact W_end (OneT_end [] (Hp.le_refl _) ⟨rfl, rfl⟩)
      · intro HX hX X Rest hR
        rintro _ _ ⟨rfl, rfl⟩
        rintro _ _ ⟨rfl, rfl⟩
        intro hU
        refine W_indexS rfl rfl Proofs.Try.runUnderlying33 Proofs.Try.sizeOf9 rfl ((h0.mono hle130).mono hX) rfl h142 he143 ?_
        exact W_end (OneT_end [] (Hp.le_refl _) ⟨rfl, rfl⟩)
      · intro HX hX X Rest hR
        rintro _ _ ⟨rfl, rfl⟩
        intro hU
        refine W_load rfl rfl Proofs.Try.isAgg9 rfl (HCells.one ((hc144.mono hle130).mono hX) 0 rfl).at ?_
        exact W_end (OneT_end [] (Hp.le_refl _) ⟨rfl, rfl⟩)
      · intro HX hX X Rest hR
        intro hU
        refine W_move rfl rfl rfl ?_
        exact W_end (OneT_end [] (Hp.le_refl _) ⟨rfl, rfl⟩)
      · intro HX hX X Rest hR
        intro hU
        refine W_move rfl rfl rfl ?_
        exact W_end (OneT_end [] (Hp.le_refl _) ⟨rfl, rfl⟩)
      · intro HX hX X Rest hR
        rintro _ _ ⟨rfl, rfl⟩
        rintro _ _ ⟨rfl, rfl⟩
        intro hU
        refine W_indexS rfl rfl Proofs.Try.runUnderlying33 Proofs.Try.sizeOf9 rfl ((h1.mono hle130).mono hX) rfl h146 he147 ?_
        exact W_end (OneT_end [] (Hp.le_refl _) ⟨rfl, rfl⟩)
      · intro HX hX X Rest hR
        rintro _ _ ⟨rfl, rfl⟩
        intro hU
        refine W_load rfl rfl Proofs.Try.isAgg9 rfl (HCells.one ((hc148.mono hle130).mono hX) 0 rfl).at ?_
        exact W_end (OneT_end [] (Hp.le_refl _) ⟨rfl, rfl⟩)
      intro H149 hle150
      rintro _ _ ⟨rfl, rfl⟩
      rintro _ _ ⟨rfl, rfl⟩
      rintro _ _ ⟨rfl, rfl⟩
      rintro _ _ ⟨rfl, rfl⟩
      rintro _ _ ⟨rfl, rfl⟩
      rintro _ _ ⟨rfl, rfl⟩
      rintro _ _ ⟨rfl, rfl⟩
      rintro _ _ ⟨rfl, rfl⟩
      refine W_bin rfl rfl rfl rfl rfl ?_
      refine W_end ?_
      refine E_then ?_
      refine C_cond (b := !decide (y141 = y145)) rfl (fun hb151 => ?_) (fun hb151 => ?_)
      · have hm := ite_t' hb151 hm
        refine C_seq ?_
        refine C_region ?_
        refine W_assign rfl rfl rfl ?_
        refine W_end ?_
        refine E_then ?_
        refine C_ret ?_
        refine E_ret_block ?_
        refine E_ret_then ?_
        refine E_ret_then ?_
        refine E_ret_block ?_
        refine E_ret_then ?_
        obtain rfl := Option.some.inj hm
        refine E_weak (Hp.le_trans hle130 hle150) ?_
        exact end1 rfl rfl ⟨rfl, rfl, rfl⟩
      · have hm := ite_f' hb151 hm
        refine C_skip ?_
        refine E_normal_block ?_
        refine E_then ?_
        refine C_region ?_
        refine W_bin rfl rfl rfl rfl rfl ?_
        refine W_move rfl rfl rfl ?_
        refine W_end ?_
        exact E_keepJ (E_back (Nat.lt_succ_self _) ⟨k102 + 1, zs136, hd139, rfl, (by rw [hn133]; exact hm), (Hp.le_trans hle130 hle150), rfl, rfl⟩) (List.Perm.refl _) ⟨rfl, rfl, rfl, (congrArg (fun z => some (Value.int .i64 z)) (i64_succN hy137 (toNat_max (len_max (h0).lenMax)))), trivial⟩
    · obtain rfl := rngN_f hd138 hb140
      have hm : (some true) = some r := hm
      refine C_exit (E_exit_then ?_)
      refine E_exit_then ?_
      refine E_exit_hit ?_
      refine E_then ?_
      refine C_seq ?_
      refine C_region ?_
      refine W_assign rfl rfl rfl ?_
      refine W_end ?_
      refine E_then ?_
      refine C_ret ?_
      obtain rfl := Option.some.inj hm
      refine E_weak hle130 ?_
      exact end1 rfl rfl ⟨rfl, rfl, rfl⟩

theorem m_gridhallkeep4_permitFact_c {B : Nat} {w0 w : World} {H : Hp} {M : List Res} {r : Bool} (hm : m_gridhallkeep4_permitFact = some r) (ht : St B w0 H (M) w) :
    Calls Proofs.Try.prog 11 [].toArray w (Ret B w0 fun H' M' v => H = H' ∧ M = M' ∧ .bool (r) = v) := by
  unfold m_gridhallkeep4_permitFact at hm
  refine enter Proofs.Try.func11 rfl rfl rfl ht ?_
  refine C_seq ?_
  refine C_region ?_
  refine W_assign rfl rfl rfl ?_
  refine W_end ?_
  refine E_then ?_
  refine C_seq ?_
  refine C_region ?_
  refine W_buildSliceO (α := ByteArray) (css := [[.string (⟨#[65]⟩)], [.string (⟨#[66]⟩)]]) (zs := [.string (⟨#[]⟩), .string (⟨#[]⟩)]) (out := [.string (⟨#[65]⟩), .string (⟨#[66]⟩)]) (ys := [(⟨#[65]⟩), (⟨#[66]⟩)]) rfl rfl rfl ⟨rfl, rfl, trivial⟩ Proofs.Try.runUnderlying33 Proofs.Try.sizeOf9 rfl Proofs.Try.zeroValue9 (by kernel_rfl) rfl rfl rfl rfl ⟨[.string (⟨#[65]⟩)], [.string (⟨#[66]⟩)], rfl, rfl, ⟨[.string (⟨#[66]⟩)], [], rfl, rfl, rfl⟩⟩ rfl ?_
  intro v101 xs102 hr103
  refine W_freeze (hr103).rd rfl (fun H104 hle105 h106 => ?_)
  obtain ⟨r107, hc108, hm⟩ := bind_some hm
  refine W_call Proofs.Try.call10 rfl rfl rfl (fun w ht => by have h := m_permit_New_c (hm := hc108) h106 ht; exact h) ?_
  rintro _ H122 _ (⟨hn116, hle118, rfl, rfl⟩ | ⟨sp109, hn119, hle121, b110, v111, v113, xs114, rfl, rfl, h112, h115⟩)
  · have hm := optC_n hn116 hm
    refine W_move rfl rfl rfl ?_
    refine W_extract rfl rfl rfl rfl ?_
    refine W_extract rfl rfl rfl rfl ?_
    refine W_assign rfl rfl rfl ?_
    refine W_assign rfl rfl rfl ?_
    refine W_end ?_
    refine E_then ?_
    refine C_seq ?_
    refine C_seq_join (fun H' M' L' => H122 = H' ∧ M = M' ∧ [(1, .pointer none), (15, .bool (true))] = L') ?_ (fun J124 => ?_)
    · rintro _ _ _ ⟨rfl, rfl, rfl⟩
      refine C_cond (b := true) rfl (fun _ => ?_) (fun hb => Bool.noConfusion hb)
      refine C_seq ?_
      refine C_region ?_
      refine W_assign rfl rfl rfl ?_
      refine W_end ?_
      refine E_then ?_
      refine C_ret ?_
      refine E_ret_then ?_
      obtain rfl := Option.some.inj hm
      refine E_weak (Hp.le_trans hle105 hle118) ?_
      exact end1 rfl rfl ⟨rfl, rfl, rfl⟩
    · refine C_region ?_
      refine W_move rfl rfl rfl ?_
      refine W_bin rfl rfl rfl rfl rfl ?_
      refine W_move rfl rfl rfl ?_
      cases hb125 : (decide (r107.2 = 0))
      · refine W_no rfl rfl rfl ?_
        refine W_no rfl rfl rfl ?_
        refine W_pick rfl rfl rfl rfl ?_
        refine W_end ?_
        exact E_keepJ (J124 _ _ _ ⟨rfl, rfl, rfl⟩) (List.Perm.refl _) ⟨rfl, rfl, trivial⟩
      · refine W_move rfl rfl rfl ?_
        refine W_ptrNil rfl rfl Proofs.Try.runUnderlying34 rfl rfl ?_
        refine W_pick rfl rfl rfl rfl ?_
        refine W_end ?_
        exact E_keepJ (J124 _ _ _ ⟨rfl, rfl, rfl⟩) (List.Perm.refl _) ⟨rfl, rfl, trivial⟩
  · have hm := optC_s hn119 hm
    refine W_move rfl rfl rfl ?_
    refine W_extract rfl rfl rfl rfl ?_
    refine W_extract rfl rfl rfl rfl ?_
    refine W_assign rfl rfl rfl ?_
    refine W_assign rfl rfl rfl ?_
    refine W_end ?_
    refine E_then ?_
    refine C_seq ?_
    refine C_seq_join (fun H' M' L' => H122 = H' ∧ .obj b110 (.cells [v111, v113, .int .i64 (sp109.last)].toArray 63 (0, 0)) :: .row v113 43 (Rep.sz S_api_PermitPaper) sp109.papers.length xs114 :: M = M' ∧ [(1, .pointer (some ⟨b110, 0, none⟩)), (15, .bool (!decide (r107.2 = 0)))] = L') ?_ (fun J127 => ?_)
    · rintro _ _ _ ⟨rfl, rfl, rfl⟩
      refine C_cond (b := !decide (r107.2 = 0)) rfl (fun hb128 => ?_) (fun hb128 => ?_)
      · have hm := ite_t' hb128 hm
        refine C_seq ?_
        refine C_region ?_
        refine W_assign rfl rfl rfl ?_
        refine W_end ?_
        refine E_then ?_
        refine C_ret ?_
        refine E_ret_then ?_
        obtain rfl := Option.some.inj hm
        refine E_drop (List.Sublist.cons _ (List.Sublist.cons _ (List.Sublist.refl _))) ?_
        refine E_weak (Hp.le_trans hle105 hle121) ?_
        exact end1 rfl rfl ⟨rfl, rfl, rfl⟩
      · have hm := ite_f' hb128 hm
        refine C_skip ?_
        refine E_then ?_
        refine C_seq ?_
        refine C_region ?_
        refine W_move rfl rfl rfl ?_
        refine W_buildSliceO (α := ByteArray) (css := [[.string (⟨#[66]⟩)]]) (zs := [.string (⟨#[]⟩)]) (out := [.string (⟨#[66]⟩)]) (ys := [(⟨#[66]⟩)]) rfl rfl rfl ⟨rfl, trivial⟩ Proofs.Try.runUnderlying33 Proofs.Try.sizeOf9 rfl Proofs.Try.zeroValue9 (by kernel_rfl) rfl rfl rfl rfl ⟨[.string (⟨#[66]⟩)], [], rfl, rfl, rfl⟩ rfl ?_
        intro v129 xs130 hr131
        refine W_freeze (hr131).rd rfl (fun H132 hle133 h134 => ?_)
        obtain ⟨r135, hc136, hm⟩ := bind_some hm
        refine W_call Proofs.Try.call13 rfl rfl rfl (fun w ht => by have h := m_permit_Desk_Issue_c (hm := hc136) (h112.mono hle133) (h115.mono hle133) h134 ht; exact h) ?_
        rintro _ H143 _ ⟨hle144, v138, v140, xs141, rfl, rfl, h139, h142⟩
        refine W_move rfl rfl rfl ?_
        refine W_extract rfl rfl rfl rfl ?_
        refine W_extract rfl rfl rfl rfl ?_
        refine W_assign rfl rfl rfl ?_
        refine W_assign rfl rfl rfl ?_
        refine W_end ?_
        refine E_then ?_
        refine C_seq ?_
        refine C_region ?_
        refine W_move rfl rfl rfl ?_
        refine W_bin rfl rfl rfl rfl rfl ?_
        refine W_move rfl rfl rfl ?_
        cases hb145 : (decide (r135.2.1 = 0))
        · have hm := ite_f' hb145 hm
          refine W_no rfl rfl rfl ?_
          refine W_no rfl rfl rfl ?_
          refine W_pick rfl rfl rfl rfl ?_
          refine W_move rfl rfl rfl ?_
          refine W_no rfl rfl rfl ?_
          refine W_no rfl rfl rfl ?_
          refine W_no rfl rfl rfl ?_
          refine W_no rfl rfl rfl ?_
          refine W_pick rfl rfl rfl rfl ?_
          refine W_assign rfl rfl rfl ?_
          refine W_end ?_
          refine E_then ?_
          refine C_ret ?_
          obtain rfl := Option.some.inj hm
          refine E_drop (List.Sublist.cons _ (List.Sublist.cons _ (List.Sublist.refl _))) ?_
          refine E_weak (Hp.le_trans (Hp.le_trans (Hp.le_trans hle105 hle121) hle133) hle144) ?_
          exact end1 rfl rfl ⟨rfl, rfl, rfl⟩
        · have hm := ite_t' hb145 hm
          refine W_move rfl rfl rfl ?_
          refine W_bin rfl rfl rfl rfl rfl ?_
          refine W_pick rfl rfl rfl rfl ?_
          refine W_move rfl rfl rfl ?_
          cases hb146 : (decide (r135.1 = 1))
          · have hm := ite_f' hb146 hm
            refine W_no rfl rfl rfl ?_
            refine W_no rfl rfl rfl ?_
            refine W_no rfl rfl rfl ?_
            refine W_no rfl rfl rfl ?_
            refine W_pick rfl rfl rfl rfl ?_
            refine W_assign rfl rfl rfl ?_
            refine W_end ?_
            refine E_then ?_
            refine C_ret ?_
            obtain rfl := Option.some.inj hm
            refine E_drop (List.Sublist.cons _ (List.Sublist.cons _ (List.Sublist.refl _))) ?_
            refine E_weak (Hp.le_trans (Hp.le_trans (Hp.le_trans hle105 hle121) hle133) hle144) ?_
            exact end1 rfl rfl ⟨rfl, rfl, rfl⟩
          · have hm := ite_t' hb146 hm
            refine W_move rfl rfl rfl ?_
            obtain ⟨r147, hc148, hm⟩ := bind_some hm
            refine W_call Proofs.Try.call15 rfl rfl rfl (fun w ht => by have h := m_permit_Desk_Held_c (hm := hc148) h139 h142 ht; exact h) ?_
            rintro _ _ _ ⟨rfl, v149, xs150, rfl, rfl, h151⟩
            have h151 := h151 H143
            refine W_buildSliceO (α := ByteArray) (css := [[.string (⟨#[66]⟩)]]) (zs := [.string (⟨#[]⟩)]) (out := [.string (⟨#[66]⟩)]) (ys := [(⟨#[66]⟩)]) rfl rfl rfl ⟨rfl, trivial⟩ Proofs.Try.runUnderlying33 Proofs.Try.sizeOf9 rfl Proofs.Try.zeroValue9 (by kernel_rfl) rfl rfl rfl rfl ⟨[.string (⟨#[66]⟩)], [], rfl, rfl, rfl⟩ rfl ?_
            intro v152 xs153 hr154
            refine W_perm (List.Perm.swap _ _ _) ?_
            obtain ⟨r155, hc156, hm⟩ := bind_some hm
            refine W_call Proofs.Try.call24 rfl rfl rfl (fun w ht => by obtain ⟨H0_, hl0_, ht0_, hr0_, bk0_⟩ := ht.lendRow h151 rfl; obtain ⟨H1_, hl1_, ht1_, hr1_, bk1_⟩ := ht0_.lendRow (hr154.mono hl0_) rfl; have h := m_slices_Equal_string_string_c (hm := hc156) (hr0_.mono hl1_) hr1_ ht1_; exact lend_back bk0_ (lend_back bk1_ (h))) ?_
            rintro _ _ _ ⟨rfl, ⟨_, rfl, ⟨_, rfl, rfl, rfl⟩⟩⟩
            refine W_pick rfl rfl rfl rfl ?_
            refine W_assign rfl rfl rfl ?_
            refine W_end ?_
            refine E_then ?_
            refine C_ret ?_
            obtain rfl := Option.some.inj hm
            refine E_drop (List.Sublist.cons _ (List.Sublist.cons _ (List.Sublist.cons _ (List.Sublist.cons _ (List.Sublist.refl _))))) ?_
            refine E_weak (Hp.le_trans (Hp.le_trans (Hp.le_trans hle105 hle121) hle133) hle144) ?_
            exact end1 rfl rfl ⟨rfl, rfl, rfl⟩
    · refine C_region ?_
      refine W_move rfl rfl rfl ?_
      refine W_bin rfl rfl rfl rfl rfl ?_
      refine W_move rfl rfl rfl ?_
      cases hb157 : (decide (r107.2 = 0))
      · refine W_no rfl rfl rfl ?_
        refine W_no rfl rfl rfl ?_
        refine W_pick rfl rfl rfl rfl ?_
        refine W_end ?_
        exact E_keepJ (J127 _ _ _ ⟨rfl, rfl, rfl⟩) (List.Perm.refl _) ⟨rfl, (by show some (Value.bool (true)) = some (Value.bool (!decide (r107.2 = 0))); simp only [hb157, Bool.and_true, Bool.true_and, Bool.false_and, Bool.and_false, Bool.or_true, Bool.true_or, Bool.or_false, Bool.false_or, Bool.not_true, Bool.not_false]), trivial⟩
      · refine W_move rfl rfl rfl ?_
        refine W_ptrNil rfl rfl Proofs.Try.runUnderlying34 rfl rfl ?_
        refine W_pick rfl rfl rfl rfl ?_
        refine W_end ?_
        exact E_keepJ (J127 _ _ _ ⟨rfl, rfl, rfl⟩) (List.Perm.refl _) ⟨rfl, (by show some (Value.bool (false)) = some (Value.bool (!decide (r107.2 = 0))); simp only [hb157, Bool.and_true, Bool.true_and, Bool.false_and, Bool.and_false, Bool.or_true, Bool.true_or, Bool.or_false, Bool.false_or, Bool.not_true, Bool.not_false]), trivial⟩

theorem clone29_c {B : Nat} {w0 w : World} {H : Hp} {M : List Res} {s : List S_api_PermitPaper} {v0 : Value} (h0 : RdS H v0 s) (hz : s.length * 48 ≤ 140737488355328) (ht : St B w0 H M w) :
    Calls Proofs.Try.prog 29 [v0].toArray w (Ret B w0 fun H' M' v => H = H' ∧ ∃ (v' : Value) (xs' : List Value), .row v' 43 (Rep.sz S_api_PermitPaper) s.length xs' :: M = M' ∧ v' = v ∧ Rw H v' xs' s) := by
  refine enter Proofs.Try.func29 rfl rfl rfl ht ?_
  obtain ⟨o, n, c, rfl⟩ := h0.shape
  refine C_seq ?_
  refine C_region ?_
  refine W_assign rfl rfl rfl ?_
  refine W_end (E_then ?_)
  refine C_seq ?_
  refine C_seq ?_
  refine C_region ?_
  refine W_move rfl rfl rfl ?_
  refine W_eqNil rfl rfl Proofs.Try.runUnderlying40 rfl rfl ?_
  refine W_end (E_then ?_)
  cases o with
  | none =>
    refine C_cond (b := true) rfl (fun _ => ?_) (fun hb => Bool.noConfusion hb)
    obtain rfl := h0.isNil
    refine C_seq ?_
    refine C_region ?_
    refine W_assign rfl rfl rfl ?_
    refine W_end (E_then ?_)
    refine C_ret (E_ret_then ?_)
    refine E_nilRow 43 (Rep.sz S_api_PermitPaper) ?_
    exact end1 rfl rfl ⟨rfl, .slice none 0 0, [], rfl, rfl, Rw.nil⟩
  | some a =>
    refine C_cond (b := false) rfl (fun hb => Bool.noConfusion hb) (fun _ => ?_)
    refine C_skip (E_then ?_)
    refine C_seq ?_
    refine C_region ?_
    refine W_build0 S_api_PermitPaper rfl rfl Proofs.Try.runUnderlying40 Proofs.Try.sizeOf43 ?_
    intro v1 xs1 h1
    refine W_move rfl rfl rfl ?_
    refine W_appendO (α := S_api_PermitPaper) (l := []) (ys := s) (bytes := 48) rfl rfl Proofs.Try.underlying40 ⟨_, rfl, rfl, rfl, rfl⟩ rfl rfl rfl rfl rfl h1 h0 (by simpa using hz) ?_
    intro v2 xs2 h2
    refine W_assign rfl rfl rfl ?_
    refine W_end (E_then ?_)
    refine C_ret ?_
    exact end1 rfl rfl ⟨rfl, v2, xs2, rfl, rfl, h2⟩

theorem cloneR29_c {B : Nat} {w0 w : World} {H : Hp} {M : List Res} {s : Nat} {cs : List Value} {v0 : Value} (h0 : SlC H v0 s (Rep.sz S_api_PermitPaper) cs) (hz : s * 48 ≤ 140737488355328) (ht : St B w0 H M w) :
    Calls Proofs.Try.prog 29 [v0].toArray w (Ret B w0 fun H' M' v => H = H' ∧ ∃ (v' : Value), .row v' 43 (Rep.sz S_api_PermitPaper) s cs :: M = M' ∧ v' = v ∧ ∃ a n c, v' = .slice a n c) := by
  refine enter Proofs.Try.func29 rfl rfl rfl ht ?_
  obtain ⟨o, c, rfl⟩ := h0.shape
  refine C_seq ?_
  refine C_region ?_
  refine W_assign rfl rfl rfl ?_
  refine W_end (E_then ?_)
  refine C_seq ?_
  refine C_seq ?_
  refine C_region ?_
  refine W_move rfl rfl rfl ?_
  refine W_eqNil rfl rfl Proofs.Try.runUnderlying40 rfl rfl ?_
  refine W_end (E_then ?_)
  cases o with
  | none =>
    refine C_cond (b := true) rfl (fun _ => ?_) (fun hb => Bool.noConfusion hb)
    obtain ⟨rfl, rfl⟩ := h0.isNil
    refine C_seq ?_
    refine C_region ?_
    refine W_assign rfl rfl rfl ?_
    refine W_end (E_then ?_)
    refine C_ret (E_ret_then ?_)
    refine E_nilRow 43 (Rep.sz S_api_PermitPaper) ?_
    exact end1 rfl rfl ⟨rfl, .slice none 0 0, rfl, rfl, _, _, _, rfl⟩
  | some a =>
    refine C_cond (b := false) rfl (fun hb => Bool.noConfusion hb) (fun _ => ?_)
    refine C_skip (E_then ?_)
    refine C_seq ?_
    refine C_region ?_
    refine W_build0 S_api_PermitPaper rfl rfl Proofs.Try.runUnderlying40 Proofs.Try.sizeOf43 ?_
    intro v1 xs1 h1
    have hx1 : xs1 = [] := h1.rd
    subst hx1
    refine W_move rfl rfl rfl ?_
    refine W_as (M' := .row v1 43 (Rep.sz S_api_PermitPaper) 0 [] :: M) rfl ?_
    refine W_appendRaw (sz := Rep.sz S_api_PermitPaper) (m := s) (news := cs) (bytes := 48) rfl rfl Proofs.Try.underlying40 ⟨_, rfl, rfl, rfl, rfl⟩ rfl rfl rfl rfl rfl h0 (by rw [Nat.zero_add]; exact hz) ?_
    intro v2 h2
    rw [Nat.zero_add, List.nil_append]
    refine W_assign rfl rfl rfl ?_
    refine W_end (E_then ?_)
    refine C_ret ?_
    exact end1 rfl rfl ⟨rfl, v2, rfl, rfl, h2⟩

theorem m_permit_Desk_Papers_c {B : Nat} {w0 w : World} {H : Hp} {M : List Res} {p0_d : S_permit_Desk} {b0 : Nat} {v0 : Value} {v1 : Value} {xs0 : List Value} {r : (List S_api_PermitPaper)} (hm : m_permit_Desk_Papers p0_d = some r) (h0 : RdS H v0 p0_d.devices) (h1 : Rw H v1 xs0 p0_d.papers) (ht : St B w0 H (.obj b0 (.cells [v0, v1, .int .i64 (p0_d.last)].toArray 63 (0, 0)) :: .row v1 43 (Rep.sz S_api_PermitPaper) p0_d.papers.length xs0 :: M) w) :
    Calls Proofs.Try.prog 14 [.pointer (some ⟨b0, 0, none⟩)].toArray w (Ret B w0 fun H' M' v => H.le H' ∧ ∃ qv0 : Value, ∃ qxs0 : List Value, .row qv0 43 (Rep.sz S_api_PermitPaper) r.length qxs0 :: .obj b0 (.cells [v0, v1, .int .i64 (p0_d.last)].toArray 63 (0, 0)) :: .row v1 43 (Rep.sz S_api_PermitPaper) p0_d.papers.length xs0 :: M = M' ∧ qv0 = v ∧ Rw H' qv0 qxs0 r) := by
  unfold m_permit_Desk_Papers at hm
  refine enter Proofs.Try.func14 rfl rfl rfl ht ?_
  refine C_seq ?_
  refine C_region ?_
  refine W_assign rfl rfl rfl ?_
  refine W_end ?_
  refine E_then ?_
  refine C_seq ?_
  refine C_region ?_
  refine W_move rfl rfl rfl ?_
  refine W_nilCheck rfl rfl rfl ?_
  refine W_field (o := 1) rfl rfl Proofs.Try.runUnderlying63 rfl Proofs.Try.sizeOf40 rfl rfl rfl ?_
  refine W_load rfl rfl Proofs.Try.isAgg40 rfl (own_at (List.mem_cons_self ..) rfl) ?_
  obtain ⟨hz101, hm⟩ := need_some hm
  refine W_perm (List.Perm.swap _ _ _) ?_
  refine W_call Proofs.Try.call29 rfl rfl rfl (fun w ht => by obtain ⟨H0_, hl0_, ht0_, hr0_, bk0_⟩ := ht.lendRowC h1 rfl; have h := cloneR29_c hr0_ hz101 ht0_; exact lend_back bk0_ h) ?_
  rintro _ _ _ ⟨rfl, _, rfl, v102, rfl, rfl, hsl104⟩
  have hr103 : Rw _ v102 xs0 p0_d.papers := ⟨(h1).rd, hsl104⟩
  refine W_assign rfl rfl rfl ?_
  refine W_end ?_
  refine E_then ?_
  refine C_seq ?_
  refine C_seq ?_
  refine C_region ?_
  refine W_move rfl rfl rfl ?_
  refine W_lenO (List.mem_cons_of_mem _ (List.mem_cons_self ..)) rfl rfl Proofs.Try.runUnderlying40 rfl ?_
  refine W_move rfl rfl rfl ?_
  refine W_end ?_
  refine E_then ?_
  refine C_block ?_
  refine C_rowMax (List.mem_cons_of_mem _ (List.mem_cons_self ..)) (fun hmx174 => ?_)
  refine C_keep (L' := [(3, v102), (11, .int .i64 ((p0_d.papers.length : Int))), (12, .int .i64 (((0 : Nat) : Int)))]) ⟨rfl, rfl, rfl, trivial⟩ (List.Perm.swap _ _ _) ?_
  refine C_loop (fun n H' M' L' => ∃ (k105 : Nat) (zs176' : Nat), ∃ l166 : List S_api_PermitPaper, ∃ xs165 : List Value, k105 + zs176' = ((p0_d.papers.length : Int) : Int).toNat ∧ zs176' = n ∧ forN (fun k s170 n => m_permit_Desk_Papers_b1 k s170 n) (fun s170 => some s170) zs176' k105 l166 = some r ∧ Rw H' v102 xs165 l166 ∧ H.le H' ∧ .row v102 43 (Rep.sz S_api_PermitPaper) l166.length xs165 :: .row v1 43 (Rep.sz S_api_PermitPaper) p0_d.papers.length xs0 :: .obj b0 (.cells [v0, v1, .int .i64 (p0_d.last)].toArray 63 (0, 0)) :: M = M' ∧ [(3, v102), (11, .int .i64 ((p0_d.papers.length : Int))), (12, .int .i64 ((k105 : Int)))] = L') _ ⟨0, _, p0_d.papers, xs0, Nat.zero_add _, rfl, hm, hr103, (Hp.le_refl _), rfl, rfl⟩ ?_
  rintro _ H168 _ _ ⟨k105, zs176', l166, xs165, hd178, rfl, hm, hr167, hle169, rfl, rfl⟩
  refine C_seq ?_
  refine C_region ?_
  refine W_bin rfl rfl rfl rfl rfl ?_
  refine W_end (E_then ?_)
  refine C_seq ?_
  refine C_cond (b := decide ((k105 : Int) < (p0_d.papers.length : Int))) rfl (fun hb180 => ?_) (fun hb180 => ?_)
  · obtain ⟨zs176, rfl, hd179, hy177⟩ := rngN_t hd178 hb180
    have hm : m_permit_Desk_Papers_b1 k105 l166 (forN (fun k s170 n => m_permit_Desk_Papers_b1 k s170 n) (fun s170 => some s170) zs176 (k105 + 1)) = some r := hm
    generalize hn172 : forN (fun k s170 n => m_permit_Desk_Papers_b1 k s170 n) (fun s170 => some s170) zs176 (k105 + 1) = nx171 at hm
    unfold m_permit_Desk_Papers_b1 at hm
    refine C_skip (E_then ?_)
    refine C_seq ?_
    refine C_block ?_
    refine C_seq ?_
    refine C_region ?_
    refine W_move rfl rfl rfl ?_
    refine W_assign rfl rfl rfl ?_
    refine W_end ?_
    refine E_then ?_
    refine C_region ?_
    refine W_move rfl rfl rfl ?_
    refine W_move rfl rfl rfl ?_
    refine W_move rfl rfl rfl ?_
    refine W_move rfl rfl rfl ?_
    obtain ⟨y181, h182, he183, hm⟩ := idx_some hm
    refine W_indexO (List.mem_cons_self ..) rfl rfl Proofs.Try.runUnderlying40 Proofs.Try.sizeOf43 rfl rfl h182 (List.getElem?_eq_some_iff.1 he183).1 ?_
    obtain ⟨_, ⟨v185, rfl, h186⟩, hg184⟩ := (hr167).elem he183
    refine W_field (o := 2) rfl rfl Proofs.Try.runUnderlying43 rfl Proofs.Try.sizeOf33 rfl rfl rfl ?_
    refine W_load rfl rfl Proofs.Try.isAgg33 rfl (row_one (o := 2) (List.mem_cons_self ..) hg184 rfl) ?_
    obtain ⟨hz187, hm⟩ := need_some hm
    refine W_call Proofs.Try.call23 rfl rfl rfl (fun w ht => by have h := clone23_c (s := y181.Devices) h186 hz187 ht; exact h) ?_
    rintro _ _ _ ⟨rfl, v188, xs189, rfl, rfl, hr190⟩
    have hr190 := hr190 H168
    obtain ⟨y191, h192, he193, hm⟩ := idx_some hm
    refine W_indexO (List.mem_cons_of_mem _ (List.mem_cons_self ..)) rfl rfl Proofs.Try.runUnderlying40 Proofs.Try.sizeOf43 rfl rfl h192 (List.getElem?_eq_some_iff.1 he193).1 ?_
    obtain ⟨_, ⟨v195, rfl, h196⟩, hg194⟩ := (hr167).elem he193
    refine W_field (o := 2) rfl rfl Proofs.Try.runUnderlying43 rfl Proofs.Try.sizeOf33 rfl rfl rfl ?_
    refine W_freeze (hr190).rd rfl (fun H197 hle198 h199 => ?_)
    obtain ⟨hr200, he201, hg202⟩ := Rw.put (cs := [v188]) (o := 2) (c := [.int .i64 (y191.Number), .string (y191.Holder), v195]) (out := [.int .i64 (y191.Number), .string (y191.Holder), v188]) (e2 := (S_api_PermitPaper.mk y191.Number y191.Holder y181.Devices)) (hr167.mono hle198) he193 ⟨v195, rfl, (h196.mono hle198)⟩ hg194 rfl rfl ⟨v188, rfl, h199⟩
    refine W_storeO2 (i := ((k105 : Int) : Int).toNat * Rep.sz S_api_PermitPaper + 2) (cs := [v188]) rfl Proofs.Try.sizeOf33 rfl (row_ad _ _ _) rfl (RdS.cells h199) rfl (Rw.room (hr167.mono hle198) he193 rfl) rfl (all_cons (RdS.one1 h199) all_nil) (n' := (l166.set (((k105 : Int) : Int).toNat) (S_api_PermitPaper.mk y191.Number y191.Holder y181.Devices)).length) List.length_set ?_
    generalize over xs165 (((k105 : Int) : Int).toNat * Rep.sz S_api_PermitPaper + 2) [v188] = xs203 at hr200 hg202 ⊢
    refine W_end ?_
    refine E_normal_block ?_
    refine E_then ?_
    refine C_region ?_
    refine W_bin rfl rfl rfl rfl rfl ?_
    refine W_move rfl rfl rfl ?_
    refine W_end ?_
    exact E_keepJ (E_back (Nat.lt_succ_self _) ⟨k105 + 1, zs176, (l166.set (((k105 : Int) : Int).toNat) (S_api_PermitPaper.mk y191.Number y191.Holder y181.Devices)), xs203, hd179, rfl, (by rw [hn172]; exact hm), hr200, (Hp.le_trans hle169 hle198), rfl, rfl⟩) (List.Perm.refl _) ⟨rfl, rfl, (congrArg (fun z => some (Value.int .i64 z)) (i64_succN hy177 (toNat_max (len_max hmx174)))), trivial⟩
  · obtain rfl := rngN_f hd178 hb180
    have hm : (some l166) = some r := hm
    refine C_exit (E_exit_then ?_)
    refine E_exit_then ?_
    refine E_exit_hit ?_
    refine E_then ?_
    refine C_seq ?_
    refine C_region ?_
    refine W_move rfl rfl rfl ?_
    refine W_assign rfl rfl rfl ?_
    refine W_end ?_
    refine E_then ?_
    refine C_ret ?_
    obtain rfl := Option.some.inj hm
    refine E_perm (List.Perm.cons _ (List.Perm.swap _ _ _)) ?_
    exact end1 rfl rfl ⟨hle169, v102, xs165, rfl, rfl, hr167⟩

theorem m_permit_Desk_find_1_c {B : Nat} {w0 w : World} {H : Hp} {M : List Res} {p0_p : S_api_PermitPaper} {p1_c1 : Int} {v0 : Value} {b0 : Nat} {r : Bool} (hm : m_permit_Desk_find_1 p0_p p1_c1 = r) (h0 : RdS H v0 p0_p.Devices) (ht : St B w0 H (.obj b0 (.cells [.int .i64 (p1_c1)].toArray 3 (0, 0)) :: M) w) :
    Calls Proofs.Try.prog 40 [.agg [.int .i64 (p0_p.Number), .string (p0_p.Holder), v0].toArray, .pointer (some ⟨b0, 0, none⟩)].toArray w (Ret B w0 fun H' M' v => H = H' ∧ .obj b0 (.cells [.int .i64 (p1_c1)].toArray 3 (0, 0)) :: M = M' ∧ .bool (r) = v) := by
  unfold m_permit_Desk_find_1 at hm
  refine enter Proofs.Try.func40 rfl rfl rfl ht ?_
  refine C_seq ?_
  refine C_region ?_
  refine W_box (cs := [.int .i64 (p0_p.Number), .string (p0_p.Holder), v0]) rfl rfl rfl rfl (fun b101 => ?_)
  refine W_assign rfl rfl rfl ?_
  refine W_end ?_
  refine E_then ?_
  refine C_seq ?_
  refine C_region ?_
  refine W_field (o := 0) rfl rfl Proofs.Try.runUnderlying43 rfl Proofs.Try.sizeOf3 rfl rfl rfl ?_
  refine W_load rfl rfl Proofs.Try.isAgg3 rfl (own_at (List.mem_cons_self ..) rfl) ?_
  refine W_load rfl rfl Proofs.Try.isAgg3 rfl (own_at (List.mem_cons_of_mem _ (List.mem_cons_self ..)) rfl) ?_
  refine W_bin rfl rfl rfl rfl rfl ?_
  refine W_assign rfl rfl rfl ?_
  refine W_end ?_
  refine E_then ?_
  refine C_ret ?_
  obtain rfl := hm
  refine E_drop (List.Sublist.cons _ (List.Sublist.refl _)) ?_
  refine E_weak (Hp.le_refl _) ?_
  exact end1 rfl rfl ⟨rfl, rfl, rfl⟩

theorem m_slices_IndexFunc_api_PermitPaper_api_PermitPaper__permit_Desk_find_1_c {B : Nat} {w0 w : World} {H : Hp} {M : List Res} {p0_s : (List S_api_PermitPaper)} {p1_f_0 : Int} {v0 : Value} {b0 : Nat} {r : Int} (hm : m_slices_IndexFunc_api_PermitPaper_api_PermitPaper__permit_Desk_find_1 p0_s p1_f_0 = some r) (h0 : RdS H v0 p0_s) (ht : St B w0 H (.obj b0 (.cells [.int .i64 (p1_f_0)].toArray 3 (0, 0)) :: M) w) :
    Calls Proofs.Try.prog 39 [v0, .func (.func 40) [].toArray [.pointer (some ⟨b0, 0, none⟩)].toArray].toArray w (Ret B w0 fun H' M' v => H = H' ∧ .obj b0 (.cells [.int .i64 (p1_f_0)].toArray 3 (0, 0)) :: M = M' ∧ .int .i64 (r) = v) := by
  unfold m_slices_IndexFunc_api_PermitPaper_api_PermitPaper__permit_Desk_find_1 at hm
  refine enter Proofs.Try.func39 rfl rfl rfl ht ?_
  refine C_seq ?_
  refine C_region ?_
  refine W_assign rfl rfl rfl ?_
  refine W_end ?_
  refine E_then ?_
  refine C_seq ?_
  refine C_seq ?_
  refine C_region ?_
  refine W_move rfl rfl rfl ?_
  refine W_lenR rfl rfl Proofs.Try.runUnderlying40 rfl h0 ?_
  refine W_move rfl rfl rfl ?_
  refine W_end ?_
  refine E_then ?_
  refine C_block ?_
  refine C_keep (L' := [(0, v0), (1, .func (.func 40) [].toArray [.pointer (some ⟨b0, 0, none⟩)].toArray), (7, .int .i64 ((p0_s.length : Int))), (8, .int .i64 (((0 : Nat) : Int)))]) ⟨rfl, rfl, rfl, rfl, trivial⟩ (List.Perm.refl _) ?_
  refine C_loop (fun n H' M' L' => ∃ (k101 : Nat) (zs123' : Nat), k101 + zs123' = ((p0_s.length : Int) : Int).toNat ∧ zs123' = n ∧ forN (fun k s118 n => m_slices_IndexFunc_api_PermitPaper_api_PermitPaper__permit_Desk_find_1_b1 p0_s p1_f_0 k n) (fun _ => some ((-1))) zs123' k101 () = some r ∧ H.le H' ∧ .obj b0 (.cells [.int .i64 (p1_f_0)].toArray 3 (0, 0)) :: M = M' ∧ [(0, v0), (1, .func (.func 40) [].toArray [.pointer (some ⟨b0, 0, none⟩)].toArray), (7, .int .i64 ((p0_s.length : Int))), (8, .int .i64 ((k101 : Int)))] = L') _ ⟨0, _, Nat.zero_add _, rfl, hm, (Hp.le_refl _), rfl, rfl⟩ ?_
  rintro _ H116 _ _ ⟨k101, zs123', hd125, rfl, hm, hle117, rfl, rfl⟩
  refine C_seq ?_
  refine C_region ?_
  refine W_bin rfl rfl rfl rfl rfl ?_
  refine W_end (E_then ?_)
  refine C_seq ?_
  refine C_cond (b := decide ((k101 : Int) < (p0_s.length : Int))) rfl (fun hb127 => ?_) (fun hb127 => ?_)
  · obtain ⟨zs123, rfl, hd126, hy124⟩ := rngN_t hd125 hb127
    have hm : m_slices_IndexFunc_api_PermitPaper_api_PermitPaper__permit_Desk_find_1_b1 p0_s p1_f_0 k101 (forN (fun k s118 n => m_slices_IndexFunc_api_PermitPaper_api_PermitPaper__permit_Desk_find_1_b1 p0_s p1_f_0 k n) (fun _ => some ((-1))) zs123 (k101 + 1)) = some r := hm
    generalize hn120 : forN (fun k s118 n => m_slices_IndexFunc_api_PermitPaper_api_PermitPaper__permit_Desk_find_1_b1 p0_s p1_f_0 k n) (fun _ => some ((-1))) zs123 (k101 + 1) = nx119 at hm
    unfold m_slices_IndexFunc_api_PermitPaper_api_PermitPaper__permit_Desk_find_1_b1 at hm
    refine C_skip (E_then ?_)
    refine C_seq ?_
    refine C_block ?_
    refine C_seq ?_
    refine C_region ?_
    refine W_move rfl rfl rfl ?_
    refine W_assign rfl rfl rfl ?_
    refine W_end ?_
    refine E_then ?_
    refine C_seq ?_
    refine C_region ?_
    refine W_move rfl rfl rfl ?_
    refine W_move rfl rfl rfl ?_
    refine W_move rfl rfl rfl ?_
    obtain ⟨y128, h129, he130, hm⟩ := idx_some hm
    obtain ⟨_, ⟨v132, rfl, h133⟩, hc131⟩ := (h0).elem he130
    refine W_indexS rfl rfl Proofs.Try.runUnderlying40 Proofs.Try.sizeOf43 rfl (h0.mono hle117) rfl h129 he130 ?_
    refine W_loadAgg rfl rfl Proofs.Try.isAgg43 Proofs.Try.sizeOf43 rfl (hc131.mono hle117).at rfl ?_
    refine W_callv Proofs.Try.call40 rfl rfl rfl rfl (fun w ht => by have h := m_permit_Desk_find_1_c (hm := (rfl : m_permit_Desk_find_1 y128 p1_f_0 = _)) (h133.mono hle117) ht; exact h) ?_
    rintro _ _ _ ⟨rfl, rfl, rfl⟩
    refine W_end ?_
    refine E_then ?_
    refine C_cond (b := (m_permit_Desk_find_1 y128 p1_f_0)) rfl (fun hb134 => ?_) (fun hb134 => ?_)
    · have hm := ite_t' hb134 hm
      refine C_seq ?_
      refine C_region ?_
      refine W_move rfl rfl rfl ?_
      refine W_assign rfl rfl rfl ?_
      refine W_end ?_
      refine E_then ?_
      refine C_ret ?_
      refine E_ret_block ?_
      refine E_ret_then ?_
      refine E_ret_then ?_
      refine E_ret_block ?_
      refine E_ret_then ?_
      obtain rfl := Option.some.inj hm
      refine E_weak hle117 ?_
      exact end1 rfl rfl ⟨rfl, rfl, rfl⟩
    · have hm := ite_f' hb134 hm
      refine C_skip ?_
      refine E_normal_block ?_
      refine E_then ?_
      refine C_region ?_
      refine W_bin rfl rfl rfl rfl rfl ?_
      refine W_move rfl rfl rfl ?_
      refine W_end ?_
      exact E_keepJ (E_back (Nat.lt_succ_self _) ⟨k101 + 1, zs123, hd126, rfl, (by rw [hn120]; exact hm), hle117, rfl, rfl⟩) (List.Perm.refl _) ⟨rfl, rfl, rfl, (congrArg (fun z => some (Value.int .i64 z)) (i64_succN hy124 (toNat_max (len_max (h0).lenMax)))), trivial⟩
  · obtain rfl := rngN_f hd125 hb127
    have hm : (some ((-1))) = some r := hm
    refine C_exit (E_exit_then ?_)
    refine E_exit_then ?_
    refine E_exit_hit ?_
    refine E_then ?_
    refine C_seq ?_
    refine C_region ?_
    refine W_assign rfl rfl rfl ?_
    refine W_end ?_
    refine E_then ?_
    refine C_ret ?_
    obtain rfl := Option.some.inj hm
    refine E_weak hle117 ?_
    exact end1 rfl rfl ⟨rfl, rfl, rfl⟩

theorem m_permit_Desk_find_c {B : Nat} {w0 w : World} {H : Hp} {M : List Res} {p0_d : S_permit_Desk} {number : Int} {holder : ByteArray} {b0 : Nat} {v0 : Value} {v1 : Value} {xs0 : List Value} {r : Int × Int} (hm : m_permit_Desk_find p0_d number holder = some r) (h0 : RdS H v0 p0_d.devices) (h1 : Rw H v1 xs0 p0_d.papers) (ht : St B w0 H (.obj b0 (.cells [v0, v1, .int .i64 (p0_d.last)].toArray 63 (0, 0)) :: .row v1 43 (Rep.sz S_api_PermitPaper) p0_d.papers.length xs0 :: M) w) :
    Calls Proofs.Try.prog 31 [.pointer (some ⟨b0, 0, none⟩), .int .i64 (number), .string (holder)].toArray w (Ret B w0 fun H' M' v => H = H' ∧ .obj b0 (.cells [v0, v1, .int .i64 (p0_d.last)].toArray 63 (0, 0)) :: .row v1 43 (Rep.sz S_api_PermitPaper) p0_d.papers.length xs0 :: M = M' ∧ .tuple #[.int .i64 (r.1), .int .i64 (r.2)] = v) := by
  unfold m_permit_Desk_find at hm
  refine enter Proofs.Try.func31 rfl rfl rfl ht ?_
  refine C_seq ?_
  refine C_region ?_
  refine W_box (cs := [.int .i64 (number)]) rfl rfl rfl rfl (fun b101 => ?_)
  refine W_assign rfl rfl rfl ?_
  refine W_assign rfl rfl rfl ?_
  refine W_end ?_
  refine E_then ?_
  refine C_seq ?_
  refine C_region ?_
  refine W_move rfl rfl rfl ?_
  refine W_nilCheck rfl rfl rfl ?_
  refine W_field (o := 1) rfl rfl Proofs.Try.runUnderlying63 rfl Proofs.Try.sizeOf40 rfl rfl rfl ?_
  refine W_load rfl rfl Proofs.Try.isAgg40 rfl (own_at (List.mem_cons_of_mem _ (List.mem_cons_self ..)) rfl) ?_
  refine W_makeFunc rfl rfl rfl rfl ?_
  refine W_perm (List.Perm.trans (List.Perm.cons _ (List.Perm.swap _ _ _)) (List.Perm.swap _ _ _)) ?_
  obtain ⟨r102, hc103, hm⟩ := bind_some hm
  refine W_call Proofs.Try.call39 rfl rfl rfl (fun w ht => by obtain ⟨H0_, hl0_, ht0_, hr0_, bk0_⟩ := ht.lendRow h1 rfl; have h := m_slices_IndexFunc_api_PermitPaper_api_PermitPaper__permit_Desk_find_1_c (hm := hc103) hr0_ ht0_; exact lend_back bk0_ (h)) ?_
  rintro _ _ _ ⟨rfl, ⟨_, rfl, rfl, rfl⟩⟩
  refine W_assign rfl rfl rfl ?_
  refine W_end ?_
  refine E_then ?_
  refine C_seq ?_
  refine C_block ?_
  refine C_seq ?_
  refine C_region ?_
  refine W_move rfl rfl rfl ?_
  refine W_bin rfl rfl rfl rfl rfl ?_
  refine W_assign rfl rfl rfl ?_
  refine W_end ?_
  refine E_then ?_
  refine C_cond (b := decide (r102 < 0)) rfl (fun hb104 => ?_) (fun hb104 => ?_)
  · have hm := ite_t' hb104 hm
    refine C_seq ?_
    refine C_region ?_
    refine W_assign rfl rfl rfl ?_
    refine W_assign rfl rfl rfl ?_
    refine W_end ?_
    refine E_then ?_
    refine C_ret ?_
    refine E_ret_block ?_
    refine E_ret_then ?_
    obtain rfl := Option.some.inj hm
    refine E_drop (List.Sublist.cons_cons _ (List.Sublist.cons _ (List.Sublist.refl _))) ?_
    refine E_perm (List.Perm.swap _ _ _) ?_
    refine E_weak (Hp.le_refl _) ?_
    exact end2 rfl rfl rfl ⟨rfl, rfl, rfl⟩
  · have hm := ite_f' hb104 hm
    refine C_seq ?_
    refine C_region ?_
    refine W_move rfl rfl rfl ?_
    refine W_nilCheck rfl rfl rfl ?_
    refine W_field (o := 1) rfl rfl Proofs.Try.runUnderlying63 rfl Proofs.Try.sizeOf40 rfl rfl rfl ?_
    refine W_load rfl rfl Proofs.Try.isAgg40 rfl (own_at (List.mem_cons_of_mem _ (List.mem_cons_of_mem _ (List.mem_cons_self ..))) rfl) ?_
    refine W_move rfl rfl rfl ?_
    obtain ⟨y105, h106, he107, hm⟩ := idx_some hm
    refine W_indexO (List.mem_cons_self ..) rfl rfl Proofs.Try.runUnderlying40 Proofs.Try.sizeOf43 rfl rfl h106 (List.getElem?_eq_some_iff.1 he107).1 ?_
    obtain ⟨_, ⟨v109, rfl, h110⟩, hg108⟩ := (h1).elem he107
    refine W_field (o := 1) rfl rfl Proofs.Try.runUnderlying43 rfl Proofs.Try.sizeOf9 rfl rfl rfl ?_
    refine W_load rfl rfl Proofs.Try.isAgg9 rfl (row_one (o := 1) (List.mem_cons_self ..) hg108 rfl) ?_
    refine W_move rfl rfl rfl ?_
    refine W_bin rfl rfl rfl rfl rfl ?_
    refine W_assign rfl rfl rfl ?_
    refine W_end ?_
    refine E_then ?_
    refine C_cond (b := !decide (y105.Holder = holder)) rfl (fun hb111 => ?_) (fun hb111 => ?_)
    · have hm := ite_t' hb111 hm
      refine C_seq ?_
      refine C_region ?_
      refine W_assign rfl rfl rfl ?_
      refine W_assign rfl rfl rfl ?_
      refine W_end ?_
      refine E_then ?_
      refine C_ret ?_
      refine E_ret_block ?_
      refine E_ret_then ?_
      obtain rfl := Option.some.inj hm
      refine E_drop (List.Sublist.cons_cons _ (List.Sublist.cons _ (List.Sublist.refl _))) ?_
      refine E_perm (List.Perm.swap _ _ _) ?_
      refine E_weak (Hp.le_refl _) ?_
      exact end2 rfl rfl rfl ⟨rfl, rfl, rfl⟩
    · have hm := ite_f' hb111 hm
      refine C_skip ?_
      refine E_normal_block ?_
      refine E_then ?_
      refine C_seq ?_
      refine C_region ?_
      refine W_move rfl rfl rfl ?_
      refine W_assign rfl rfl rfl ?_
      refine W_assign rfl rfl rfl ?_
      refine W_end ?_
      refine E_then ?_
      refine C_ret ?_
      obtain rfl := Option.some.inj hm
      refine E_drop (List.Sublist.cons_cons _ (List.Sublist.cons _ (List.Sublist.refl _))) ?_
      refine E_perm (List.Perm.swap _ _ _) ?_
      refine E_weak (Hp.le_refl _) ?_
      exact end2 rfl rfl rfl ⟨rfl, rfl, rfl⟩

theorem delete32_c {B : Nat} {w0 w : World} {H : Hp} {M : List Res} {l : List S_api_PermitPaper} {v0 : Value} {xs : List Value} {i j : Int} (h0 : Rw H v0 xs l) (hz : 0 ≤ i ∧ i < j ∧ j ≤ (l.length : Int)) (ht : St B w0 H (.row v0 43 (Rep.sz S_api_PermitPaper) l.length xs :: M) w) :
    Calls Proofs.Try.prog 32 [v0, .int .i64 i, .int .i64 j].toArray w (Ret B w0 fun H' M' v => H = H' ∧ ∃ (v' : Value) (xs' : List Value), .row v' 43 (Rep.sz S_api_PermitPaper) (l.take i.toNat ++ l.drop j.toNat).length xs' :: M = M' ∧ v' = v ∧ Rw H v' xs' (l.take i.toNat ++ l.drop j.toNat)) := by
  obtain ⟨i, rfl⟩ : ∃ m : Nat, i = m := ⟨i.toNat, by omega⟩
  obtain ⟨j, rfl⟩ : ∃ m : Nat, j = m := ⟨j.toNat, by omega⟩
  have hij : i < j := by omega
  have hj : j ≤ l.length := by omega
  rw [Int.toNat_natCast, Int.toNat_natCast]
  refine enter Proofs.Try.func32 rfl rfl rfl ht ?_
  refine C_rowSome (by omega) (fun gb off cap hv hcap => ?_)
  subst hv
  refine C_seq ?_
  refine C_region ?_
  refine W_assign rfl rfl rfl ?_
  refine W_end (E_then ?_)
  refine C_seq ?_
  refine C_region ?_
  refine W_move rfl rfl rfl ?_
  refine W_move rfl rfl rfl ?_
  refine W_move rfl rfl rfl ?_
  refine W_move rfl rfl rfl ?_
  refine W_lenS rfl rfl Proofs.Try.runUnderlying40 rfl ?_
  refine W_sliceV (m := l.length) (h := j) (l := i) rfl rfl Proofs.Try.runUnderlying40 Proofs.Try.sizeOf43 rfl (.inr ⟨_, rfl⟩) (.inr ⟨_, _, _, rfl, rfl, by omega, by omega, by omega⟩) (.inr ⟨_, _, _, rfl, rfl, by omega, by omega, by omega⟩) (.inr ⟨_, _, _, rfl, rfl, by omega, by omega, by omega⟩) rfl ?_
  refine W_end (E_then ?_)
  refine C_seq ?_
  refine C_seq ?_
  refine C_region ?_
  refine W_move rfl rfl rfl ?_
  refine W_move rfl rfl rfl ?_
  refine W_bin rfl rfl rfl rfl rfl ?_
  refine W_end (E_then ?_)
  refine C_cond (b := decide ((i : Int) = (j : Int))) rfl (fun hb => absurd (of_decide_eq_true hb) (by omega)) (fun _ => ?_)
  refine C_skip (E_then ?_)
  refine C_seq ?_
  refine C_region ?_
  refine W_move rfl rfl rfl ?_
  refine W_lenS rfl rfl Proofs.Try.runUnderlying40 rfl ?_
  refine W_assign rfl rfl rfl ?_
  refine W_end (E_then ?_)
  refine C_seq ?_
  refine C_region_tok0 6 (phiT [(fun H rs v => [] = rs ∧ .slice (some ⟨gb, off, none⟩) l.length cap = v), (fun H rs v => [] = rs ∧ .int .i64 (i : Int) = v), (fun H rs v => [] = rs ∧ .slice (some ⟨gb, off, none⟩) i cap = v), (fun H rs v => [] = rs ∧ .slice (some ⟨gb, off, none⟩) l.length cap = v), (fun H rs v => [] = rs ∧ .int .i64 (j : Int) = v), (fun H rs v => [] = rs ∧ .slice (some (if cap = j then ⟨gb, off, none⟩ else ⟨gb, off + j * Rep.sz S_api_PermitPaper, none⟩)) (l.length - j) (cap - j) = v)]) [[], [], [], [], [], []] [[], [], [], [], [], []] [] [0, 1, 2, 3, 4, 5] Facts.mixed (by kernel_rfl) rfl rfl rfl (by kernel_rfl) (phiT_mono ⟨eq_monoT _ _, eq_monoT _ _, eq_monoT _ _, eq_monoT _ _, eq_monoT _ _, eq_monoT _ _, trivial⟩) ⟨?_, ?_, ?_, ?_, ?_, ?_, trivial⟩ ?_
  · intro HX hX X Rest hR
    intro hU
    refine W_move rfl rfl rfl ?_
    exact W_end (OneT_end [] (Hp.le_refl _) ⟨rfl, rfl⟩)
  · intro HX hX X Rest hR
    intro hU
    refine W_move rfl rfl rfl ?_
    exact W_end (OneT_end [] (Hp.le_refl _) ⟨rfl, rfl⟩)
  · intro HX hX X Rest hR
    rintro _ _ ⟨rfl, rfl⟩
    rintro _ _ ⟨rfl, rfl⟩
    intro hU
    refine W_sliceV (m := cap) (h := i) (l := 0) rfl rfl Proofs.Try.runUnderlying40 Proofs.Try.sizeOf43 rfl (.inl rfl) (.inl ⟨rfl, rfl⟩) (.inr ⟨_, _, _, rfl, rfl, by omega, by omega, by omega⟩) (.inl ⟨rfl, rfl⟩) (by rw [if_neg (by omega), Nat.sub_zero, Nat.sub_zero, Option.map_some, Addr.add_lit, Nat.zero_mul, Nat.add_zero]) ?_
    exact W_end (OneT_end [] (Hp.le_refl _) ⟨rfl, rfl⟩)
  · intro HX hX X Rest hR
    intro hU
    refine W_move rfl rfl rfl ?_
    exact W_end (OneT_end [] (Hp.le_refl _) ⟨rfl, rfl⟩)
  · intro HX hX X Rest hR
    intro hU
    refine W_move rfl rfl rfl ?_
    exact W_end (OneT_end [] (Hp.le_refl _) ⟨rfl, rfl⟩)
  · intro HX hX X Rest hR
    rintro _ _ ⟨rfl, rfl⟩
    rintro _ _ ⟨rfl, rfl⟩
    intro hU
    refine W_sliceV (m := cap) (h := l.length) (l := j) rfl rfl Proofs.Try.runUnderlying40 Proofs.Try.sizeOf43 rfl (.inl rfl) (.inl ⟨rfl, rfl⟩) (.inl ⟨rfl, rfl⟩) (.inr ⟨_, _, _, rfl, rfl, by omega, by omega, by omega⟩) (v' := .slice (some (if cap = j then ⟨gb, off, none⟩ else ⟨gb, off + j * Rep.sz S_api_PermitPaper, none⟩)) (l.length - j) (cap - j)) (by
      by_cases h : cap = j
      · rw [if_pos h, if_pos h]
      · rw [if_neg h, if_neg h, Option.map_some, Addr.add_lit] <;> rfl) ?_
    exact W_end (OneT_end [] (Hp.le_refl _) ⟨rfl, rfl⟩)
  intro H1 hle1
  rintro _ _ ⟨rfl, rfl⟩
  rintro _ _ ⟨rfl, rfl⟩
  rintro _ _ ⟨rfl, rfl⟩
  rintro _ _ ⟨rfl, rfl⟩
  rintro _ _ ⟨rfl, rfl⟩
  rintro _ _ ⟨rfl, rfl⟩
  refine W_appendDel (α := S_api_PermitPaper) (l := l) (i := i) (j := j) (bytes := 48) rfl rfl Proofs.Try.underlying40 ⟨_, rfl, rfl, rfl, rfl⟩ rfl rfl h0 hij hj rfl rfl (fun h => if_neg (by omega)) ?_
  intro gb2 off2 xs2 h2 hcap2
  have hln : (l.take i ++ l.drop j).length = i + (l.length - j) := by simp; omega
  refine W_assign rfl rfl rfl ?_
  refine W_end (E_then ?_)
  refine C_seq ?_
  refine C_region ?_
  refine W_move rfl rfl rfl ?_
  refine W_move rfl rfl rfl ?_
  refine W_lenS rfl rfl Proofs.Try.runUnderlying40 rfl ?_
  refine W_move rfl rfl rfl ?_
  refine W_sliceV (m := cap) (h := l.length) (l := (l.take i ++ l.drop j).length) rfl rfl Proofs.Try.runUnderlying40 Proofs.Try.sizeOf43 rfl (.inl rfl) (.inl ⟨rfl, rfl⟩) (.inr ⟨_, _, _, rfl, rfl, by omega, by omega, by omega⟩) (.inr ⟨_, _, _, rfl, rfl, by omega, by omega, by omega⟩) (by rw [if_neg (by omega), Option.map_some, Addr.add_lit]) ?_
  refine W_clearTail (sz := Rep.sz S_api_PermitPaper) (n2 := l.length - (l.take i ++ l.drop j).length) rfl Proofs.Try.underlying40 Proofs.Try.zeroValue43 rfl rfl rfl rfl rfl (by omega) ?_
  refine W_end (E_then ?_)
  refine C_seq ?_
  refine C_region ?_
  refine W_move rfl rfl rfl ?_
  refine W_assign rfl rfl rfl ?_
  refine W_end (E_then ?_)
  refine C_ret ?_
  refine E_weak hle1 ?_
  exact end1 rfl rfl ⟨rfl, _, xs2, rfl, rfl, h2⟩

theorem m_permit_Desk_Return_c {B : Nat} {w0 w : World} {H : Hp} {M : List Res} {p0_d : S_permit_Desk} {number : Int} {holder : ByteArray} {b0 : Nat} {v0 : Value} {v1 : Value} {xs0 : List Value} {r : Int × S_permit_Desk} (hm : m_permit_Desk_Return p0_d number holder = some r) (h0 : RdS H v0 p0_d.devices) (h1 : Rw H v1 xs0 p0_d.papers) (ht : St B w0 H (.obj b0 (.cells [v0, v1, .int .i64 (p0_d.last)].toArray 63 (0, 0)) :: .row v1 43 (Rep.sz S_api_PermitPaper) p0_d.papers.length xs0 :: M) w) :
    Calls Proofs.Try.prog 16 [.pointer (some ⟨b0, 0, none⟩), .int .i64 (number), .string (holder)].toArray w (Ret B w0 fun H' M' v => H.le H' ∧ ∃ qv0 : Value, ∃ qv1 : Value, ∃ qxs0 : List Value, .obj b0 (.cells [qv0, qv1, .int .i64 (r.2.last)].toArray 63 (0, 0)) :: .row qv1 43 (Rep.sz S_api_PermitPaper) r.2.papers.length qxs0 :: M = M' ∧ .int .i64 (r.1) = v ∧ RdS H' qv0 r.2.devices ∧ Rw H' qv1 qxs0 r.2.papers) := by
  unfold m_permit_Desk_Return at hm
  refine enter Proofs.Try.func16 rfl rfl rfl ht ?_
  refine C_seq ?_
  refine C_region ?_
  refine W_assign rfl rfl rfl ?_
  refine W_end ?_
  refine E_then ?_
  refine C_seq ?_
  refine C_region ?_
  refine W_move rfl rfl rfl ?_
  refine W_move rfl rfl rfl ?_
  refine W_move rfl rfl rfl ?_
  obtain ⟨r101, hc102, hm⟩ := bind_some hm
  refine W_call Proofs.Try.call31 rfl rfl rfl (fun w ht => by have h := m_permit_Desk_find_c (hm := hc102) h0 h1 ht; exact h) ?_
  rintro _ _ _ ⟨rfl, rfl, rfl⟩
  refine W_move rfl rfl rfl ?_
  refine W_extract rfl rfl rfl rfl ?_
  refine W_extract rfl rfl rfl rfl ?_
  refine W_assign rfl rfl rfl ?_
  refine W_assign rfl rfl rfl ?_
  refine W_end ?_
  refine E_then ?_
  refine C_seq ?_
  refine C_seq ?_
  refine C_region ?_
  refine W_move rfl rfl rfl ?_
  refine W_bin rfl rfl rfl rfl rfl ?_
  refine W_end ?_
  refine E_then ?_
  refine C_cond (b := !decide (r101.2 = 0)) rfl (fun hb103 => ?_) (fun hb103 => ?_)
  · have hm := ite_t' hb103 hm
    refine C_seq ?_
    refine C_region ?_
    refine W_move rfl rfl rfl ?_
    refine W_assign rfl rfl rfl ?_
    refine W_end ?_
    refine E_then ?_
    refine C_ret ?_
    refine E_ret_then ?_
    obtain rfl := Option.some.inj hm
    exact end1 rfl rfl ⟨(Hp.le_refl _), v0, v1, xs0, rfl, rfl, h0, h1⟩
  · have hm := ite_f' hb103 hm
    refine C_skip ?_
    refine E_then ?_
    refine C_seq ?_
    refine C_region ?_
    refine W_move rfl rfl rfl ?_
    refine W_move rfl rfl rfl ?_
    refine W_nilCheck rfl rfl rfl ?_
    refine W_field (o := 1) rfl rfl Proofs.Try.runUnderlying63 rfl Proofs.Try.sizeOf40 rfl rfl rfl ?_
    refine W_load rfl rfl Proofs.Try.isAgg40 rfl (own_at (List.mem_cons_self ..) rfl) ?_
    refine W_move rfl rfl rfl ?_
    refine W_move rfl rfl rfl ?_
    refine W_bin rfl rfl rfl rfl rfl ?_
    obtain ⟨hz104, hm⟩ := need_some hm
    refine W_perm (List.Perm.swap _ _ _) ?_
    refine W_call Proofs.Try.call32 rfl rfl rfl (fun w ht => by have h := delete32_c h1 hz104 ht; exact h) ?_
    rintro _ _ _ ⟨rfl, v105, xs106, rfl, rfl, hr107⟩
    refine W_nilCheck rfl rfl rfl ?_
    refine W_field (o := 1) rfl rfl Proofs.Try.runUnderlying63 rfl Proofs.Try.sizeOf40 rfl rfl rfl ?_
    refine W_perm (List.Perm.swap _ _ _) ?_
    refine W_store (cs := [v105]) (out := [v0, v105, .int .i64 (p0_d.last)]) rfl Proofs.Try.sizeOf40 rfl rfl (Rw.cells hr107) rfl rfl (all_cons (Rw.one hr107) all_nil) rfl ?_
    refine W_end ?_
    refine E_then ?_
    refine C_seq ?_
    refine C_region ?_
    refine W_assign rfl rfl rfl ?_
    refine W_end ?_
    refine E_then ?_
    refine C_ret ?_
    obtain rfl := Option.some.inj hm
    exact end1 rfl rfl ⟨(Hp.le_refl _), v0, v105, xs106, rfl, rfl, h0, hr107⟩

theorem m_gridhallkeep4_PermitGone_c {B : Nat} {w0 w : World} {H : Hp} {M : List Res} {devices : (List ByteArray)} {holders : (List ByteArray)} {v0 : Value} {v1 : Value} {r : Bool} (hm : m_gridhallkeep4_PermitGone devices holders = some r) (h0 : RdS H v0 devices) (h1 : RdS H v1 holders) (ht : St B w0 H (M) w) :
    Calls Proofs.Try.prog 5 [v0, v1].toArray w (Ret B w0 fun H' M' v => H = H' ∧ M = M' ∧ .bool (r) = v) := by
  unfold m_gridhallkeep4_PermitGone at hm
  refine enter Proofs.Try.func5 rfl rfl rfl ht ?_
  refine C_seq ?_
  refine C_region ?_
  refine W_assign rfl rfl rfl ?_
  refine W_end ?_
  refine E_then ?_
  refine C_seq ?_
  refine C_region ?_
  refine W_move rfl rfl rfl ?_
  obtain ⟨r101, hc102, hm⟩ := bind_some hm
  refine W_call Proofs.Try.call10 rfl rfl rfl (fun w ht => by have h := m_permit_New_c (hm := hc102) h0 ht; exact h) ?_
  rintro _ H116 _ (⟨hn110, hle112, rfl, rfl⟩ | ⟨sp103, hn113, hle115, b104, v105, v107, xs108, rfl, rfl, h106, h109⟩)
  · have hm := optC_n hn110 hm
    refine W_move rfl rfl rfl ?_
    refine W_extract rfl rfl rfl rfl ?_
    refine W_extract rfl rfl rfl rfl ?_
    refine W_assign rfl rfl rfl ?_
    refine W_assign rfl rfl rfl ?_
    refine W_end ?_
    refine E_then ?_
    refine C_seq ?_
    refine C_seq_join (fun H' M' L' => H116 = H' ∧ M = M' ∧ [(0, v0), (1, v1), (5, .pointer none), (6, .int .i64 (r101.2)), (24, .bool (true))] = L') ?_ (fun J118 => ?_)
    · rintro _ _ _ ⟨rfl, rfl, rfl⟩
      refine C_cond (b := true) rfl (fun _ => ?_) (fun hb => Bool.noConfusion hb)
      refine C_seq ?_
      refine C_region ?_
      obtain ⟨r119, hc120, hm⟩ := bind_some hm
      refine W_call Proofs.Try.call11 rfl rfl rfl (fun w ht => by have h := m_gridhallkeep4_permitFact_c (hm := hc120)  ht; exact h) ?_
      rintro _ _ _ ⟨rfl, rfl, rfl⟩
      refine W_move rfl rfl rfl ?_
      cases hb121 : (r119)
      · have hm := ite_f' hb121 hm
        refine W_no rfl rfl rfl ?_
        refine W_no rfl rfl rfl ?_
        refine W_no rfl rfl rfl ?_
        refine W_no rfl rfl rfl ?_
        refine W_pick rfl rfl rfl rfl ?_
        refine W_move rfl rfl rfl ?_
        refine W_no rfl rfl rfl ?_
        refine W_no rfl rfl rfl ?_
        refine W_pick rfl rfl rfl rfl ?_
        refine W_assign rfl rfl rfl ?_
        refine W_end ?_
        refine E_then ?_
        refine C_ret ?_
        refine E_ret_then ?_
        obtain rfl := Option.some.inj hm
        refine E_weak hle112 ?_
        exact end1 rfl rfl ⟨rfl, rfl, rfl⟩
      · have hm := ite_t' hb121 hm
        refine W_move rfl rfl rfl ?_
        refine W_move rfl rfl rfl ?_
        obtain ⟨r122, hc123, hm⟩ := bind_some hm
        refine W_call Proofs.Try.call12 rfl rfl rfl (fun w ht => by have h := m_permit_Check_c (hm := hc123) (h0.mono hle112) ht; exact h) ?_
        rintro _ _ _ ⟨rfl, rfl, rfl⟩
        refine W_bin rfl rfl rfl rfl rfl ?_
        refine W_pick rfl rfl rfl rfl ?_
        refine W_move rfl rfl rfl ?_
        cases hb124 : (decide (r101.2 = r122))
        · have hm := ite_f' hb124 hm
          refine W_no rfl rfl rfl ?_
          refine W_no rfl rfl rfl ?_
          refine W_pick rfl rfl rfl rfl ?_
          refine W_assign rfl rfl rfl ?_
          refine W_end ?_
          refine E_then ?_
          refine C_ret ?_
          refine E_ret_then ?_
          obtain rfl := Option.some.inj hm
          refine E_weak hle112 ?_
          exact end1 rfl rfl ⟨rfl, rfl, rfl⟩
        · have hm := ite_t' hb124 hm
          refine W_move rfl rfl rfl ?_
          refine W_ptrNil rfl rfl Proofs.Try.runUnderlying34 rfl rfl ?_
          refine W_pick rfl rfl rfl rfl ?_
          refine W_assign rfl rfl rfl ?_
          refine W_end ?_
          refine E_then ?_
          refine C_ret ?_
          refine E_ret_then ?_
          obtain rfl := Option.some.inj hm
          refine E_weak hle112 ?_
          exact end1 rfl rfl ⟨rfl, rfl, rfl⟩
    · refine C_region ?_
      refine W_move rfl rfl rfl ?_
      refine W_bin rfl rfl rfl rfl rfl ?_
      refine W_move rfl rfl rfl ?_
      cases hb125 : (decide (r101.2 = 0))
      · refine W_no rfl rfl rfl ?_
        refine W_no rfl rfl rfl ?_
        refine W_pick rfl rfl rfl rfl ?_
        refine W_end ?_
        exact E_keepJ (J118 _ _ _ ⟨rfl, rfl, rfl⟩) (List.Perm.refl _) ⟨rfl, rfl, rfl, rfl, rfl, trivial⟩
      · refine W_move rfl rfl rfl ?_
        refine W_ptrNil rfl rfl Proofs.Try.runUnderlying34 rfl rfl ?_
        refine W_pick rfl rfl rfl rfl ?_
        refine W_end ?_
        exact E_keepJ (J118 _ _ _ ⟨rfl, rfl, rfl⟩) (List.Perm.refl _) ⟨rfl, rfl, rfl, rfl, rfl, trivial⟩
  · have hm := optC_s hn113 hm
    refine W_move rfl rfl rfl ?_
    refine W_extract rfl rfl rfl rfl ?_
    refine W_extract rfl rfl rfl rfl ?_
    refine W_assign rfl rfl rfl ?_
    refine W_assign rfl rfl rfl ?_
    refine W_end ?_
    refine E_then ?_
    refine C_seq ?_
    refine C_seq_join (fun H' M' L' => H116 = H' ∧ .obj b104 (.cells [v105, v107, .int .i64 (sp103.last)].toArray 63 (0, 0)) :: .row v107 43 (Rep.sz S_api_PermitPaper) sp103.papers.length xs108 :: M = M' ∧ [(0, v0), (1, v1), (5, .pointer (some ⟨b104, 0, none⟩)), (6, .int .i64 (r101.2)), (24, .bool (!decide (r101.2 = 0)))] = L') ?_ (fun J127 => ?_)
    · rintro _ _ _ ⟨rfl, rfl, rfl⟩
      refine C_cond (b := !decide (r101.2 = 0)) rfl (fun hb128 => ?_) (fun hb128 => ?_)
      · have hm := ite_t' hb128 hm
        refine C_seq ?_
        refine C_region ?_
        obtain ⟨r129, hc130, hm⟩ := bind_some hm
        refine W_call Proofs.Try.call11 rfl rfl rfl (fun w ht => by have h := m_gridhallkeep4_permitFact_c (hm := hc130)  ht; exact h) ?_
        rintro _ _ _ ⟨rfl, rfl, rfl⟩
        refine W_move rfl rfl rfl ?_
        cases hb131 : (r129)
        · have hm := ite_f' hb131 hm
          refine W_no rfl rfl rfl ?_
          refine W_no rfl rfl rfl ?_
          refine W_no rfl rfl rfl ?_
          refine W_no rfl rfl rfl ?_
          refine W_pick rfl rfl rfl rfl ?_
          refine W_move rfl rfl rfl ?_
          refine W_no rfl rfl rfl ?_
          refine W_no rfl rfl rfl ?_
          refine W_pick rfl rfl rfl rfl ?_
          refine W_assign rfl rfl rfl ?_
          refine W_end ?_
          refine E_then ?_
          refine C_ret ?_
          refine E_ret_then ?_
          obtain rfl := Option.some.inj hm
          refine E_drop (List.Sublist.cons _ (List.Sublist.cons _ (List.Sublist.refl _))) ?_
          refine E_weak hle115 ?_
          exact end1 rfl rfl ⟨rfl, rfl, rfl⟩
        · have hm := ite_t' hb131 hm
          refine W_move rfl rfl rfl ?_
          refine W_move rfl rfl rfl ?_
          obtain ⟨r132, hc133, hm⟩ := bind_some hm
          refine W_call Proofs.Try.call12 rfl rfl rfl (fun w ht => by have h := m_permit_Check_c (hm := hc133) (h0.mono hle115) ht; exact h) ?_
          rintro _ _ _ ⟨rfl, rfl, rfl⟩
          refine W_bin rfl rfl rfl rfl rfl ?_
          refine W_pick rfl rfl rfl rfl ?_
          refine W_move rfl rfl rfl ?_
          cases hb134 : (decide (r101.2 = r132))
          · have hm := ite_f' hb134 hm
            refine W_no rfl rfl rfl ?_
            refine W_no rfl rfl rfl ?_
            refine W_pick rfl rfl rfl rfl ?_
            refine W_assign rfl rfl rfl ?_
            refine W_end ?_
            refine E_then ?_
            refine C_ret ?_
            refine E_ret_then ?_
            obtain rfl := Option.some.inj hm
            refine E_drop (List.Sublist.cons _ (List.Sublist.cons _ (List.Sublist.refl _))) ?_
            refine E_weak hle115 ?_
            exact end1 rfl rfl ⟨rfl, rfl, rfl⟩
          · have hm := ite_t' hb134 hm
            refine W_move rfl rfl rfl ?_
            refine W_ptrNil rfl rfl Proofs.Try.runUnderlying34 rfl rfl ?_
            refine W_pick rfl rfl rfl rfl ?_
            refine W_assign rfl rfl rfl ?_
            refine W_end ?_
            refine E_then ?_
            refine C_ret ?_
            refine E_ret_then ?_
            obtain rfl := Option.some.inj hm
            refine E_drop (List.Sublist.cons _ (List.Sublist.cons _ (List.Sublist.refl _))) ?_
            refine E_weak hle115 ?_
            exact end1 rfl rfl ⟨rfl, rfl, rfl⟩
      · have hm := ite_f' hb128 hm
        refine C_skip ?_
        refine E_then ?_
        refine C_seq ?_
        refine C_region ?_
        refine W_assign rfl rfl rfl ?_
        refine W_end ?_
        refine E_then ?_
        refine C_seq_join (fun H' M' L' => ∃ l358 : (List ByteArray), ∃ l362 : List S_api_PermitPaper, ∃ n364 : Int, ∃ v357 : Value, ∃ v360 : Value, ∃ xs361 : List Value, m_gridhallkeep4_PermitGone_b6 devices l358 l362 n364 = some r ∧ RdS H' v357 l358 ∧ Rw H' v360 xs361 l362 ∧ H116.le H' ∧ .row v360 43 (Rep.sz S_api_PermitPaper) l362.length xs361 :: .obj b104 (.cells [v357, v360, .int .i64 (n364)].toArray 63 (0, 0)) :: M = M' ∧ [(5, .pointer (some ⟨b104, 0, none⟩))] = L') ?_ (fun J367 => ?_)
        · rintro H365 _ _ ⟨l358, l362, n364, v357, v360, xs361, hm, h359, hr363, hle366, rfl, rfl⟩
          unfold m_gridhallkeep4_PermitGone_b6 at hm
          refine C_seq ?_
          refine C_seq ?_
          refine C_region ?_
          refine W_move rfl rfl rfl ?_
          refine W_perm (List.Perm.swap _ _ _) ?_
          obtain ⟨r368, hc369, hm⟩ := bind_some hm
          refine W_call Proofs.Try.call14 rfl rfl rfl (fun w ht => by have h := m_permit_Desk_Papers_c (hm := hc369) h359 hr363 ht; exact h) ?_
          rintro _ H373 _ ⟨hle374, v370, xs371, rfl, rfl, h372⟩
          refine W_lenO (List.mem_cons_self ..) rfl rfl Proofs.Try.runUnderlying40 rfl ?_
          refine W_move rfl rfl rfl ?_
          refine W_end ?_
          refine E_then ?_
          refine C_block ?_
          refine C_rowMax (List.mem_cons_self ..) (fun hmx474 => ?_)
          refine C_keep (L' := [(5, .pointer (some ⟨b104, 0, none⟩)), (71, v370), (72, .int .i64 ((r368.length : Int))), (73, .int .i64 (((0 : Nat) : Int)))]) ⟨rfl, rfl, rfl, rfl, trivial⟩ (List.Perm.trans (List.Perm.cons _ (List.Perm.swap _ _ _)) (List.Perm.swap _ _ _)) ?_
          refine C_loop (fun n H' M' L' => ∃ (k375 : Nat) (zs476' : List S_api_PermitPaper), ∃ l461 : (List ByteArray), ∃ l465 : List S_api_PermitPaper, ∃ n467 : Int, ∃ v460 : Value, ∃ v463 : Value, ∃ xs464 : List Value, (r368).drop k375 = zs476' ∧ zs476'.length = n ∧ forI (fun k y s470 n => m_gridhallkeep4_PermitGone_b5 devices k y s470.1 s470.2.1 s470.2.2 n) (fun s470 => (m_gridhallkeep4_permitFact).bind fun r513 => if r513 then ((m_permit_Desk_Held (S_permit_Desk.mk s470.1 s470.2.1 s470.2.2)).bind fun r516 => if decide ((r516.length : Int) = 0) then ((m_permit_Desk_Papers (S_permit_Desk.mk s470.1 s470.2.1 s470.2.2)).bind fun r522 => some (decide ((r522.length : Int) = 0))) else (some false)) else (some false)) k375 zs476' (l461, l465, n467) = some r ∧ RdS H' v460 l461 ∧ Rw H' v463 xs464 l465 ∧ H373.le H' ∧ .row v463 43 (Rep.sz S_api_PermitPaper) l465.length xs464 :: .row v370 43 (Rep.sz S_api_PermitPaper) r368.length xs371 :: .obj b104 (.cells [v460, v463, .int .i64 (n467)].toArray 63 (0, 0)) :: M = M' ∧ [(5, .pointer (some ⟨b104, 0, none⟩)), (71, v370), (72, .int .i64 ((r368.length : Int))), (73, .int .i64 ((k375 : Int)))] = L') _ ⟨0, _, l358, l362, n364, v357, v360, xs361, rfl, rfl, hm, (h359.mono hle374), (hr363.mono hle374), (Hp.le_refl _), rfl, rfl⟩ ?_
          rintro _ H468 _ _ ⟨k375, zs476', l461, l465, n467, v460, v463, xs464, hd478, rfl, hm, h462, hr466, hle469, rfl, rfl⟩
          refine C_seq ?_
          refine C_region ?_
          refine W_bin rfl rfl rfl rfl rfl ?_
          refine W_end (E_then ?_)
          refine C_seq ?_
          refine C_cond (b := decide ((k375 : Int) < (r368.length : Int))) rfl (fun hb480 => ?_) (fun hb480 => ?_)
          · obtain ⟨y475, zs476, rfl, hy477, hd479⟩ := rng_t hd478 hb480
            have hm : m_gridhallkeep4_PermitGone_b5 devices k375 y475 l461 l465 n467 (forI (fun k y s470 n => m_gridhallkeep4_PermitGone_b5 devices k y s470.1 s470.2.1 s470.2.2 n) (fun s470 => (m_gridhallkeep4_permitFact).bind fun r513 => if r513 then ((m_permit_Desk_Held (S_permit_Desk.mk s470.1 s470.2.1 s470.2.2)).bind fun r516 => if decide ((r516.length : Int) = 0) then ((m_permit_Desk_Papers (S_permit_Desk.mk s470.1 s470.2.1 s470.2.2)).bind fun r522 => some (decide ((r522.length : Int) = 0))) else (some false)) else (some false)) (k375 + 1) zs476) = some r := hm
            generalize hn472 : forI (fun k y s470 n => m_gridhallkeep4_PermitGone_b5 devices k y s470.1 s470.2.1 s470.2.2 n) (fun s470 => (m_gridhallkeep4_permitFact).bind fun r513 => if r513 then ((m_permit_Desk_Held (S_permit_Desk.mk s470.1 s470.2.1 s470.2.2)).bind fun r516 => if decide ((r516.length : Int) = 0) then ((m_permit_Desk_Papers (S_permit_Desk.mk s470.1 s470.2.1 s470.2.2)).bind fun r522 => some (decide ((r522.length : Int) = 0))) else (some false)) else (some false)) (k375 + 1) zs476 = nx471 at hm
            unfold m_gridhallkeep4_PermitGone_b5 at hm
            refine C_skip (E_then ?_)
            refine C_seq ?_
            refine C_block ?_
            refine C_seq ?_
            refine C_region ?_
            refine W_indexO (List.mem_cons_of_mem _ (List.mem_cons_self ..)) rfl rfl Proofs.Try.runUnderlying40 Proofs.Try.sizeOf43 rfl rfl (Int.natCast_nonneg _) (List.getElem?_eq_some_iff.1 hy477).1 ?_
            obtain ⟨_, ⟨v482, rfl, h483⟩, hg481⟩ := (h372).elem hy477
            refine W_loadAgg (cs := [.int .i64 (y475.Number), .string (y475.Holder), v482]) rfl rfl Proofs.Try.isAgg43 Proofs.Try.sizeOf43 rfl (row_cells (List.mem_cons_of_mem _ (List.mem_cons_self ..)) hg481) rfl ?_
            refine W_alloc (cs := [.int .i64 (0), .string (⟨#[]⟩), .slice none 0 0]) rfl rfl Proofs.Try.zeroValue43 rfl (fun b484 => ?_)
            refine W_store (cs := [.int .i64 (y475.Number), .string (y475.Holder), v482]) (out := [.int .i64 (y475.Number), .string (y475.Holder), v482]) rfl Proofs.Try.sizeOf43 rfl rfl rfl rfl rfl (all_cons rfl (all_cons rfl (all_cons (RdS.one1 (h483.mono hle469)) all_nil))) (over_all rfl) ?_
            refine W_end ?_
            refine E_then ?_
            refine C_seq ?_
            refine C_region ?_
            refine W_move rfl rfl rfl ?_
            refine W_perm (List.Perm.trans (List.Perm.cons _ (List.Perm.cons _ (List.Perm.swap _ _ _))) (List.Perm.trans (List.Perm.cons _ (List.Perm.swap _ _ _)) (List.Perm.trans (List.Perm.swap _ _ _) (List.Perm.cons _ (List.Perm.swap _ _ _))))) ?_
            obtain ⟨r485, hc486, hm⟩ := bind_some hm
            refine W_call Proofs.Try.call15 rfl rfl rfl (fun w ht => by have h := m_permit_Desk_Held_c (hm := hc486) h462 hr466 ht; exact h) ?_
            rintro _ _ _ ⟨rfl, v487, xs488, rfl, rfl, h489⟩
            have h489 := h489 H468
            refine W_lenO (List.mem_cons_self ..) rfl rfl Proofs.Try.runUnderlying33 rfl ?_
            refine W_bin rfl rfl rfl rfl rfl ?_
            refine W_move rfl rfl rfl ?_
            cases hb490 : (decide ((r485.length : Int) = 0))
            · have hm := ite_f' hb490 hm
              refine W_move rfl rfl rfl ?_
              refine W_field (o := 0) rfl rfl Proofs.Try.runUnderlying43 rfl Proofs.Try.sizeOf3 rfl rfl rfl ?_
              refine W_load rfl rfl Proofs.Try.isAgg3 rfl (own_at (List.mem_cons_of_mem _ (List.mem_cons_of_mem _ (List.mem_cons_of_mem _ (List.mem_cons_self ..)))) rfl) ?_
              refine W_field (o := 1) rfl rfl Proofs.Try.runUnderlying43 rfl Proofs.Try.sizeOf9 rfl rfl rfl ?_
              refine W_load rfl rfl Proofs.Try.isAgg9 rfl (own_at (List.mem_cons_of_mem _ (List.mem_cons_of_mem _ (List.mem_cons_of_mem _ (List.mem_cons_self ..)))) rfl) ?_
              refine W_perm (List.Perm.trans (List.Perm.swap _ _ _) (List.Perm.cons _ (List.Perm.swap _ _ _))) ?_
              obtain ⟨r491, hc492, hm⟩ := bind_some hm
              refine W_call Proofs.Try.call16 rfl rfl rfl (fun w ht => by have h := m_permit_Desk_Return_c (hm := hc492) h462 hr466 ht; exact h) ?_
              rintro _ H499 _ ⟨hle500, v494, v496, xs497, rfl, rfl, h495, h498⟩
              refine W_bin rfl rfl rfl rfl rfl ?_
              refine W_pick rfl rfl rfl rfl ?_
              refine W_move rfl rfl rfl ?_
              cases hb501 : (decide (r491.1 = 0))
              · have hm := ite_f' hb501 hm
                refine W_no rfl rfl rfl ?_
                refine W_no rfl rfl rfl ?_
                refine W_no rfl rfl rfl ?_
                refine W_no rfl rfl rfl ?_
                refine W_no rfl rfl rfl ?_
                refine W_no rfl rfl rfl ?_
                refine W_no rfl rfl rfl ?_
                refine W_pick rfl rfl rfl rfl ?_
                refine W_end ?_
                refine E_then ?_
                refine C_cond (b := true) rfl (fun _ => ?_) (fun hb => Bool.noConfusion hb)
                refine C_seq ?_
                refine C_region ?_
                refine W_assign rfl rfl rfl ?_
                refine W_end ?_
                refine E_then ?_
                refine C_ret ?_
                refine E_ret_block ?_
                refine E_ret_then ?_
                refine E_ret_then ?_
                refine E_ret_block ?_
                refine E_ret_then ?_
                obtain rfl := Option.some.inj hm
                refine E_drop (List.Sublist.cons _ (List.Sublist.cons _ (List.Sublist.cons _ (List.Sublist.cons _ (List.Sublist.cons _ (List.Sublist.refl _)))))) ?_
                refine E_weak (Hp.le_trans (Hp.le_trans (Hp.le_trans (Hp.le_trans hle115 hle366) hle374) hle469) hle500) ?_
                exact end1 rfl rfl ⟨rfl, rfl, rfl⟩
              · have hm := ite_t' hb501 hm
                refine W_move rfl rfl rfl ?_
                refine W_field (o := 0) rfl rfl Proofs.Try.runUnderlying43 rfl Proofs.Try.sizeOf3 rfl rfl rfl ?_
                refine W_load rfl rfl Proofs.Try.isAgg3 rfl (own_at (List.mem_cons_of_mem _ (List.mem_cons_of_mem _ (List.mem_cons_of_mem _ (List.mem_cons_self ..)))) rfl) ?_
                refine W_field (o := 1) rfl rfl Proofs.Try.runUnderlying43 rfl Proofs.Try.sizeOf9 rfl rfl rfl ?_
                refine W_load rfl rfl Proofs.Try.isAgg9 rfl (own_at (List.mem_cons_of_mem _ (List.mem_cons_of_mem _ (List.mem_cons_of_mem _ (List.mem_cons_self ..)))) rfl) ?_
                obtain ⟨r502, hc503, hm⟩ := bind_some hm
                refine W_call Proofs.Try.call16 rfl rfl rfl (fun w ht => by have h := m_permit_Desk_Return_c (hm := hc503) h495 h498 ht; exact h) ?_
                rintro _ H510 _ ⟨hle511, v505, v507, xs508, rfl, rfl, h506, h509⟩
                refine W_bin rfl rfl rfl rfl rfl ?_
                refine W_pick rfl rfl rfl rfl ?_
                refine W_end ?_
                refine E_then ?_
                refine C_cond (b := !decide (r502.1 = 8)) rfl (fun hb512 => ?_) (fun hb512 => ?_)
                · have hm := ite_t' hb512 hm
                  refine C_seq ?_
                  refine C_region ?_
                  refine W_assign rfl rfl rfl ?_
                  refine W_end ?_
                  refine E_then ?_
                  refine C_ret ?_
                  refine E_ret_block ?_
                  refine E_ret_then ?_
                  refine E_ret_then ?_
                  refine E_ret_block ?_
                  refine E_ret_then ?_
                  obtain rfl := Option.some.inj hm
                  refine E_drop (List.Sublist.cons _ (List.Sublist.cons _ (List.Sublist.cons _ (List.Sublist.cons _ (List.Sublist.cons _ (List.Sublist.refl _)))))) ?_
                  refine E_weak (Hp.le_trans (Hp.le_trans (Hp.le_trans (Hp.le_trans (Hp.le_trans hle115 hle366) hle374) hle469) hle500) hle511) ?_
                  exact end1 rfl rfl ⟨rfl, rfl, rfl⟩
                · have hm := ite_f' hb512 hm
                  refine C_skip ?_
                  refine E_normal_block ?_
                  refine E_then ?_
                  refine C_region ?_
                  refine W_bin rfl rfl rfl rfl rfl ?_
                  refine W_move rfl rfl rfl ?_
                  refine W_end ?_
                  refine E_drop (List.Sublist.cons_cons _ (List.Sublist.cons_cons _ (List.Sublist.cons _ (List.Sublist.cons _ (List.Sublist.refl _))))) ?_
                  exact E_keepJ (E_back (Nat.lt_succ_self _) ⟨k375 + 1, zs476, r502.2.devices, r502.2.papers, r502.2.last, v505, v507, xs508, hd479, rfl, (by rw [hn472]; exact hm), h506, h509, (Hp.le_trans (Hp.le_trans hle469 hle500) hle511), rfl, rfl⟩) (List.Perm.trans (List.Perm.swap _ _ _) (List.Perm.cons _ (List.Perm.swap _ _ _))) ⟨rfl, rfl, rfl, (congrArg (fun z => some (Value.int .i64 z)) (i64_succ hy477 hmx474)), trivial⟩
            · have hm := ite_t' hb490 hm
              refine W_no rfl rfl rfl ?_
              refine W_no rfl rfl rfl ?_
              refine W_no rfl rfl rfl ?_
              refine W_no rfl rfl rfl ?_
              refine W_no rfl rfl rfl ?_
              refine W_no rfl rfl rfl ?_
              refine W_no rfl rfl rfl ?_
              refine W_pick rfl rfl rfl rfl ?_
              refine W_move rfl rfl rfl ?_
              refine W_no rfl rfl rfl ?_
              refine W_no rfl rfl rfl ?_
              refine W_no rfl rfl rfl ?_
              refine W_no rfl rfl rfl ?_
              refine W_no rfl rfl rfl ?_
              refine W_no rfl rfl rfl ?_
              refine W_no rfl rfl rfl ?_
              refine W_pick rfl rfl rfl rfl ?_
              refine W_end ?_
              refine E_then ?_
              refine C_cond (b := true) rfl (fun _ => ?_) (fun hb => Bool.noConfusion hb)
              refine C_seq ?_
              refine C_region ?_
              refine W_assign rfl rfl rfl ?_
              refine W_end ?_
              refine E_then ?_
              refine C_ret ?_
              refine E_ret_block ?_
              refine E_ret_then ?_
              refine E_ret_then ?_
              refine E_ret_block ?_
              refine E_ret_then ?_
              obtain rfl := Option.some.inj hm
              refine E_drop (List.Sublist.cons _ (List.Sublist.cons _ (List.Sublist.cons _ (List.Sublist.cons _ (List.Sublist.cons _ (List.Sublist.refl _)))))) ?_
              refine E_weak (Hp.le_trans (Hp.le_trans (Hp.le_trans hle115 hle366) hle374) hle469) ?_
              exact end1 rfl rfl ⟨rfl, rfl, rfl⟩
          · obtain rfl := rng_f hd478 hb480
            have hm : ((m_gridhallkeep4_permitFact).bind fun r513 => if r513 then ((m_permit_Desk_Held (S_permit_Desk.mk l461 l465 n467)).bind fun r516 => if decide ((r516.length : Int) = 0) then ((m_permit_Desk_Papers (S_permit_Desk.mk l461 l465 n467)).bind fun r522 => some (decide ((r522.length : Int) = 0))) else (some false)) else (some false)) = some r := hm
            refine C_exit (E_exit_then ?_)
            refine E_exit_then ?_
            refine E_exit_hit ?_
            refine E_then ?_
            refine C_seq ?_
            refine C_region ?_
            obtain ⟨r513, hc514, hm⟩ := bind_some hm
            refine W_call Proofs.Try.call11 rfl rfl rfl (fun w ht => by have h := m_gridhallkeep4_permitFact_c (hm := hc514)  ht; exact h) ?_
            rintro _ _ _ ⟨rfl, rfl, rfl⟩
            refine W_move rfl rfl rfl ?_
            cases hb515 : (r513)
            · have hm := ite_f' hb515 hm
              refine W_no rfl rfl rfl ?_
              refine W_no rfl rfl rfl ?_
              refine W_no rfl rfl rfl ?_
              refine W_no rfl rfl rfl ?_
              refine W_pick rfl rfl rfl rfl ?_
              refine W_move rfl rfl rfl ?_
              refine W_no rfl rfl rfl ?_
              refine W_no rfl rfl rfl ?_
              refine W_no rfl rfl rfl ?_
              refine W_no rfl rfl rfl ?_
              refine W_pick rfl rfl rfl rfl ?_
              refine W_assign rfl rfl rfl ?_
              refine W_end ?_
              refine E_then ?_
              refine C_ret ?_
              obtain rfl := Option.some.inj hm
              refine E_drop (List.Sublist.cons _ (List.Sublist.cons _ (List.Sublist.cons _ (List.Sublist.refl _)))) ?_
              refine E_weak (Hp.le_trans (Hp.le_trans (Hp.le_trans hle115 hle366) hle374) hle469) ?_
              exact end1 rfl rfl ⟨rfl, rfl, rfl⟩
            · have hm := ite_t' hb515 hm
              refine W_move rfl rfl rfl ?_
              refine W_perm (List.Perm.trans (List.Perm.cons _ (List.Perm.swap _ _ _)) (List.Perm.swap _ _ _)) ?_
              obtain ⟨r516, hc517, hm⟩ := bind_some hm
              refine W_call Proofs.Try.call15 rfl rfl rfl (fun w ht => by have h := m_permit_Desk_Held_c (hm := hc517) h462 hr466 ht; exact h) ?_
              rintro _ _ _ ⟨rfl, v518, xs519, rfl, rfl, h520⟩
              have h520 := h520 H468
              refine W_lenO (List.mem_cons_self ..) rfl rfl Proofs.Try.runUnderlying33 rfl ?_
              refine W_bin rfl rfl rfl rfl rfl ?_
              refine W_pick rfl rfl rfl rfl ?_
              refine W_move rfl rfl rfl ?_
              cases hb521 : (decide ((r516.length : Int) = 0))
              · have hm := ite_f' hb521 hm
                refine W_no rfl rfl rfl ?_
                refine W_no rfl rfl rfl ?_
                refine W_no rfl rfl rfl ?_
                refine W_no rfl rfl rfl ?_
                refine W_pick rfl rfl rfl rfl ?_
                refine W_assign rfl rfl rfl ?_
                refine W_end ?_
                refine E_then ?_
                refine C_ret ?_
                obtain rfl := Option.some.inj hm
                refine E_drop (List.Sublist.cons _ (List.Sublist.cons _ (List.Sublist.cons _ (List.Sublist.cons _ (List.Sublist.refl _))))) ?_
                refine E_weak (Hp.le_trans (Hp.le_trans (Hp.le_trans hle115 hle366) hle374) hle469) ?_
                exact end1 rfl rfl ⟨rfl, rfl, rfl⟩
              · have hm := ite_t' hb521 hm
                refine W_move rfl rfl rfl ?_
                refine W_perm (List.Perm.trans (List.Perm.swap _ _ _) (List.Perm.cons _ (List.Perm.swap _ _ _))) ?_
                obtain ⟨r522, hc523, hm⟩ := bind_some hm
                refine W_call Proofs.Try.call14 rfl rfl rfl (fun w ht => by have h := m_permit_Desk_Papers_c (hm := hc523) h462 hr466 ht; exact h) ?_
                rintro _ H527 _ ⟨hle528, v524, xs525, rfl, rfl, h526⟩
                refine W_lenO (List.mem_cons_self ..) rfl rfl Proofs.Try.runUnderlying40 rfl ?_
                refine W_bin rfl rfl rfl rfl rfl ?_
                refine W_pick rfl rfl rfl rfl ?_
                refine W_assign rfl rfl rfl ?_
                refine W_end ?_
                refine E_then ?_
                refine C_ret ?_
                obtain rfl := Option.some.inj hm
                refine E_drop (List.Sublist.cons _ (List.Sublist.cons _ (List.Sublist.cons _ (List.Sublist.cons _ (List.Sublist.cons _ (List.Sublist.refl _)))))) ?_
                refine E_weak (Hp.le_trans (Hp.le_trans (Hp.le_trans (Hp.le_trans hle115 hle366) hle374) hle469) hle528) ?_
                exact end1 rfl rfl ⟨rfl, rfl, rfl⟩
        · refine C_seq ?_
          refine C_region ?_
          refine W_move rfl rfl rfl ?_
          refine W_move rfl rfl rfl ?_
          refine W_lenR rfl rfl Proofs.Try.runUnderlying33 rfl (h1.mono hle115) ?_
          refine W_min rfl rfl rfl rfl ?_
          obtain ⟨hz529, hm⟩ := need_some hm
          refine W_sliceR (α := ByteArray) (l := 0) (h := (min (holders.length : Int) 10 : Int).toNat) (xs := holders) rfl rfl Proofs.Try.runUnderlying33 Proofs.Try.sizeOf9 rfl (h1.mono hle115) (by omega) (by omega) (.inl rfl) (fun cap hcap => by rw [if_pos rfl]; exact (.inl ⟨rfl, rfl⟩)) (fun m hmm => (.inr ⟨_, _, _, rfl, rfl, by omega, by omega, rfl⟩)) (.inl ⟨rfl, rfl⟩) ?_
          intro v530 h531 hc532
          refine W_lenR rfl rfl Proofs.Try.runUnderlying33 rfl h531 ?_
          refine W_move rfl rfl rfl ?_
          refine W_end ?_
          refine E_then ?_
          refine C_block ?_
          refine C_keep (L' := [(0, v0), (5, .pointer (some ⟨b104, 0, none⟩)), (7, .int .i64 (0)), (40, v530), (41, .int .i64 (((slc holders 0 ((min (holders.length : Int) 10 : Int).toNat)).length : Int))), (42, .int .i64 (((0 : Nat) : Int)))]) ⟨rfl, rfl, rfl, rfl, rfl, rfl, trivial⟩ (List.Perm.swap _ _ _) ?_
          refine C_loop (fun n H' M' L' => ∃ (k533 : Nat) (zs688' : List ByteArray), ∃ n672 : Int, ∃ l674 : (List ByteArray), ∃ l678 : List S_api_PermitPaper, ∃ n680 : Int, ∃ v673 : Value, ∃ v676 : Value, ∃ xs677 : List Value, (slc holders 0 ((min (holders.length : Int) 10 : Int).toNat)).drop k533 = zs688' ∧ zs688'.length = n ∧ forI (fun k y s683 n => m_gridhallkeep4_PermitGone_b9 devices k y s683.1 s683.2.1 s683.2.2.1 s683.2.2.2 n) (fun s683 => m_gridhallkeep4_PermitGone_b6 devices s683.2.1 s683.2.2.1 s683.2.2.2) k533 zs688' (n672, l674, l678, n680) = some r ∧ RdS H' v673 l674 ∧ Rw H' v676 xs677 l678 ∧ H116.le H' ∧ .row v676 43 (Rep.sz S_api_PermitPaper) l678.length xs677 :: .obj b104 (.cells [v673, v676, .int .i64 (n680)].toArray 63 (0, 0)) :: M = M' ∧ [(0, v0), (5, .pointer (some ⟨b104, 0, none⟩)), (7, .int .i64 (n672)), (40, v530), (41, .int .i64 (((slc holders 0 ((min (holders.length : Int) 10 : Int).toNat)).length : Int))), (42, .int .i64 ((k533 : Int)))] = L') _ ⟨0, _, 0, sp103.devices, sp103.papers, sp103.last, v105, v107, xs108, rfl, rfl, hm, h106, h109, (Hp.le_refl _), rfl, rfl⟩ ?_
          rintro _ H681 _ _ ⟨k533, zs688', n672, l674, l678, n680, v673, v676, xs677, hd690, rfl, hm, h675, hr679, hle682, rfl, rfl⟩
          refine C_seq ?_
          refine C_region ?_
          refine W_bin rfl rfl rfl rfl rfl ?_
          refine W_end (E_then ?_)
          refine C_seq ?_
          refine C_cond (b := decide ((k533 : Int) < ((slc holders 0 ((min (holders.length : Int) 10 : Int).toNat)).length : Int))) rfl (fun hb692 => ?_) (fun hb692 => ?_)
          · obtain ⟨y687, zs688, rfl, hy689, hd691⟩ := rng_t hd690 hb692
            have hm : m_gridhallkeep4_PermitGone_b9 devices k533 y687 n672 l674 l678 n680 (forI (fun k y s683 n => m_gridhallkeep4_PermitGone_b9 devices k y s683.1 s683.2.1 s683.2.2.1 s683.2.2.2 n) (fun s683 => m_gridhallkeep4_PermitGone_b6 devices s683.2.1 s683.2.2.1 s683.2.2.2) (k533 + 1) zs688) = some r := hm
            generalize hn685 : forI (fun k y s683 n => m_gridhallkeep4_PermitGone_b9 devices k y s683.1 s683.2.1 s683.2.2.1 s683.2.2.2 n) (fun s683 => m_gridhallkeep4_PermitGone_b6 devices s683.2.1 s683.2.2.1 s683.2.2.2) (k533 + 1) zs688 = nx684 at hm
            unfold m_gridhallkeep4_PermitGone_b9 at hm
            refine C_skip (E_then ?_)
            refine C_seq_join (fun H' M' L' => ∃ n716 : Int, ∃ l718 : (List ByteArray), ∃ l722 : List S_api_PermitPaper, ∃ n724 : Int, ∃ v717 : Value, ∃ v720 : Value, ∃ xs721 : List Value, m_gridhallkeep4_PermitGone_b10 nx684 n716 l718 l722 n724 = some r ∧ RdS H' v717 l718 ∧ Rw H' v720 xs721 l722 ∧ H681.le H' ∧ .row v720 43 (Rep.sz S_api_PermitPaper) l722.length xs721 :: .obj b104 (.cells [v717, v720, .int .i64 (n724)].toArray 63 (0, 0)) :: M = M' ∧ [(0, v0), (5, .pointer (some ⟨b104, 0, none⟩)), (7, .int .i64 (n716)), (40, v530), (41, .int .i64 (((slc holders 0 ((min (holders.length : Int) 10 : Int).toNat)).length : Int))), (42, .int .i64 ((k533 : Int)))] = L') ?_ (fun J727 => ?_)
            · rintro H725 _ _ ⟨n716, l718, l722, n724, v717, v720, xs721, hm, h719, hr723, hle726, rfl, rfl⟩
              unfold m_gridhallkeep4_PermitGone_b10 at hm
              refine C_region ?_
              refine W_bin rfl rfl rfl rfl rfl ?_
              refine W_move rfl rfl rfl ?_
              refine W_end ?_
              exact E_keepJ (E_back (Nat.lt_succ_self _) ⟨k533 + 1, zs688, n716, l718, l722, n724, v717, v720, xs721, hd691, rfl, (by rw [hn685]; exact hm), h719, hr723, (Hp.le_trans hle682 hle726), rfl, rfl⟩) (List.Perm.refl _) ⟨rfl, rfl, rfl, rfl, rfl, (congrArg (fun z => some (Value.int .i64 z)) (i64_succ hy689 ((h531.mono hle682)).lenMax)), trivial⟩
            · refine C_block ?_
              refine C_seq ?_
              refine C_region ?_
              refine W_move rfl rfl rfl ?_
              obtain ⟨_, rfl, hc728⟩ := (h531).elem hy689
              refine W_indexS rfl rfl Proofs.Try.runUnderlying33 Proofs.Try.sizeOf9 rfl (h531.mono hle682) rfl (Int.natCast_nonneg _) hy689 ?_
              refine W_load rfl rfl Proofs.Try.isAgg9 rfl (HCells.one (hc728.mono hle682) 0 rfl).at ?_
              refine W_assign rfl rfl rfl ?_
              refine W_assign rfl rfl rfl ?_
              refine W_end ?_
              refine E_then ?_
              refine C_seq ?_
              refine C_seq ?_
              refine C_region ?_
              refine W_move rfl rfl rfl ?_
              refine W_lenR rfl rfl Proofs.Try.runUnderlying33 rfl ((h0.mono hle115).mono hle682) ?_
              refine W_bin rfl rfl rfl rfl rfl ?_
              refine W_end ?_
              refine E_then ?_
              refine C_cond (b := decide ((devices.length : Int) = 0)) rfl (fun hb729 => ?_) (fun hb729 => ?_)
              · have hm := ite_t' hb729 hm
                refine C_exit ?_
                refine E_exit_then ?_
                refine E_exit_miss rfl ?_
                refine E_exit_then ?_
                refine E_exit_then ?_
                refine E_exit_hit ?_
                exact E_keepJ (J367 _ _ _ ⟨l674, l678, n680, v673, v676, xs677, hm, h675, hr679, hle682, rfl, rfl⟩) (List.Perm.refl _) ⟨rfl, trivial⟩
              · have hm := ite_f' hb729 hm
                refine C_skip ?_
                refine E_then ?_
                refine C_seq ?_
                refine C_region ?_
                refine W_move rfl rfl rfl ?_
                refine W_move rfl rfl rfl ?_
                refine W_move rfl rfl rfl ?_
                refine W_move rfl rfl rfl ?_
                refine W_move rfl rfl rfl ?_
                refine W_lenR rfl rfl Proofs.Try.runUnderlying33 rfl ((h0.mono hle115).mono hle682) ?_
                obtain ⟨hq730, hm⟩ := need_some hm
                refine W_rem rfl rfl rfl rfl hq730 ?_
                obtain ⟨hz731, hm⟩ := need_some hm
                refine W_sliceR (α := ByteArray) (l := (Int.tmod (k533 : Int) (devices.length : Int) : Int).toNat) (h := devices.length) (xs := devices) rfl rfl Proofs.Try.runUnderlying33 Proofs.Try.sizeOf9 rfl ((h0.mono hle115).mono hle682) (by omega) (by omega) (.inl rfl) (fun cap hcap => by rw [if_pos rfl]; exact (.inl ⟨rfl, rfl⟩)) (fun m hmm => (.inl ⟨rfl, rfl⟩)) (.inr ⟨_, _, _, rfl, rfl, by omega, by omega, rfl⟩) ?_
                intro v732 h733 hc734
                obtain ⟨hz735, hm⟩ := need_some hm
                refine W_sliceR (α := ByteArray) (l := 0) (h := (1 : Int).toNat) (xs := slc devices (Int.tmod (k533 : Int) (devices.length : Int) : Int).toNat devices.length) rfl rfl Proofs.Try.runUnderlying33 Proofs.Try.sizeOf9 rfl h733 (by omega) (by omega) (.inl rfl) (fun cap hcap => by rw [if_pos rfl]; exact (.inl ⟨rfl, rfl⟩)) (fun m hmm => (.inr ⟨_, _, _, rfl, rfl, by omega, by omega, rfl⟩)) (.inl ⟨rfl, rfl⟩) ?_
                intro v736 h737 hc738
                refine W_perm (List.Perm.swap _ _ _) ?_
                obtain ⟨r739, hc740, hm⟩ := bind_some hm
                refine W_call Proofs.Try.call13 rfl rfl rfl (fun w ht => by have h := m_permit_Desk_Issue_c (hm := hc740) h675 hr679 h737 ht; exact h) ?_
                rintro _ H747 _ ⟨hle748, v742, v744, xs745, rfl, rfl, h743, h746⟩
                refine W_move rfl rfl rfl ?_
                refine W_extract rfl rfl rfl rfl ?_
                refine W_extract rfl rfl rfl rfl ?_
                refine W_assign rfl rfl rfl ?_
                refine W_assign rfl rfl rfl ?_
                refine W_end ?_
                refine E_then ?_
                refine C_seq ?_
                refine C_region ?_
                refine W_move rfl rfl rfl ?_
                refine W_bin rfl rfl rfl rfl rfl ?_
                refine W_end ?_
                refine E_then ?_
                refine C_cond (b := decide (r739.2.1 = 0)) rfl (fun hb749 => ?_) (fun hb749 => ?_)
                · have hm := ite_t' hb749 hm
                  refine C_seq ?_
                  refine C_seq ?_
                  refine C_region ?_
                  refine W_move rfl rfl rfl ?_
                  refine W_move rfl rfl rfl ?_
                  refine W_bin rfl rfl rfl rfl rfl ?_
                  refine W_end ?_
                  refine E_then ?_
                  refine C_cond (b := decide (r739.1 ≤ n672)) rfl (fun hb750 => ?_) (fun hb750 => ?_)
                  · have hm := ite_t' hb750 hm
                    refine C_seq ?_
                    refine C_region ?_
                    refine W_assign rfl rfl rfl ?_
                    refine W_end ?_
                    refine E_then ?_
                    refine C_ret ?_
                    refine E_ret_then ?_
                    refine E_ret_block ?_
                    refine E_ret_then ?_
                    refine E_ret_then ?_
                    refine E_ret_block ?_
                    refine E_ret_then ?_
                    obtain rfl := Option.some.inj hm
                    refine E_drop (List.Sublist.cons _ (List.Sublist.cons _ (List.Sublist.refl _))) ?_
                    refine E_weak (Hp.le_trans (Hp.le_trans hle115 hle682) hle748) ?_
                    exact end1 rfl rfl ⟨rfl, rfl, rfl⟩
                  · have hm := ite_f' hb750 hm
                    refine C_skip ?_
                    refine E_then ?_
                    refine C_region ?_
                    refine W_move rfl rfl rfl ?_
                    refine W_assign rfl rfl rfl ?_
                    refine W_end ?_
                    refine E_normal_block ?_
                    exact E_keepJ (J727 _ _ _ ⟨r739.1, r739.2.2.devices, r739.2.2.papers, r739.2.2.last, v742, v744, xs745, hm, h743, h746, hle748, rfl, rfl⟩) (List.Perm.swap _ _ _) ⟨rfl, rfl, rfl, rfl, rfl, rfl, trivial⟩
                · have hm := ite_f' hb749 hm
                  refine C_skip ?_
                  refine E_normal_block ?_
                  exact E_keepJ (J727 _ _ _ ⟨n672, r739.2.2.devices, r739.2.2.papers, r739.2.2.last, v742, v744, xs745, hm, h743, h746, hle748, rfl, rfl⟩) (List.Perm.swap _ _ _) ⟨rfl, rfl, rfl, rfl, rfl, rfl, trivial⟩
          · obtain rfl := rng_f hd690 hb692
            have hm : (m_gridhallkeep4_PermitGone_b6 devices l674 l678 n680) = some r := hm
            refine C_exit (E_exit_then ?_)
            refine E_exit_then ?_
            refine E_exit_hit ?_
            exact E_keepJ (J367 _ _ _ ⟨l674, l678, n680, v673, v676, xs677, hm, h675, hr679, hle682, rfl, rfl⟩) (List.Perm.refl _) ⟨rfl, trivial⟩
    · refine C_region ?_
      refine W_move rfl rfl rfl ?_
      refine W_bin rfl rfl rfl rfl rfl ?_
      refine W_move rfl rfl rfl ?_
      cases hb751 : (decide (r101.2 = 0))
      · refine W_no rfl rfl rfl ?_
        refine W_no rfl rfl rfl ?_
        refine W_pick rfl rfl rfl rfl ?_
        refine W_end ?_
        exact E_keepJ (J127 _ _ _ ⟨rfl, rfl, rfl⟩) (List.Perm.refl _) ⟨rfl, rfl, rfl, rfl, (by show some (Value.bool (true)) = some (Value.bool (!decide (r101.2 = 0))); simp only [hb751, Bool.and_true, Bool.true_and, Bool.false_and, Bool.and_false, Bool.or_true, Bool.true_or, Bool.or_false, Bool.false_or, Bool.not_true, Bool.not_false]), trivial⟩
      · refine W_move rfl rfl rfl ?_
        refine W_ptrNil rfl rfl Proofs.Try.runUnderlying34 rfl rfl ?_
        refine W_pick rfl rfl rfl rfl ?_
        refine W_end ?_
        exact E_keepJ (J127 _ _ _ ⟨rfl, rfl, rfl⟩) (List.Perm.refl _) ⟨rfl, rfl, rfl, rfl, (by show some (Value.bool (false)) = some (Value.bool (!decide (r101.2 = 0))); simp only [hb751, Bool.and_true, Bool.true_and, Bool.false_and, Bool.and_false, Bool.or_true, Bool.true_or, Bool.or_false, Bool.false_or, Bool.not_true, Bool.not_false]), trivial⟩
end Go.Sim
