/-
  Printed by a program: each Go function computes its model.
-/
import Derived.Test.YtnfkndhlceiicaaModB
import Derived.Test.YtnfkndhlceiicaaRows
import Derived.KernelRfl
namespace Go.Sim
open Go
set_option linter.unusedVariables false
set_option linter.unusedSimpArgs false
set_option maxRecDepth 100000
theorem Facts.mixed : Proofs.Try.prog.follows .mixedOrders = true := by kernel_rfl

theorem m_netmodel_Name_c {B : Nat} {w0 w : World} {H : Hp} {M : List Res} {p0_s : ByteArray} {r : Bool} (hm : m_netmodel_Name p0_s = some r) (ht : St B w0 H (M) w) :
    Calls Proofs.Try.prog 18 [.string (p0_s)].toArray w (Ret B w0 fun H' M' v => H = H' ∧ M = M' ∧ .bool (r) = v) := by
  unfold m_netmodel_Name at hm
  refine enter Proofs.Try.func18 rfl rfl rfl ht ?_
  refine C_seq ?_
  refine C_region ?_
  refine W_assign rfl rfl rfl ?_
  refine W_end ?_
  refine E_then ?_
  refine C_seq ?_
  refine C_seq ?_
  refine C_region ?_
  refine W_move rfl rfl rfl ?_
  obtain ⟨hz101, hm⟩ := need_some hm
  refine W_convBytes rfl rfl Proofs.Try.runUnderlying9 Proofs.Try.runUnderlying66 Proofs.Try.runUnderlying5 rfl hz101 ?_
  intro v102 H103 hle104 h105
  refine W_lenR rfl rfl Proofs.Try.runUnderlying66 rfl h105 ?_
  refine W_move rfl rfl rfl ?_
  refine W_end ?_
  refine E_then ?_
  refine C_block ?_
  refine C_keep (L' := [(0, .string (p0_s)), (6, v102), (7, .int .i64 (((bytesL p0_s).length : Int))), (8, .int .i64 (((0 : Nat) : Int)))]) ⟨rfl, rfl, rfl, rfl, trivial⟩ (List.Perm.refl _) ?_
  refine C_loop (fun n H' M' L' => ∃ (k106 : Nat) (zs144' : List U8), (bytesL p0_s).drop k106 = zs144' ∧ zs144'.length = n ∧ forI (fun k y s139 n => m_netmodel_Name_b1 k y n) (fun _ => some ((decide (1 ≤ (p0_s.size : Int))) && (decide ((p0_s.size : Int) ≤ 8)))) k106 zs144' () = some r ∧ H103.le H' ∧ M = M' ∧ [(0, .string (p0_s)), (6, v102), (7, .int .i64 (((bytesL p0_s).length : Int))), (8, .int .i64 ((k106 : Int)))] = L') _ ⟨0, _, rfl, rfl, hm, (Hp.le_refl _), rfl, rfl⟩ ?_
  rintro _ H137 _ _ ⟨k106, zs144', hd146, rfl, hm, hle138, rfl, rfl⟩
  refine C_seq ?_
  refine C_region ?_
  refine W_bin rfl rfl rfl rfl rfl ?_
  refine W_end (E_then ?_)
  refine C_seq ?_
  refine C_cond (b := decide ((k106 : Int) < ((bytesL p0_s).length : Int))) rfl (fun hb148 => ?_) (fun hb148 => ?_)
  · obtain ⟨y143, zs144, rfl, hy145, hd147⟩ := rng_t hd146 hb148
    have hm : m_netmodel_Name_b1 k106 y143 (forI (fun k y s139 n => m_netmodel_Name_b1 k y n) (fun _ => some ((decide (1 ≤ (p0_s.size : Int))) && (decide ((p0_s.size : Int) ≤ 8)))) (k106 + 1) zs144) = some r := hm
    generalize hn141 : forI (fun k y s139 n => m_netmodel_Name_b1 k y n) (fun _ => some ((decide (1 ≤ (p0_s.size : Int))) && (decide ((p0_s.size : Int) ≤ 8)))) (k106 + 1) zs144 = nx140 at hm
    unfold m_netmodel_Name_b1 at hm
    refine C_skip (E_then ?_)
    refine C_seq ?_
    refine C_block ?_
    refine C_seq ?_
    refine C_region ?_
    refine W_move rfl rfl rfl ?_
    obtain ⟨_, rfl, hc149⟩ := (h105).elem hy145
    refine W_indexS rfl rfl Proofs.Try.runUnderlying66 Proofs.Try.sizeOf5 rfl (h105.mono hle138) rfl (Int.natCast_nonneg _) hy145 ?_
    refine W_load rfl rfl Proofs.Try.isAgg5 rfl (HCells.one (hc149.mono hle138) 0 rfl).at ?_
    refine W_assign rfl rfl rfl ?_
    refine W_assign rfl rfl rfl ?_
    refine W_end ?_
    refine E_then ?_
    refine C_seq_join (fun H' M' L' => H137 = H' ∧ M = M' ∧ [(0, .string (p0_s)), (6, v102), (7, .int .i64 (((bytesL p0_s).length : Int))), (8, .int .i64 ((k106 : Int))), (31, .bool (!(((decide (65 ≤ y143.n)) && (decide (y143.n ≤ 90))) || (((decide (0 < (k106 : Int))) && (decide (48 ≤ y143.n))) && (decide (y143.n ≤ 57))))))] = L') ?_ (fun J156 => ?_)
    · rintro _ _ _ ⟨rfl, rfl, rfl⟩
      refine C_cond (b := !(((decide (65 ≤ y143.n)) && (decide (y143.n ≤ 90))) || (((decide (0 < (k106 : Int))) && (decide (48 ≤ y143.n))) && (decide (y143.n ≤ 57))))) rfl (fun hb157 => ?_) (fun hb157 => ?_)
      · have hm := ite_t' hb157 hm
        refine C_seq ?_
        refine C_region ?_
        refine W_assign rfl rfl rfl ?_
        refine W_end ?_
        refine E_then ?_
        refine C_ret ?_
        refine E_ret_block ?_
        refine E_ret_then ?_
        refine E_ret_then ?_
        refine E_ret_block ?_
        refine E_ret_then ?_
        obtain rfl := Option.some.inj hm
        refine E_weak (Hp.le_trans hle104 hle138) ?_
        exact end1 rfl rfl ⟨rfl, rfl, rfl⟩
      · have hm := ite_f' hb157 hm
        refine C_skip ?_
        refine E_normal_block ?_
        refine E_then ?_
        refine C_region ?_
        refine W_bin rfl rfl rfl rfl rfl ?_
        refine W_move rfl rfl rfl ?_
        refine W_end ?_
        exact E_keepJ (E_back (Nat.lt_succ_self _) ⟨k106 + 1, zs144, hd147, rfl, (by rw [hn141]; exact hm), hle138, rfl, rfl⟩) (List.Perm.refl _) ⟨rfl, rfl, rfl, (congrArg (fun z => some (Value.int .i64 z)) (i64_succ hy145 ((h105.mono hle138)).lenMax)), trivial⟩
    · refine C_region ?_
      refine W_move rfl rfl rfl ?_
      refine W_bin rfl rfl rfl rfl rfl ?_
      refine W_move rfl rfl rfl ?_
      cases hb158 : (decide (65 ≤ y143.n))
      · refine W_no rfl rfl rfl ?_
        refine W_no rfl rfl rfl ?_
        refine W_pick rfl rfl rfl rfl ?_
        refine W_move rfl rfl rfl ?_
        refine W_move rfl rfl rfl ?_
        refine W_bin rfl rfl rfl rfl rfl ?_
        refine W_move rfl rfl rfl ?_
        cases hb159 : (decide (0 < (k106 : Int)))
        · refine W_no rfl rfl rfl ?_
          refine W_no rfl rfl rfl ?_
          refine W_pick rfl rfl rfl rfl ?_
          refine W_move rfl rfl rfl ?_
          refine W_no rfl rfl rfl ?_
          refine W_no rfl rfl rfl ?_
          refine W_pick rfl rfl rfl rfl ?_
          refine W_pick rfl rfl rfl rfl ?_
          refine W_un rfl rfl rfl rfl ?_
          refine W_end ?_
          exact E_keepJ (J156 _ _ _ ⟨rfl, rfl, rfl⟩) (List.Perm.refl _) ⟨rfl, rfl, rfl, rfl, (by show some (Value.bool (true)) = some (Value.bool (!(((decide (65 ≤ y143.n)) && (decide (y143.n ≤ 90))) || (((decide (0 < (k106 : Int))) && (decide (48 ≤ y143.n))) && (decide (y143.n ≤ 57)))))); simp only [hb158, hb159, Bool.and_true, Bool.true_and, Bool.false_and, Bool.and_false, Bool.or_true, Bool.true_or, Bool.or_false, Bool.false_or, Bool.not_true, Bool.not_false]), trivial⟩
        · refine W_move rfl rfl rfl ?_
          refine W_bin rfl rfl rfl rfl rfl ?_
          refine W_pick rfl rfl rfl rfl ?_
          refine W_move rfl rfl rfl ?_
          cases hb160 : (decide (48 ≤ y143.n))
          · refine W_no rfl rfl rfl ?_
            refine W_no rfl rfl rfl ?_
            refine W_pick rfl rfl rfl rfl ?_
            refine W_pick rfl rfl rfl rfl ?_
            refine W_un rfl rfl rfl rfl ?_
            refine W_end ?_
            exact E_keepJ (J156 _ _ _ ⟨rfl, rfl, rfl⟩) (List.Perm.refl _) ⟨rfl, rfl, rfl, rfl, (by show some (Value.bool (true)) = some (Value.bool (!(((decide (65 ≤ y143.n)) && (decide (y143.n ≤ 90))) || (((decide (0 < (k106 : Int))) && (decide (48 ≤ y143.n))) && (decide (y143.n ≤ 57)))))); simp only [hb158, hb159, hb160, Bool.and_true, Bool.true_and, Bool.false_and, Bool.and_false, Bool.or_true, Bool.true_or, Bool.or_false, Bool.false_or, Bool.not_true, Bool.not_false]), trivial⟩
          · refine W_move rfl rfl rfl ?_
            refine W_bin rfl rfl rfl rfl rfl ?_
            refine W_pick rfl rfl rfl rfl ?_
            refine W_pick rfl rfl rfl rfl ?_
            refine W_un rfl rfl rfl rfl ?_
            refine W_end ?_
            exact E_keepJ (J156 _ _ _ ⟨rfl, rfl, rfl⟩) (List.Perm.refl _) ⟨rfl, rfl, rfl, rfl, (by show some (Value.bool (!(decide (y143.n ≤ 57)))) = some (Value.bool (!(((decide (65 ≤ y143.n)) && (decide (y143.n ≤ 90))) || (((decide (0 < (k106 : Int))) && (decide (48 ≤ y143.n))) && (decide (y143.n ≤ 57)))))); simp only [hb158, hb159, hb160, Bool.and_true, Bool.true_and, Bool.false_and, Bool.and_false, Bool.or_true, Bool.true_or, Bool.or_false, Bool.false_or, Bool.not_true, Bool.not_false]), trivial⟩
      · refine W_move rfl rfl rfl ?_
        refine W_bin rfl rfl rfl rfl rfl ?_
        refine W_pick rfl rfl rfl rfl ?_
        refine W_move rfl rfl rfl ?_
        cases hb161 : (decide (y143.n ≤ 90))
        · refine W_move rfl rfl rfl ?_
          refine W_bin rfl rfl rfl rfl rfl ?_
          refine W_move rfl rfl rfl ?_
          cases hb162 : (decide (0 < (k106 : Int)))
          · refine W_no rfl rfl rfl ?_
            refine W_no rfl rfl rfl ?_
            refine W_pick rfl rfl rfl rfl ?_
            refine W_move rfl rfl rfl ?_
            refine W_no rfl rfl rfl ?_
            refine W_no rfl rfl rfl ?_
            refine W_pick rfl rfl rfl rfl ?_
            refine W_pick rfl rfl rfl rfl ?_
            refine W_un rfl rfl rfl rfl ?_
            refine W_end ?_
            exact E_keepJ (J156 _ _ _ ⟨rfl, rfl, rfl⟩) (List.Perm.refl _) ⟨rfl, rfl, rfl, rfl, (by show some (Value.bool (true)) = some (Value.bool (!(((decide (65 ≤ y143.n)) && (decide (y143.n ≤ 90))) || (((decide (0 < (k106 : Int))) && (decide (48 ≤ y143.n))) && (decide (y143.n ≤ 57)))))); simp only [hb158, hb161, hb162, Bool.and_true, Bool.true_and, Bool.false_and, Bool.and_false, Bool.or_true, Bool.true_or, Bool.or_false, Bool.false_or, Bool.not_true, Bool.not_false]), trivial⟩
          · refine W_move rfl rfl rfl ?_
            refine W_bin rfl rfl rfl rfl rfl ?_
            refine W_pick rfl rfl rfl rfl ?_
            refine W_move rfl rfl rfl ?_
            cases hb163 : (decide (48 ≤ y143.n))
            · refine W_no rfl rfl rfl ?_
              refine W_no rfl rfl rfl ?_
              refine W_pick rfl rfl rfl rfl ?_
              refine W_pick rfl rfl rfl rfl ?_
              refine W_un rfl rfl rfl rfl ?_
              refine W_end ?_
              exact E_keepJ (J156 _ _ _ ⟨rfl, rfl, rfl⟩) (List.Perm.refl _) ⟨rfl, rfl, rfl, rfl, (by show some (Value.bool (true)) = some (Value.bool (!(((decide (65 ≤ y143.n)) && (decide (y143.n ≤ 90))) || (((decide (0 < (k106 : Int))) && (decide (48 ≤ y143.n))) && (decide (y143.n ≤ 57)))))); simp only [hb158, hb161, hb162, hb163, Bool.and_true, Bool.true_and, Bool.false_and, Bool.and_false, Bool.or_true, Bool.true_or, Bool.or_false, Bool.false_or, Bool.not_true, Bool.not_false]), trivial⟩
            · refine W_move rfl rfl rfl ?_
              refine W_bin rfl rfl rfl rfl rfl ?_
              refine W_pick rfl rfl rfl rfl ?_
              refine W_pick rfl rfl rfl rfl ?_
              refine W_un rfl rfl rfl rfl ?_
              refine W_end ?_
              exact E_keepJ (J156 _ _ _ ⟨rfl, rfl, rfl⟩) (List.Perm.refl _) ⟨rfl, rfl, rfl, rfl, (by show some (Value.bool (!(decide (y143.n ≤ 57)))) = some (Value.bool (!(((decide (65 ≤ y143.n)) && (decide (y143.n ≤ 90))) || (((decide (0 < (k106 : Int))) && (decide (48 ≤ y143.n))) && (decide (y143.n ≤ 57)))))); simp only [hb158, hb161, hb162, hb163, Bool.and_true, Bool.true_and, Bool.false_and, Bool.and_false, Bool.or_true, Bool.true_or, Bool.or_false, Bool.false_or, Bool.not_true, Bool.not_false]), trivial⟩
        · refine W_no rfl rfl rfl ?_
          refine W_no rfl rfl rfl ?_
          refine W_no rfl rfl rfl ?_
          refine W_no rfl rfl rfl ?_
          refine W_no rfl rfl rfl ?_
          refine W_no rfl rfl rfl ?_
          refine W_no rfl rfl rfl ?_
          refine W_no rfl rfl rfl ?_
          refine W_no rfl rfl rfl ?_
          refine W_no rfl rfl rfl ?_
          refine W_pick rfl rfl rfl rfl ?_
          refine W_un rfl rfl rfl rfl ?_
          refine W_end ?_
          exact E_keepJ (J156 _ _ _ ⟨rfl, rfl, rfl⟩) (List.Perm.refl _) ⟨rfl, rfl, rfl, rfl, (by show some (Value.bool (false)) = some (Value.bool (!(((decide (65 ≤ y143.n)) && (decide (y143.n ≤ 90))) || (((decide (0 < (k106 : Int))) && (decide (48 ≤ y143.n))) && (decide (y143.n ≤ 57)))))); simp only [hb158, hb161, Bool.and_true, Bool.true_and, Bool.false_and, Bool.and_false, Bool.or_true, Bool.true_or, Bool.or_false, Bool.false_or, Bool.not_true, Bool.not_false]), trivial⟩
  · obtain rfl := rng_f hd146 hb148
    have hm : (some ((decide (1 ≤ (p0_s.size : Int))) && (decide ((p0_s.size : Int) ≤ 8)))) = some r := hm
    refine C_exit (E_exit_then ?_)
    refine E_exit_then ?_
    refine E_exit_hit ?_
    refine E_then ?_
    refine C_seq_join (fun H' M' L' => H137 = H' ∧ M = M' ∧ [(2, .bool ((decide (1 ≤ (p0_s.size : Int))) && (decide ((p0_s.size : Int) ≤ 8))))] = L') ?_ (fun J165 => ?_)
    · rintro _ _ _ ⟨rfl, rfl, rfl⟩
      refine C_ret ?_
      obtain rfl := Option.some.inj hm
      refine E_weak (Hp.le_trans hle104 hle138) ?_
      exact end1 rfl rfl ⟨rfl, rfl, rfl⟩
    · refine C_region ?_
      refine W_move rfl rfl rfl ?_
      refine W_lenStr rfl rfl Proofs.Try.runUnderlying9 rfl ?_
      refine W_bin rfl rfl rfl rfl rfl ?_
      refine W_move rfl rfl rfl ?_
      cases hb166 : (decide (1 ≤ (p0_s.size : Int)))
      · refine W_no rfl rfl rfl ?_
        refine W_no rfl rfl rfl ?_
        refine W_no rfl rfl rfl ?_
        refine W_pick rfl rfl rfl rfl ?_
        refine W_assign rfl rfl rfl ?_
        refine W_end ?_
        exact E_keepJ (J165 _ _ _ ⟨rfl, rfl, rfl⟩) (List.Perm.refl _) ⟨(by show some (Value.bool (false)) = some (Value.bool ((decide (1 ≤ (p0_s.size : Int))) && (decide ((p0_s.size : Int) ≤ 8)))); simp only [hb166, Bool.and_true, Bool.true_and, Bool.false_and, Bool.and_false, Bool.or_true, Bool.true_or, Bool.or_false, Bool.false_or, Bool.not_true, Bool.not_false]), trivial⟩
      · refine W_move rfl rfl rfl ?_
        refine W_lenStr rfl rfl Proofs.Try.runUnderlying9 rfl ?_
        refine W_bin rfl rfl rfl rfl rfl ?_
        refine W_pick rfl rfl rfl rfl ?_
        refine W_assign rfl rfl rfl ?_
        refine W_end ?_
        exact E_keepJ (J165 _ _ _ ⟨rfl, rfl, rfl⟩) (List.Perm.refl _) ⟨(by show some (Value.bool (decide ((p0_s.size : Int) ≤ 8))) = some (Value.bool ((decide (1 ≤ (p0_s.size : Int))) && (decide ((p0_s.size : Int) ≤ 8)))); simp only [hb166, Bool.and_true, Bool.true_and, Bool.false_and, Bool.and_false, Bool.or_true, Bool.true_or, Bool.or_false, Bool.false_or, Bool.not_true, Bool.not_false]), trivial⟩

theorem m_slices_Index_api_AlarmCause_api_AlarmCause_c {B : Nat} {w0 w : World} {H : Hp} {M : List Res} {p0_s : (List S_api_AlarmCause)} {p1_v : S_api_AlarmCause} {v0 : Value} {r : Int} (hm : m_slices_Index_api_AlarmCause_api_AlarmCause p0_s p1_v = some r) (h0 : RdS H v0 p0_s) (ht : St B w0 H (M) w) :
    Calls Proofs.Try.prog 35 [v0, .agg [.string (p1_v.Of), .string (p1_v.By)].toArray].toArray w (Ret B w0 fun H' M' v => H = H' ∧ M = M' ∧ .int .i64 (r) = v) := by
  unfold m_slices_Index_api_AlarmCause_api_AlarmCause at hm
  refine enter Proofs.Try.func35 rfl rfl rfl ht ?_
  refine C_seq ?_
  refine C_region ?_
  refine W_box (cs := [.string (p1_v.Of), .string (p1_v.By)]) rfl rfl rfl rfl (fun b101 => ?_)
  refine W_assign rfl rfl rfl ?_
  refine W_end ?_
  refine E_then ?_
  refine C_seq ?_
  refine C_seq ?_
  refine C_region ?_
  refine W_move rfl rfl rfl ?_
  refine W_lenR rfl rfl Proofs.Try.runUnderlying22 rfl h0 ?_
  refine W_move rfl rfl rfl ?_
  refine W_end ?_
  refine E_then ?_
  refine C_block ?_
  refine C_keep (L' := [(0, v0), (3, .pointer (some ⟨b101, 0, none⟩)), (7, .int .i64 ((p0_s.length : Int))), (8, .int .i64 (((0 : Nat) : Int)))]) ⟨rfl, rfl, rfl, rfl, trivial⟩ (List.Perm.refl _) ?_
  refine C_loop (fun n H' M' L' => ∃ (k102 : Nat) (zs128' : Nat), k102 + zs128' = ((p0_s.length : Int) : Int).toNat ∧ zs128' = n ∧ forN (fun k s123 n => m_slices_Index_api_AlarmCause_api_AlarmCause_b1 p0_s p1_v k n) (fun _ => some (-1)) zs128' k102 () = some r ∧ H.le H' ∧ .obj b101 (.cells [.string (p1_v.Of), .string (p1_v.By)].toArray 45 (0, 0)) :: M = M' ∧ [(0, v0), (3, .pointer (some ⟨b101, 0, none⟩)), (7, .int .i64 ((p0_s.length : Int))), (8, .int .i64 ((k102 : Int)))] = L') _ ⟨0, _, Nat.zero_add _, rfl, hm, (Hp.le_refl _), rfl, rfl⟩ ?_
  rintro _ H121 _ _ ⟨k102, zs128', hd130, rfl, hm, hle122, rfl, rfl⟩
  refine C_seq ?_
  refine C_region ?_
  refine W_bin rfl rfl rfl rfl rfl ?_
  refine W_end (E_then ?_)
  refine C_seq ?_
  refine C_cond (b := decide ((k102 : Int) < (p0_s.length : Int))) rfl (fun hb132 => ?_) (fun hb132 => ?_)
  · obtain ⟨zs128, rfl, hd131, hy129⟩ := rngN_t hd130 hb132
    have hm : m_slices_Index_api_AlarmCause_api_AlarmCause_b1 p0_s p1_v k102 (forN (fun k s123 n => m_slices_Index_api_AlarmCause_api_AlarmCause_b1 p0_s p1_v k n) (fun _ => some (-1)) zs128 (k102 + 1)) = some r := hm
    generalize hn125 : forN (fun k s123 n => m_slices_Index_api_AlarmCause_api_AlarmCause_b1 p0_s p1_v k n) (fun _ => some (-1)) zs128 (k102 + 1) = nx124 at hm
    unfold m_slices_Index_api_AlarmCause_api_AlarmCause_b1 at hm
    refine C_skip (E_then ?_)
    refine C_seq ?_
    refine C_block ?_
    refine C_seq ?_
    refine C_region ?_
    refine W_move rfl rfl rfl ?_
    refine W_assign rfl rfl rfl ?_
    refine W_end ?_
    refine E_then ?_
    refine C_seq ?_
    obtain ⟨y133, h134, he135, hm⟩ := idx_some hm
    obtain ⟨_, ⟨rfl⟩, hc136⟩ := (h0).elem he135
    refine C_region_tok0 5 (phiT [(fun H rs v => [] = rs ∧ .agg [.string (p1_v.Of), .string (p1_v.By)].toArray = v), (fun H rs v => [] = rs ∧ v0 = v), (fun H rs v => [] = rs ∧ .int .i64 ((k102 : Int)) = v), (fun H rs v => [] = rs ∧ .pointer (some ((Value.base (v0)).add (((k102 : Int) : Int).toNat * 2))) = v), (fun H rs v => [] = rs ∧ .agg [.string (y133.Of), .string (y133.By)].toArray = v)]) [[], [], [], [], []] [[], [], [], [], []] [] [0, 1, 2, 3, 4] Facts.mixed (by kernel_rfl) rfl rfl rfl (by kernel_rfl) (phiT_mono ⟨eq_monoT _ _, eq_monoT _ _, eq_monoT _ _, eq_monoT _ _, eq_monoT _ _, trivial⟩) ⟨?_, ?_, ?_, ?_, ?_, trivial⟩ ?_
    · intro HX hX X Rest hR
      intro hU
      refine W_loadAgg rfl rfl Proofs.Try.isAgg45 Proofs.Try.sizeOf45 rfl (own_all (hR _ (List.mem_cons_self ..))) rfl ?_
      exact W_end (OneT_end [] (Hp.le_refl _) ⟨rfl, rfl⟩)
    · intro HX hX X Rest hR
      intro hU
      refine W_move rfl rfl rfl ?_
      exact W_end (OneT_end [] (Hp.le_refl _) ⟨rfl, rfl⟩)
    · intro HX hX X Rest hR
      intro hU
      refine W_move rfl rfl rfl ?_
      exact W_end (OneT_end [] (Hp.le_refl _) ⟨rfl, rfl⟩)
    · intro HX hX X Rest hR
      rintro _ _ ⟨rfl, rfl⟩
      rintro _ _ ⟨rfl, rfl⟩
      intro hU
      refine W_indexS rfl rfl Proofs.Try.runUnderlying22 Proofs.Try.sizeOf45 rfl ((h0.mono hle122).mono hX) rfl h134 he135 ?_
      exact W_end (OneT_end [] (Hp.le_refl _) ⟨rfl, rfl⟩)
    · intro HX hX X Rest hR
      rintro _ _ ⟨rfl, rfl⟩
      intro hU
      refine W_loadAgg rfl rfl Proofs.Try.isAgg45 Proofs.Try.sizeOf45 rfl ((hc136.mono hle122).mono hX).at rfl ?_
      exact W_end (OneT_end [] (Hp.le_refl _) ⟨rfl, rfl⟩)
    intro H137 hle138
    rintro _ _ ⟨rfl, rfl⟩
    rintro _ _ ⟨rfl, rfl⟩
    rintro _ _ ⟨rfl, rfl⟩
    rintro _ _ ⟨rfl, rfl⟩
    rintro _ _ ⟨rfl, rfl⟩
    refine W_eqAgg (b := decide (p1_v.Of = y133.Of) && (decide (p1_v.By = y133.By) && true)) rfl rfl (by kernel_rfl) rfl rfl (fun w => run_equal_struct (bs := [decide (p1_v.Of = y133.Of), decide (p1_v.By = y133.By)]) Proofs.Try.runUnderlying45 (by kernel_rfl) ⟨(by decide), (fldEq_str Proofs.Try.isAgg9 Proofs.Try.runUnderlying9 rfl rfl), (by decide), (fldEq_str Proofs.Try.isAgg9 Proofs.Try.runUnderlying9 rfl rfl), trivial⟩) ?_
    refine W_end ?_
    refine E_then ?_
    refine C_cond (b := decide (p1_v.Of = y133.Of) && (decide (p1_v.By = y133.By) && true)) rfl (fun hb139 => ?_) (fun hb139 => ?_)
    · have hm := ite_t' hb139 hm
      refine C_seq ?_
      refine C_region ?_
      refine W_move rfl rfl rfl ?_
      refine W_assign rfl rfl rfl ?_
      refine W_end ?_
      refine E_then ?_
      refine C_ret ?_
      refine E_ret_block ?_
      refine E_ret_then ?_
      refine E_ret_then ?_
      refine E_ret_block ?_
      refine E_ret_then ?_
      obtain rfl := Option.some.inj hm
      refine E_drop (List.Sublist.cons _ (List.Sublist.refl _)) ?_
      refine E_weak (Hp.le_trans hle122 hle138) ?_
      exact end1 rfl rfl ⟨rfl, rfl, rfl⟩
    · have hm := ite_f' hb139 hm
      refine C_skip ?_
      refine E_normal_block ?_
      refine E_then ?_
      refine C_region ?_
      refine W_bin rfl rfl rfl rfl rfl ?_
      refine W_move rfl rfl rfl ?_
      refine W_end ?_
      exact E_keepJ (E_back (Nat.lt_succ_self _) ⟨k102 + 1, zs128, hd131, rfl, (by rw [hn125]; exact hm), (Hp.le_trans hle122 hle138), rfl, rfl⟩) (List.Perm.refl _) ⟨rfl, rfl, rfl, (congrArg (fun z => some (Value.int .i64 z)) (i64_succN hy129 (toNat_max (len_max (h0).lenMax)))), trivial⟩
  · obtain rfl := rngN_f hd130 hb132
    have hm : (some (-1)) = some r := hm
    refine C_exit (E_exit_then ?_)
    refine E_exit_then ?_
    refine E_exit_hit ?_
    refine E_then ?_
    refine C_seq ?_
    refine C_region ?_
    refine W_assign rfl rfl rfl ?_
    refine W_end ?_
    refine E_then ?_
    refine C_ret ?_
    obtain rfl := Option.some.inj hm
    refine E_drop (List.Sublist.cons _ (List.Sublist.refl _)) ?_
    refine E_weak hle122 ?_
    exact end1 rfl rfl ⟨rfl, rfl, rfl⟩

theorem m_slices_Contains_api_AlarmCause_api_AlarmCause_c {B : Nat} {w0 w : World} {H : Hp} {M : List Res} {p0_s : (List S_api_AlarmCause)} {p1_v : S_api_AlarmCause} {v0 : Value} {r : Bool} (hm : m_slices_Contains_api_AlarmCause_api_AlarmCause p0_s p1_v = some r) (h0 : RdS H v0 p0_s) (ht : St B w0 H (M) w) :
    Calls Proofs.Try.prog 19 [v0, .agg [.string (p1_v.Of), .string (p1_v.By)].toArray].toArray w (Ret B w0 fun H' M' v => H = H' ∧ M = M' ∧ .bool (r) = v) := by
  unfold m_slices_Contains_api_AlarmCause_api_AlarmCause at hm
  refine enter Proofs.Try.func19 rfl rfl rfl ht ?_
  refine C_seq ?_
  refine C_region ?_
  refine W_box (cs := [.string (p1_v.Of), .string (p1_v.By)]) rfl rfl rfl rfl (fun b101 => ?_)
  refine W_assign rfl rfl rfl ?_
  refine W_end ?_
  refine E_then ?_
  refine C_seq ?_
  refine C_region ?_
  refine W_move rfl rfl rfl ?_
  refine W_loadAgg rfl rfl Proofs.Try.isAgg45 Proofs.Try.sizeOf45 rfl (own_all (List.mem_cons_self ..)) rfl ?_
  obtain ⟨r102, hc103, hm⟩ := bind_some hm
  refine W_call Proofs.Try.call35 rfl rfl rfl (fun w ht => by have h := m_slices_Index_api_AlarmCause_api_AlarmCause_c (hm := hc103) h0 ht; exact h) ?_
  rintro _ _ _ ⟨rfl, rfl, rfl⟩
  refine W_bin rfl rfl rfl rfl rfl ?_
  refine W_assign rfl rfl rfl ?_
  refine W_end ?_
  refine E_then ?_
  refine C_ret ?_
  obtain rfl := Option.some.inj hm
  refine E_drop (List.Sublist.cons _ (List.Sublist.refl _)) ?_
  refine E_weak (Hp.le_refl _) ?_
  exact end1 rfl rfl ⟨rfl, rfl, rfl⟩

theorem m_alarm_Check_c {B : Nat} {w0 w : World} {H : Hp} {M : List Res} {p0_l : (List S_api_AlarmCause)} {v0 : Value} {r : Int} (hm : m_alarm_Check p0_l = some r) (h0 : RdS H v0 p0_l) (ht : St B w0 H (M) w) :
    Calls Proofs.Try.prog 6 [v0].toArray w (Ret B w0 fun H' M' v => H = H' ∧ M = M' ∧ .int .i64 (r) = v) := by
  unfold m_alarm_Check at hm
  refine enter Proofs.Try.func6 rfl rfl rfl ht ?_
  refine C_seq ?_
  refine C_region ?_
  refine W_assign rfl rfl rfl ?_
  refine W_end ?_
  refine E_then ?_
  refine C_seq ?_
  refine C_seq ?_
  refine C_region ?_
  refine W_move rfl rfl rfl ?_
  refine W_lenR rfl rfl Proofs.Try.runUnderlying22 rfl h0 ?_
  refine W_bin rfl rfl rfl rfl rfl ?_
  refine W_end ?_
  refine E_then ?_
  refine C_cond (b := decide (40 < (p0_l.length : Int))) rfl (fun hb101 => ?_) (fun hb101 => ?_)
  · have hm := ite_t' hb101 hm
    refine C_seq ?_
    refine C_region ?_
    refine W_assign rfl rfl rfl ?_
    refine W_end ?_
    refine E_then ?_
    refine C_ret ?_
    refine E_ret_then ?_
    obtain rfl := Option.some.inj hm
    refine E_weak (Hp.le_refl _) ?_
    exact end1 rfl rfl ⟨rfl, rfl, rfl⟩
  · have hm := ite_f' hb101 hm
    refine C_skip ?_
    refine E_then ?_
    refine C_seq ?_
    refine C_seq ?_
    refine C_region ?_
    refine W_move rfl rfl rfl ?_
    refine W_lenR rfl rfl Proofs.Try.runUnderlying22 rfl h0 ?_
    refine W_move rfl rfl rfl ?_
    refine W_end ?_
    refine E_then ?_
    refine C_block ?_
    refine C_keep (L' := [(0, v0), (8, v0), (9, .int .i64 ((p0_l.length : Int))), (10, .int .i64 (((0 : Nat) : Int)))]) ⟨rfl, rfl, rfl, rfl, trivial⟩ (List.Perm.refl _) ?_
    refine C_loop (fun n H' M' L' => ∃ (k102 : Nat) (zs156' : List S_api_AlarmCause), (p0_l).drop k102 = zs156' ∧ zs156'.length = n ∧ forI (fun k y s151 n => m_alarm_Check_b1 p0_l k y n) (fun _ => some 0) k102 zs156' () = some r ∧ H.le H' ∧ M = M' ∧ [(0, v0), (8, v0), (9, .int .i64 ((p0_l.length : Int))), (10, .int .i64 ((k102 : Int)))] = L') _ ⟨0, _, rfl, rfl, hm, (Hp.le_refl _), rfl, rfl⟩ ?_
    rintro _ H149 _ _ ⟨k102, zs156', hd158, rfl, hm, hle150, rfl, rfl⟩
    refine C_seq ?_
    refine C_region ?_
    refine W_bin rfl rfl rfl rfl rfl ?_
    refine W_end (E_then ?_)
    refine C_seq ?_
    refine C_cond (b := decide ((k102 : Int) < (p0_l.length : Int))) rfl (fun hb160 => ?_) (fun hb160 => ?_)
    · obtain ⟨y155, zs156, rfl, hy157, hd159⟩ := rng_t hd158 hb160
      have hm : m_alarm_Check_b1 p0_l k102 y155 (forI (fun k y s151 n => m_alarm_Check_b1 p0_l k y n) (fun _ => some 0) (k102 + 1) zs156) = some r := hm
      generalize hn153 : forI (fun k y s151 n => m_alarm_Check_b1 p0_l k y n) (fun _ => some 0) (k102 + 1) zs156 = nx152 at hm
      unfold m_alarm_Check_b1 at hm
      refine C_skip (E_then ?_)
      refine C_seq ?_
      refine C_block ?_
      refine C_seq ?_
      refine C_region ?_
      refine W_move rfl rfl rfl ?_
      obtain ⟨_, ⟨rfl⟩, hc161⟩ := (h0).elem hy157
      refine W_indexS rfl rfl Proofs.Try.runUnderlying22 Proofs.Try.sizeOf45 rfl (h0.mono hle150) rfl (Int.natCast_nonneg _) hy157 ?_
      refine W_loadAgg rfl rfl Proofs.Try.isAgg45 Proofs.Try.sizeOf45 rfl (hc161.mono hle150).at rfl ?_
      refine W_alloc (cs := [.string (⟨#[]⟩), .string (⟨#[]⟩)]) rfl rfl Proofs.Try.zeroValue45 rfl (fun b162 => ?_)
      refine W_assign rfl rfl rfl ?_
      refine W_store (cs := [.string (y155.Of), .string (y155.By)]) (out := [.string (y155.Of), .string (y155.By)]) rfl Proofs.Try.sizeOf45 rfl rfl rfl rfl rfl (all_cons rfl (all_cons rfl all_nil)) (over_all rfl) ?_
      refine W_end ?_
      refine E_then ?_
      refine C_block ?_
      refine C_seq ?_
      refine C_region ?_
      refine W_field (o := 0) rfl rfl Proofs.Try.runUnderlying45 rfl Proofs.Try.sizeOf9 rfl rfl rfl ?_
      refine W_load rfl rfl Proofs.Try.isAgg9 rfl (own_at (List.mem_cons_self ..) rfl) ?_
      obtain ⟨r163, hc164, hm⟩ := bind_some hm
      refine W_call Proofs.Try.call18 rfl rfl rfl (fun w ht => by have h := m_netmodel_Name_c (hm := hc164)  ht; exact h) ?_
      rintro _ _ _ ⟨rfl, rfl, rfl⟩
      refine W_un rfl rfl rfl rfl ?_
      refine W_move rfl rfl rfl ?_
      cases hb165 : (r163)
      · have hm := ite_f' hb165 hm
        refine W_no rfl rfl rfl ?_
        refine W_no rfl rfl rfl ?_
        refine W_no rfl rfl rfl ?_
        refine W_no rfl rfl rfl ?_
        refine W_pick rfl rfl rfl rfl ?_
        refine W_assign rfl rfl rfl ?_
        refine W_end ?_
        refine E_then ?_
        refine C_cond (b := true) rfl (fun _ => ?_) (fun hb => Bool.noConfusion hb)
        refine C_seq ?_
        refine C_region ?_
        refine W_assign rfl rfl rfl ?_
        refine W_end ?_
        refine E_then ?_
        refine C_ret ?_
        refine E_ret_block ?_
        refine E_ret_block ?_
        refine E_ret_then ?_
        refine E_ret_then ?_
        refine E_ret_block ?_
        refine E_ret_then ?_
        obtain rfl := Option.some.inj hm
        refine E_drop (List.Sublist.cons _ (List.Sublist.refl _)) ?_
        refine E_weak hle150 ?_
        exact end1 rfl rfl ⟨rfl, rfl, rfl⟩
      · have hm := ite_t' hb165 hm
        refine W_field (o := 1) rfl rfl Proofs.Try.runUnderlying45 rfl Proofs.Try.sizeOf9 rfl rfl rfl ?_
        refine W_load rfl rfl Proofs.Try.isAgg9 rfl (own_at (List.mem_cons_self ..) rfl) ?_
        obtain ⟨r166, hc167, hm⟩ := bind_some hm
        refine W_call Proofs.Try.call18 rfl rfl rfl (fun w ht => by have h := m_netmodel_Name_c (hm := hc167)  ht; exact h) ?_
        rintro _ _ _ ⟨rfl, rfl, rfl⟩
        refine W_un rfl rfl rfl rfl ?_
        refine W_pick rfl rfl rfl rfl ?_
        refine W_assign rfl rfl rfl ?_
        refine W_end ?_
        refine E_then ?_
        refine C_cond (b := !r166) rfl (fun hb168 => ?_) (fun hb168 => ?_)
        · have hm := ite_t' hb168 hm
          refine C_seq ?_
          refine C_region ?_
          refine W_assign rfl rfl rfl ?_
          refine W_end ?_
          refine E_then ?_
          refine C_ret ?_
          refine E_ret_block ?_
          refine E_ret_block ?_
          refine E_ret_then ?_
          refine E_ret_then ?_
          refine E_ret_block ?_
          refine E_ret_then ?_
          obtain rfl := Option.some.inj hm
          refine E_drop (List.Sublist.cons _ (List.Sublist.refl _)) ?_
          refine E_weak hle150 ?_
          exact end1 rfl rfl ⟨rfl, rfl, rfl⟩
        · have hm := ite_f' hb168 hm
          refine C_seq ?_
          refine C_region ?_
          refine W_field (o := 0) rfl rfl Proofs.Try.runUnderlying45 rfl Proofs.Try.sizeOf9 rfl rfl rfl ?_
          refine W_load rfl rfl Proofs.Try.isAgg9 rfl (own_at (List.mem_cons_self ..) rfl) ?_
          refine W_field (o := 1) rfl rfl Proofs.Try.runUnderlying45 rfl Proofs.Try.sizeOf9 rfl rfl rfl ?_
          refine W_load rfl rfl Proofs.Try.isAgg9 rfl (own_at (List.mem_cons_self ..) rfl) ?_
          refine W_bin rfl rfl rfl rfl rfl ?_
          refine W_assign rfl rfl rfl ?_
          refine W_end ?_
          refine E_then ?_
          refine C_cond (b := decide (y155.Of = y155.By)) rfl (fun hb169 => ?_) (fun hb169 => ?_)
          · have hm := ite_t' hb169 hm
            refine C_seq ?_
            refine C_region ?_
            refine W_assign rfl rfl rfl ?_
            refine W_end ?_
            refine E_then ?_
            refine C_ret ?_
            refine E_ret_block ?_
            refine E_ret_block ?_
            refine E_ret_then ?_
            refine E_ret_then ?_
            refine E_ret_block ?_
            refine E_ret_then ?_
            obtain rfl := Option.some.inj hm
            refine E_drop (List.Sublist.cons _ (List.Sublist.refl _)) ?_
            refine E_weak hle150 ?_
            exact end1 rfl rfl ⟨rfl, rfl, rfl⟩
          · have hm := ite_f' hb169 hm
            refine C_seq ?_
            obtain ⟨hz170, hm⟩ := need_some hm
            refine C_region_tok0 4 (phiT [(fun H rs v => [] = rs ∧ v0 = v), (fun H rs v => [] = rs ∧ .int .i64 ((k102 : Int)) = v), (fun H rs v => ∃ v174 : Value, [] = rs ∧ v174 = v ∧ RdS H v174 (slc p0_l 0 (((k102 : Int) : Int).toNat))), (fun H rs v => [] = rs ∧ .agg [.string (y155.Of), .string (y155.By)].toArray = v)]) [[], [], [], []] [[], [], [], []] [] [0, 1, 2, 3] Facts.mixed (by kernel_rfl) rfl rfl rfl (by kernel_rfl) (phiT_mono ⟨eq_monoT _ _, eq_monoT _ _, (by rintro H1 H2 rs v hle ⟨v174, rfl, rfl, h175⟩; exact ⟨v174, rfl, rfl, (h175.mono hle)⟩), eq_monoT _ _, trivial⟩) ⟨?_, ?_, ?_, ?_, trivial⟩ ?_
            · intro HX hX X Rest hR
              intro hU
              refine W_move rfl rfl rfl ?_
              exact W_end (OneT_end [] (Hp.le_refl _) ⟨rfl, rfl⟩)
            · intro HX hX X Rest hR
              intro hU
              refine W_move rfl rfl rfl ?_
              exact W_end (OneT_end [] (Hp.le_refl _) ⟨rfl, rfl⟩)
            · intro HX hX X Rest hR
              rintro _ _ ⟨rfl, rfl⟩
              rintro _ _ ⟨rfl, rfl⟩
              intro hU
              refine W_sliceR (α := S_api_AlarmCause) (l := 0) (h := ((k102 : Int) : Int).toNat) (xs := p0_l) rfl rfl Proofs.Try.runUnderlying22 Proofs.Try.sizeOf45 rfl ((h0.mono hle150).mono hX) (by omega) (by omega) (.inl rfl) (fun cap hcap => by rw [if_pos rfl]; exact (.inl ⟨rfl, rfl⟩)) (fun m hmm => (.inr ⟨_, _, _, rfl, rfl, by omega, by omega, rfl⟩)) (.inl ⟨rfl, rfl⟩) ?_
              intro v174 h175 hc176
              exact W_end (OneT_end [] (Hp.le_refl _) ⟨v174, rfl, rfl, (h175)⟩)
            · intro HX hX X Rest hR
              intro hU
              refine W_loadAgg rfl rfl Proofs.Try.isAgg45 Proofs.Try.sizeOf45 rfl (own_all (hR _ (List.mem_cons_self ..))) rfl ?_
              exact W_end (OneT_end [] (Hp.le_refl _) ⟨rfl, rfl⟩)
            intro H177 hle178
            rintro _ _ ⟨rfl, rfl⟩
            rintro _ _ ⟨rfl, rfl⟩
            rintro _ _ ⟨v174, rfl, rfl, h175⟩
            rintro _ _ ⟨rfl, rfl⟩
            obtain ⟨r179, hc180, hm⟩ := bind_some hm
            refine W_call Proofs.Try.call19 rfl rfl rfl (fun w ht => by have h := m_slices_Contains_api_AlarmCause_api_AlarmCause_c (hm := hc180) h175 ht; exact h) ?_
            rintro _ _ _ ⟨rfl, rfl, rfl⟩
            refine W_assign rfl rfl rfl ?_
            refine W_end ?_
            refine E_then ?_
            refine C_cond (b := r179) rfl (fun hb181 => ?_) (fun hb181 => ?_)
            · have hm := ite_t' hb181 hm
              refine C_seq ?_
              refine C_region ?_
              refine W_assign rfl rfl rfl ?_
              refine W_end ?_
              refine E_then ?_
              refine C_ret ?_
              refine E_ret_block ?_
              refine E_ret_block ?_
              refine E_ret_then ?_
              refine E_ret_then ?_
              refine E_ret_block ?_
              refine E_ret_then ?_
              obtain rfl := Option.some.inj hm
              refine E_drop (List.Sublist.cons _ (List.Sublist.refl _)) ?_
              refine E_weak (Hp.le_trans hle150 hle178) ?_
              exact end1 rfl rfl ⟨rfl, rfl, rfl⟩
            · have hm := ite_f' hb181 hm
              refine C_skip ?_
              refine E_normal_block ?_
              refine E_normal_block ?_
              refine E_then ?_
              refine C_region ?_
              refine W_bin rfl rfl rfl rfl rfl ?_
              refine W_move rfl rfl rfl ?_
              refine W_end ?_
              refine E_drop (List.Sublist.cons _ (List.Sublist.refl _)) ?_
              exact E_keepJ (E_back (Nat.lt_succ_self _) ⟨k102 + 1, zs156, hd159, rfl, (by rw [hn153]; exact hm), (Hp.le_trans hle150 hle178), rfl, rfl⟩) (List.Perm.refl _) ⟨rfl, rfl, rfl, (congrArg (fun z => some (Value.int .i64 z)) (i64_succ hy157 ((h0.mono hle150)).lenMax)), trivial⟩
    · obtain rfl := rng_f hd158 hb160
      have hm : (some 0) = some r := hm
      refine C_exit (E_exit_then ?_)
      refine E_exit_then ?_
      refine E_exit_hit ?_
      refine E_then ?_
      refine C_seq ?_
      refine C_region ?_
      refine W_assign rfl rfl rfl ?_
      refine W_end ?_
      refine E_then ?_
      refine C_ret ?_
      obtain rfl := Option.some.inj hm
      refine E_weak hle150 ?_
      exact end1 rfl rfl ⟨rfl, rfl, rfl⟩

theorem clone17_c {B : Nat} {w0 w : World} {H : Hp} {M : List Res} {s : List S_api_AlarmCause} {v0 : Value} (h0 : RdS H v0 s) (hz : s.length * 32 ≤ 140737488355328) (ht : St B w0 H M w) :
    Calls Proofs.Try.prog 17 [v0].toArray w (Ret B w0 fun H' M' v => H = H' ∧ ∃ (v' : Value) (xs' : List Value), .row v' 45 (Rep.sz S_api_AlarmCause) s.length xs' :: M = M' ∧ v' = v ∧ RwF v' xs' s) := by
  refine enter Proofs.Try.func17 rfl rfl rfl ht ?_
  obtain ⟨o, n, c, rfl⟩ := h0.shape
  refine C_seq ?_
  refine C_region ?_
  refine W_assign rfl rfl rfl ?_
  refine W_end (E_then ?_)
  refine C_seq ?_
  refine C_seq ?_
  refine C_region ?_
  refine W_move rfl rfl rfl ?_
  refine W_eqNil rfl rfl Proofs.Try.runUnderlying22 rfl rfl ?_
  refine W_end (E_then ?_)
  cases o with
  | none =>
    refine C_cond (b := true) rfl (fun _ => ?_) (fun hb => Bool.noConfusion hb)
    obtain rfl := h0.isNil
    refine C_seq ?_
    refine C_region ?_
    refine W_assign rfl rfl rfl ?_
    refine W_end (E_then ?_)
    refine C_ret (E_ret_then ?_)
    refine E_nilRow 45 (Rep.sz S_api_AlarmCause) ?_
    exact end1 rfl rfl ⟨rfl, .slice none 0 0, [], rfl, rfl, (Rw.nil (H := H)).toF⟩
  | some a =>
    refine C_cond (b := false) rfl (fun hb => Bool.noConfusion hb) (fun _ => ?_)
    refine C_skip (E_then ?_)
    refine C_seq ?_
    refine C_region ?_
    refine W_build0 S_api_AlarmCause rfl rfl Proofs.Try.runUnderlying22 Proofs.Try.sizeOf45 ?_
    intro v1 xs1 h1
    refine W_move rfl rfl rfl ?_
    refine W_appendO (α := S_api_AlarmCause) (l := []) (ys := s) (bytes := 32) rfl rfl Proofs.Try.underlying22 ⟨_, rfl, rfl, rfl, rfl⟩ rfl rfl rfl rfl rfl h1 h0 (by simpa using hz) ?_
    intro v2 xs2 h2
    refine W_assign rfl rfl rfl ?_
    refine W_end (E_then ?_)
    refine C_ret ?_
    exact end1 rfl rfl ⟨rfl, v2, xs2, rfl, rfl, h2.toF⟩

theorem m_alarm_New_c {B : Nat} {w0 w : World} {H : Hp} {M : List Res} {causes : (List S_api_AlarmCause)} {v0 : Value} {r : (Option S_alarm_Board) × Int} (hm : m_alarm_New causes = some r) (h0 : RdS H v0 causes) (ht : St B w0 H (M) w) :
    Calls Proofs.Try.prog 4 [v0].toArray w (Ret B w0 fun H' M' v => (r.1 = none ∧ H.le H' ∧ M = M' ∧ .tuple #[.pointer none, .int .i64 (r.2)] = v) ∨ (∃ qsp0 : S_alarm_Board, r.1 = some qsp0 ∧ H.le H' ∧ ∃ qb0 : Nat, ∃ qv0 : Value, ∃ qv1 : Value, ∃ qxs0 : List Value, .obj qb0 (.cells [qv0, qv1, .int .i64 (qsp0.last)].toArray 47 (0, 0)) :: .row qv1 39 (Rep.sz S_api_AlarmEntry) qsp0.all_.length qxs0 :: M = M' ∧ .tuple #[.pointer (some ⟨qb0, 0, none⟩), .int .i64 (r.2)] = v ∧ RdS H' qv0 qsp0.causes ∧ Rw H' qv1 qxs0 qsp0.all_)) := by
  unfold m_alarm_New at hm
  refine enter Proofs.Try.func4 rfl rfl rfl ht ?_
  refine C_seq ?_
  refine C_region ?_
  refine W_assign rfl rfl rfl ?_
  refine W_assign rfl rfl rfl ?_
  refine W_end ?_
  refine E_then ?_
  refine C_seq ?_
  refine C_seq ?_
  refine C_region ?_
  refine W_move rfl rfl rfl ?_
  obtain ⟨r101, hc102, hm⟩ := bind_some hm
  refine W_call Proofs.Try.call6 rfl rfl rfl (fun w ht => by have h := m_alarm_Check_c (hm := hc102) h0 ht; exact h) ?_
  rintro _ _ _ ⟨rfl, rfl, rfl⟩
  refine W_assign rfl rfl rfl ?_
  refine W_end ?_
  refine E_then ?_
  refine C_seq ?_
  refine C_region ?_
  refine W_move rfl rfl rfl ?_
  refine W_bin rfl rfl rfl rfl rfl ?_
  refine W_end ?_
  refine E_then ?_
  refine C_cond (b := !decide (r101 = 0)) rfl (fun hb103 => ?_) (fun hb103 => ?_)
  · have hm := ite_t' hb103 hm
    refine C_seq ?_
    refine C_region ?_
    refine W_move rfl rfl rfl ?_
    refine W_assign rfl rfl rfl ?_
    refine W_assign rfl rfl rfl ?_
    refine W_end ?_
    refine E_then ?_
    refine C_ret ?_
    refine E_ret_then ?_
    obtain rfl := Option.some.inj hm
    exact end2 rfl rfl rfl (.inl ⟨rfl, (Hp.le_refl _), rfl, rfl⟩)
  · have hm := ite_f' hb103 hm
    refine C_skip ?_
    refine E_then ?_
    refine C_seq ?_
    refine C_region ?_
    refine W_move rfl rfl rfl ?_
    obtain ⟨hz104, hm⟩ := need_some hm
    refine W_call Proofs.Try.call17 rfl rfl rfl (fun w ht => by have h := clone17_c (s := causes) h0 hz104 ht; exact h) ?_
    rintro _ _ _ ⟨rfl, v105, xs106, rfl, rfl, hr107⟩
    have hr107 := hr107 H
    refine W_build (css := [[v105]]) (zs := [.slice none 0 0, .slice none 0 0, .int .i64 (0)]) (out := [v105, .slice none 0 0, .int .i64 (0)]) (places := [(0, 1), (1, 1), (2, 1)]) rfl rfl rfl ⟨(Rw.cells hr107), trivial⟩ Proofs.Try.zeroValue47 rfl Proofs.Try.runUnderlying47 (fun w => by kernel_rfl) rfl ?_
    refine W_box (cs := [v105, .slice none 0 0, .int .i64 (0)]) rfl rfl rfl rfl (fun b108 => ?_)
    refine W_assign rfl rfl rfl ?_
    refine W_assign rfl rfl rfl ?_
    refine W_end ?_
    refine E_then ?_
    refine C_ret ?_
    refine E_nilRow 39 (Rep.sz S_api_AlarmEntry) ?_
    refine E_perm (List.Perm.trans (List.Perm.cons _ (List.Perm.swap _ _ _)) (List.Perm.swap _ _ _)) ?_
    refine E_freeze (hr107).rd rfl (fun H109 hle110 h111 => ?_)
    obtain rfl := Option.some.inj hm
    refine E_perm (List.Perm.swap _ _ _) ?_
    exact end2 rfl rfl rfl (.inr ⟨(S_alarm_Board.mk causes ([] : List S_api_AlarmEntry) 0), rfl, hle110, b108, v105, (.slice none 0 0), [], rfl, rfl, h111, Rw.nil⟩)

theorem m_slices_Index_string_string_c {B : Nat} {w0 w : World} {H : Hp} {M : List Res} {p0_s : (List ByteArray)} {p1_v : ByteArray} {v0 : Value} {r : Int} (hm : m_slices_Index_string_string p0_s p1_v = some r) (h0 : RdS H v0 p0_s) (ht : St B w0 H (M) w) :
    Calls Proofs.Try.prog 8 [v0, .string (p1_v)].toArray w (Ret B w0 fun H' M' v => H = H' ∧ M = M' ∧ .int .i64 (r) = v) := by
  unfold m_slices_Index_string_string at hm
  refine enter Proofs.Try.func8 rfl rfl rfl ht ?_
  refine C_seq ?_
  refine C_region ?_
  refine W_assign rfl rfl rfl ?_
  refine W_end ?_
  refine E_then ?_
  refine C_seq ?_
  refine C_seq ?_
  refine C_region ?_
  refine W_move rfl rfl rfl ?_
  refine W_lenR rfl rfl Proofs.Try.runUnderlying23 rfl h0 ?_
  refine W_move rfl rfl rfl ?_
  refine W_end ?_
  refine E_then ?_
  refine C_block ?_
  refine C_keep (L' := [(0, v0), (1, .string (p1_v)), (7, .int .i64 ((p0_s.length : Int))), (8, .int .i64 (((0 : Nat) : Int)))]) ⟨rfl, rfl, rfl, rfl, trivial⟩ (List.Perm.refl _) ?_
  refine C_loop (fun n H' M' L' => ∃ (k101 : Nat) (zs119' : Nat), k101 + zs119' = ((p0_s.length : Int) : Int).toNat ∧ zs119' = n ∧ forN (fun k s114 n => m_slices_Index_string_string_b1 p0_s p1_v k n) (fun _ => some (-1)) zs119' k101 () = some r ∧ H.le H' ∧ M = M' ∧ [(0, v0), (1, .string (p1_v)), (7, .int .i64 ((p0_s.length : Int))), (8, .int .i64 ((k101 : Int)))] = L') _ ⟨0, _, Nat.zero_add _, rfl, hm, (Hp.le_refl _), rfl, rfl⟩ ?_
  rintro _ H112 _ _ ⟨k101, zs119', hd121, rfl, hm, hle113, rfl, rfl⟩
  refine C_seq ?_
  refine C_region ?_
  refine W_bin rfl rfl rfl rfl rfl ?_
  refine W_end (E_then ?_)
  refine C_seq ?_
  refine C_cond (b := decide ((k101 : Int) < (p0_s.length : Int))) rfl (fun hb123 => ?_) (fun hb123 => ?_)
  · obtain ⟨zs119, rfl, hd122, hy120⟩ := rngN_t hd121 hb123
    have hm : m_slices_Index_string_string_b1 p0_s p1_v k101 (forN (fun k s114 n => m_slices_Index_string_string_b1 p0_s p1_v k n) (fun _ => some (-1)) zs119 (k101 + 1)) = some r := hm
    generalize hn116 : forN (fun k s114 n => m_slices_Index_string_string_b1 p0_s p1_v k n) (fun _ => some (-1)) zs119 (k101 + 1) = nx115 at hm
    unfold m_slices_Index_string_string_b1 at hm
    refine C_skip (E_then ?_)
    refine C_seq ?_
    refine C_block ?_
    refine C_seq ?_
    refine C_region ?_
    refine W_move rfl rfl rfl ?_
    refine W_assign rfl rfl rfl ?_
    refine W_end ?_
    refine E_then ?_
    refine C_seq ?_
    refine C_region ?_
    refine W_move rfl rfl rfl ?_
    refine W_move rfl rfl rfl ?_
    refine W_move rfl rfl rfl ?_
    obtain ⟨y124, h125, he126, hm⟩ := idx_some hm
    obtain ⟨_, rfl, hc127⟩ := (h0).elem he126
    refine W_indexS rfl rfl Proofs.Try.runUnderlying23 Proofs.Try.sizeOf9 rfl (h0.mono hle113) rfl h125 he126 ?_
    refine W_load rfl rfl Proofs.Try.isAgg9 rfl (HCells.one (hc127.mono hle113) 0 rfl).at ?_
    refine W_bin rfl rfl rfl rfl rfl ?_
    refine W_end ?_
    refine E_then ?_
    refine C_cond (b := decide (p1_v = y124)) rfl (fun hb128 => ?_) (fun hb128 => ?_)
    · have hm := ite_t' hb128 hm
      refine C_seq ?_
      refine C_region ?_
      refine W_move rfl rfl rfl ?_
      refine W_assign rfl rfl rfl ?_
      refine W_end ?_
      refine E_then ?_
      refine C_ret ?_
      refine E_ret_block ?_
      refine E_ret_then ?_
      refine E_ret_then ?_
      refine E_ret_block ?_
      refine E_ret_then ?_
      obtain rfl := Option.some.inj hm
      refine E_weak hle113 ?_
      exact end1 rfl rfl ⟨rfl, rfl, rfl⟩
    · have hm := ite_f' hb128 hm
      refine C_skip ?_
      refine E_normal_block ?_
      refine E_then ?_
      refine C_region ?_
      refine W_bin rfl rfl rfl rfl rfl ?_
      refine W_move rfl rfl rfl ?_
      refine W_end ?_
      exact E_keepJ (E_back (Nat.lt_succ_self _) ⟨k101 + 1, zs119, hd122, rfl, (by rw [hn116]; exact hm), hle113, rfl, rfl⟩) (List.Perm.refl _) ⟨rfl, rfl, rfl, (congrArg (fun z => some (Value.int .i64 z)) (i64_succN hy120 (toNat_max (len_max (h0).lenMax)))), trivial⟩
  · obtain rfl := rngN_f hd121 hb123
    have hm : (some (-1)) = some r := hm
    refine C_exit (E_exit_then ?_)
    refine E_exit_then ?_
    refine E_exit_hit ?_
    refine E_then ?_
    refine C_seq ?_
    refine C_region ?_
    refine W_assign rfl rfl rfl ?_
    refine W_end ?_
    refine E_then ?_
    refine C_ret ?_
    obtain rfl := Option.some.inj hm
    refine E_weak hle113 ?_
    exact end1 rfl rfl ⟨rfl, rfl, rfl⟩

theorem m_slices_Contains_string_string_c {B : Nat} {w0 w : World} {H : Hp} {M : List Res} {p0_s : (List ByteArray)} {p1_v : ByteArray} {v0 : Value} {r : Bool} (hm : m_slices_Contains_string_string p0_s p1_v = some r) (h0 : RdS H v0 p0_s) (ht : St B w0 H (M) w) :
    Calls Proofs.Try.prog 26 [v0, .string (p1_v)].toArray w (Ret B w0 fun H' M' v => H = H' ∧ M = M' ∧ .bool (r) = v) := by
  unfold m_slices_Contains_string_string at hm
  refine enter Proofs.Try.func26 rfl rfl rfl ht ?_
  refine C_seq ?_
  refine C_region ?_
  refine W_assign rfl rfl rfl ?_
  refine W_end ?_
  refine E_then ?_
  refine C_seq ?_
  refine C_region ?_
  refine W_move rfl rfl rfl ?_
  refine W_move rfl rfl rfl ?_
  obtain ⟨r101, hc102, hm⟩ := bind_some hm
  refine W_call Proofs.Try.call8 rfl rfl rfl (fun w ht => by have h := m_slices_Index_string_string_c (hm := hc102) h0 ht; exact h) ?_
  rintro _ _ _ ⟨rfl, rfl, rfl⟩
  refine W_bin rfl rfl rfl rfl rfl ?_
  refine W_assign rfl rfl rfl ?_
  refine W_end ?_
  refine E_then ?_
  refine C_ret ?_
  obtain rfl := Option.some.inj hm
  refine E_weak (Hp.le_refl _) ?_
  exact end1 rfl rfl ⟨rfl, rfl, rfl⟩

theorem m_alarm_check_c {B : Nat} {w0 w : World} {H : Hp} {M : List Res} {causes : (List S_api_AlarmCause)} {p1_l : (List ByteArray)} {v0 : Value} {v1 : Value} {r : Int} (hm : m_alarm_check causes p1_l = some r) (h0 : RdS H v0 causes) (h1 : RdS H v1 p1_l) (ht : St B w0 H (M) w) :
    Calls Proofs.Try.prog 22 [v0, v1].toArray w (Ret B w0 fun H' M' v => H = H' ∧ M = M' ∧ .int .i64 (r) = v) := by
  unfold m_alarm_check at hm
  refine enter Proofs.Try.func22 rfl rfl rfl ht ?_
  refine C_seq ?_
  refine C_region ?_
  refine W_assign rfl rfl rfl ?_
  refine W_end ?_
  refine E_then ?_
  refine C_seq ?_
  refine C_seq ?_
  refine C_region ?_
  refine W_move rfl rfl rfl ?_
  obtain ⟨r101, hc102, hm⟩ := bind_some hm
  refine W_call Proofs.Try.call6 rfl rfl rfl (fun w ht => by have h := m_alarm_Check_c (hm := hc102) h0 ht; exact h) ?_
  rintro _ _ _ ⟨rfl, rfl, rfl⟩
  refine W_assign rfl rfl rfl ?_
  refine W_end ?_
  refine E_then ?_
  refine C_seq ?_
  refine C_region ?_
  refine W_move rfl rfl rfl ?_
  refine W_bin rfl rfl rfl rfl rfl ?_
  refine W_end ?_
  refine E_then ?_
  refine C_cond (b := !decide (r101 = 0)) rfl (fun hb103 => ?_) (fun hb103 => ?_)
  · have hm := ite_t' hb103 hm
    refine C_seq ?_
    refine C_region ?_
    refine W_move rfl rfl rfl ?_
    refine W_assign rfl rfl rfl ?_
    refine W_end ?_
    refine E_then ?_
    refine C_ret ?_
    refine E_ret_then ?_
    obtain rfl := Option.some.inj hm
    refine E_weak (Hp.le_refl _) ?_
    exact end1 rfl rfl ⟨rfl, rfl, rfl⟩
  · have hm := ite_f' hb103 hm
    refine C_skip ?_
    refine E_then ?_
    refine C_seq ?_
    refine C_seq ?_
    refine C_region ?_
    refine W_move rfl rfl rfl ?_
    refine W_lenR rfl rfl Proofs.Try.runUnderlying23 rfl h1 ?_
    refine W_bin rfl rfl rfl rfl rfl ?_
    refine W_end ?_
    refine E_then ?_
    refine C_cond (b := decide (24 < (p1_l.length : Int))) rfl (fun hb104 => ?_) (fun hb104 => ?_)
    · have hm := ite_t' hb104 hm
      refine C_seq ?_
      refine C_region ?_
      refine W_assign rfl rfl rfl ?_
      refine W_end ?_
      refine E_then ?_
      refine C_ret ?_
      refine E_ret_then ?_
      obtain rfl := Option.some.inj hm
      refine E_weak (Hp.le_refl _) ?_
      exact end1 rfl rfl ⟨rfl, rfl, rfl⟩
    · have hm := ite_f' hb104 hm
      refine C_skip ?_
      refine E_then ?_
      refine C_seq ?_
      refine C_seq ?_
      refine C_region ?_
      refine W_move rfl rfl rfl ?_
      refine W_lenR rfl rfl Proofs.Try.runUnderlying23 rfl h1 ?_
      refine W_move rfl rfl rfl ?_
      refine W_end ?_
      refine E_then ?_
      refine C_block ?_
      refine C_keep (L' := [(1, v1), (16, v1), (17, .int .i64 ((p1_l.length : Int))), (18, .int .i64 (((0 : Nat) : Int)))]) ⟨rfl, rfl, rfl, rfl, trivial⟩ (List.Perm.refl _) ?_
      refine C_loop (fun n H' M' L' => ∃ (k105 : Nat) (zs135' : List ByteArray), (p1_l).drop k105 = zs135' ∧ zs135'.length = n ∧ forI (fun k y s130 n => m_alarm_check_b1 p1_l k y n) (fun _ => some 0) k105 zs135' () = some r ∧ H.le H' ∧ M = M' ∧ [(1, v1), (16, v1), (17, .int .i64 ((p1_l.length : Int))), (18, .int .i64 ((k105 : Int)))] = L') _ ⟨0, _, rfl, rfl, hm, (Hp.le_refl _), rfl, rfl⟩ ?_
      rintro _ H128 _ _ ⟨k105, zs135', hd137, rfl, hm, hle129, rfl, rfl⟩
      refine C_seq ?_
      refine C_region ?_
      refine W_bin rfl rfl rfl rfl rfl ?_
      refine W_end (E_then ?_)
      refine C_seq ?_
      refine C_cond (b := decide ((k105 : Int) < (p1_l.length : Int))) rfl (fun hb139 => ?_) (fun hb139 => ?_)
      · obtain ⟨y134, zs135, rfl, hy136, hd138⟩ := rng_t hd137 hb139
        have hm : m_alarm_check_b1 p1_l k105 y134 (forI (fun k y s130 n => m_alarm_check_b1 p1_l k y n) (fun _ => some 0) (k105 + 1) zs135) = some r := hm
        generalize hn132 : forI (fun k y s130 n => m_alarm_check_b1 p1_l k y n) (fun _ => some 0) (k105 + 1) zs135 = nx131 at hm
        unfold m_alarm_check_b1 at hm
        refine C_skip (E_then ?_)
        refine C_seq ?_
        refine C_block ?_
        refine C_seq ?_
        refine C_region ?_
        refine W_move rfl rfl rfl ?_
        obtain ⟨_, rfl, hc140⟩ := (h1).elem hy136
        refine W_indexS rfl rfl Proofs.Try.runUnderlying23 Proofs.Try.sizeOf9 rfl (h1.mono hle129) rfl (Int.natCast_nonneg _) hy136 ?_
        refine W_load rfl rfl Proofs.Try.isAgg9 rfl (HCells.one (hc140.mono hle129) 0 rfl).at ?_
        refine W_assign rfl rfl rfl ?_
        refine W_assign rfl rfl rfl ?_
        refine W_end ?_
        refine E_then ?_
        refine C_block ?_
        refine C_seq ?_
        refine C_region ?_
        refine W_move rfl rfl rfl ?_
        obtain ⟨r141, hc142, hm⟩ := bind_some hm
        refine W_call Proofs.Try.call18 rfl rfl rfl (fun w ht => by have h := m_netmodel_Name_c (hm := hc142)  ht; exact h) ?_
        rintro _ _ _ ⟨rfl, rfl, rfl⟩
        refine W_un rfl rfl rfl rfl ?_
        refine W_assign rfl rfl rfl ?_
        refine W_end ?_
        refine E_then ?_
        refine C_cond (b := !r141) rfl (fun hb143 => ?_) (fun hb143 => ?_)
        · have hm := ite_t' hb143 hm
          refine C_seq ?_
          refine C_region ?_
          refine W_assign rfl rfl rfl ?_
          refine W_end ?_
          refine E_then ?_
          refine C_ret ?_
          refine E_ret_block ?_
          refine E_ret_block ?_
          refine E_ret_then ?_
          refine E_ret_then ?_
          refine E_ret_block ?_
          refine E_ret_then ?_
          obtain rfl := Option.some.inj hm
          refine E_weak hle129 ?_
          exact end1 rfl rfl ⟨rfl, rfl, rfl⟩
        · have hm := ite_f' hb143 hm
          refine C_seq ?_
          refine C_region ?_
          refine W_move rfl rfl rfl ?_
          refine W_move rfl rfl rfl ?_
          obtain ⟨hz144, hm⟩ := need_some hm
          refine W_sliceR (α := ByteArray) (l := 0) (h := ((k105 : Int) : Int).toNat) (xs := p1_l) rfl rfl Proofs.Try.runUnderlying23 Proofs.Try.sizeOf9 rfl (h1.mono hle129) (by omega) (by omega) (.inl rfl) (fun cap hcap => by rw [if_pos rfl]; exact (.inl ⟨rfl, rfl⟩)) (fun m hmm => (.inr ⟨_, _, _, rfl, rfl, by omega, by omega, rfl⟩)) (.inl ⟨rfl, rfl⟩) ?_
          intro v145 h146 hc147
          refine W_move rfl rfl rfl ?_
          obtain ⟨r148, hc149, hm⟩ := bind_some hm
          refine W_call Proofs.Try.call26 rfl rfl rfl (fun w ht => by have h := m_slices_Contains_string_string_c (hm := hc149) h146 ht; exact h) ?_
          rintro _ _ _ ⟨rfl, rfl, rfl⟩
          refine W_assign rfl rfl rfl ?_
          refine W_end ?_
          refine E_then ?_
          refine C_cond (b := r148) rfl (fun hb150 => ?_) (fun hb150 => ?_)
          · have hm := ite_t' hb150 hm
            refine C_seq ?_
            refine C_region ?_
            refine W_assign rfl rfl rfl ?_
            refine W_end ?_
            refine E_then ?_
            refine C_ret ?_
            refine E_ret_block ?_
            refine E_ret_block ?_
            refine E_ret_then ?_
            refine E_ret_then ?_
            refine E_ret_block ?_
            refine E_ret_then ?_
            obtain rfl := Option.some.inj hm
            refine E_weak hle129 ?_
            exact end1 rfl rfl ⟨rfl, rfl, rfl⟩
          · have hm := ite_f' hb150 hm
            refine C_skip ?_
            refine E_normal_block ?_
            refine E_normal_block ?_
            refine E_then ?_
            refine C_region ?_
            refine W_bin rfl rfl rfl rfl rfl ?_
            refine W_move rfl rfl rfl ?_
            refine W_end ?_
            exact E_keepJ (E_back (Nat.lt_succ_self _) ⟨k105 + 1, zs135, hd138, rfl, (by rw [hn132]; exact hm), hle129, rfl, rfl⟩) (List.Perm.refl _) ⟨rfl, rfl, rfl, (congrArg (fun z => some (Value.int .i64 z)) (i64_succ hy136 ((h1.mono hle129)).lenMax)), trivial⟩
      · obtain rfl := rng_f hd137 hb139
        have hm : (some 0) = some r := hm
        refine C_exit (E_exit_then ?_)
        refine E_exit_then ?_
        refine E_exit_hit ?_
        refine E_then ?_
        refine C_seq ?_
        refine C_region ?_
        refine W_assign rfl rfl rfl ?_
        refine W_end ?_
        refine E_then ?_
        refine C_ret ?_
        obtain rfl := Option.some.inj hm
        refine E_weak hle129 ?_
        exact end1 rfl rfl ⟨rfl, rfl, rfl⟩

theorem m_alarm_explained_c {B : Nat} {w0 w : World} {H : Hp} {M : List Res} {causes : (List S_api_AlarmCause)} {p1_l : (List ByteArray)} {name : ByteArray} {v0 : Value} {v1 : Value} {r : (List ByteArray)} (hm : m_alarm_explained causes p1_l name = some r) (h0 : RdS H v0 causes) (h1 : RdS H v1 p1_l) (ht : St B w0 H (M) w) :
    Calls Proofs.Try.prog 54 [v0, v1, .string (name)].toArray w (Ret B w0 fun H' M' v => H = H' ∧ ∃ qv0 : Value, ∃ qxs0 : List Value, .row qv0 9 (Rep.sz ByteArray) r.length qxs0 :: M = M' ∧ qv0 = v ∧ RwF qv0 qxs0 r) := by
  unfold m_alarm_explained at hm
  refine enter Proofs.Try.func54 rfl rfl rfl ht ?_
  refine C_seq ?_
  refine C_region ?_
  refine W_assign rfl rfl rfl ?_
  refine W_end ?_
  refine E_then ?_
  refine C_seq ?_
  refine C_region ?_
  refine W_assign rfl rfl rfl ?_
  refine W_end ?_
  refine E_then ?_
  refine C_seq ?_
  refine C_seq ?_
  refine C_region ?_
  refine W_move rfl rfl rfl ?_
  refine W_buildSliceO (α := ByteArray) (css := [[.string (name)]]) (zs := [.string (⟨#[]⟩)]) (out := [.string (name)]) (ys := [name]) rfl rfl rfl ⟨rfl, trivial⟩ Proofs.Try.runUnderlying23 Proofs.Try.sizeOf9 rfl Proofs.Try.zeroValue9 (by kernel_rfl) rfl rfl rfl rfl ⟨[.string (name)], [], rfl, rfl, rfl⟩ rfl ?_
  intro v101 xs102 hr103
  refine W_assign rfl rfl rfl ?_
  refine W_end ?_
  refine E_then ?_
  refine C_block ?_
  refine C_nilRow 9 (Rep.sz ByteArray) ?_
  refine C_keep (L' := [(0, v0), (1, v1), (7, (.slice none 0 0)), (8, v101)]) ⟨rfl, rfl, rfl, rfl, trivial⟩ (List.Perm.refl _) ?_
  refine C_loop (fun n H' M' L' => ∃ l664 : List ByteArray, ∃ l668 : List ByteArray, ∃ v662 : Value, ∃ xs663 : List Value, ∃ v666 : Value, ∃ xs667 : List Value, loopF (fun s672 n => m_alarm_explained_b9 causes p1_l s672.1 s672.2 n) n (l664, l668) = some r ∧ Rw H' v662 xs663 l664 ∧ Rw H' v666 xs667 l668 ∧ H.le H' ∧ .row v662 9 (Rep.sz ByteArray) l664.length xs663 :: .row v666 9 (Rep.sz ByteArray) l668.length xs667 :: M = M' ∧ [(0, v0), (1, v1), (7, v662), (8, v666)] = L') FUEL ⟨([] : List ByteArray), ([name]), (.slice none 0 0), ([]), v101, xs102, hm, Rw.nil, hr103, (Hp.le_refl _), rfl, rfl⟩ ?_
  rintro n675 H670 _ _ ⟨l664, l668, v662, xs663, v666, xs667, hm, hr665, hr669, hle671, rfl, rfl⟩
  cases n675 with
  | zero => cases hm
  | succ n675 =>
    have hm : m_alarm_explained_b9 causes p1_l l664 l668 (loopF (fun s672 n => m_alarm_explained_b9 causes p1_l s672.1 s672.2 n) n675) = some r := hm
    generalize hn674 : loopF (fun s672 n => m_alarm_explained_b9 causes p1_l s672.1 s672.2 n) n675 = nx673 at hm
    unfold m_alarm_explained_b9 at hm
    refine C_seq ?_
    refine C_seq ?_
    refine C_region ?_
    refine W_move rfl rfl rfl ?_
    refine W_lenO (List.mem_cons_of_mem _ (List.mem_cons_self ..)) rfl rfl Proofs.Try.runUnderlying23 rfl ?_
    refine W_bin rfl rfl rfl rfl rfl ?_
    refine W_end ?_
    refine E_then ?_
    refine C_cond (b := decide (0 < (l668.length : Int))) rfl (fun hb681 => ?_) (fun hb681 => ?_)
    · have hm := ite_t' hb681 hm
      refine C_skip ?_
      refine E_then ?_
      refine C_block ?_
      refine C_seq ?_
      refine C_region ?_
      refine W_move rfl rfl rfl ?_
      obtain ⟨y682, h683, he684, hm⟩ := idx_some hm
      refine W_indexO (List.mem_cons_of_mem _ (List.mem_cons_self ..)) rfl rfl Proofs.Try.runUnderlying23 Proofs.Try.sizeOf9 rfl rfl h683 (List.getElem?_eq_some_iff.1 he684).1 ?_
      obtain ⟨_, rfl, hg685⟩ := (hr669).elem he684
      refine W_load rfl rfl Proofs.Try.isAgg9 rfl (row_one0 (List.mem_cons_of_mem _ (List.mem_cons_self ..)) hg685 rfl) ?_
      refine W_assign rfl rfl rfl ?_
      refine W_end ?_
      refine E_then ?_
      refine C_seq ?_
      refine C_region ?_
      refine W_move rfl rfl rfl ?_
      obtain ⟨hz686, hm⟩ := need_some hm
      refine W_perm (List.Perm.swap _ _ _) ?_
      refine W_sliceO (α := ByteArray) (l := (1 : Int).toNat) (h := l668.length) rfl rfl Proofs.Try.runUnderlying23 Proofs.Try.sizeOf9 rfl rfl hr669 (by omega) (by omega) (fun m hmm => (.inl ⟨rfl, rfl⟩)) (.inr ⟨_, _, _, rfl, rfl, by omega, by omega, rfl⟩) ?_
      intro v687 xs688 hr689
      refine W_assign rfl rfl rfl ?_
      refine W_end ?_
      refine E_then ?_
      refine C_seq ?_
      refine C_region ?_
      refine W_move rfl rfl rfl ?_
      refine W_lenR rfl rfl Proofs.Try.runUnderlying22 rfl (h0.mono hle671) ?_
      refine W_move rfl rfl rfl ?_
      refine W_end ?_
      refine E_then ?_
      refine C_block ?_
      refine C_keep (L' := [(0, v0), (1, v1), (7, v662), (8, v687), (9, .string (y682)), (22, v0), (23, .int .i64 ((causes.length : Int))), (24, .int .i64 (((0 : Nat) : Int)))]) ⟨rfl, rfl, rfl, rfl, rfl, rfl, rfl, rfl, trivial⟩ (List.Perm.swap _ _ _) ?_
      refine C_loop (fun n H' M' L' => ∃ (k690 : Nat) (zs872' : List S_api_AlarmCause), ∃ l859 : List ByteArray, ∃ l863 : List ByteArray, ∃ v857 : Value, ∃ xs858 : List Value, ∃ v861 : Value, ∃ xs862 : List Value, (causes).drop k690 = zs872' ∧ zs872'.length = n ∧ forI (fun k y s867 n => m_alarm_explained_b12 p1_l y682 k y s867.1 s867.2 n) (fun s867 => nx673 (s867.1, s867.2)) k690 zs872' (l859, l863) = some r ∧ Rw H' v857 xs858 l859 ∧ Rw H' v861 xs862 l863 ∧ H670.le H' ∧ .row v857 9 (Rep.sz ByteArray) l859.length xs858 :: .row v861 9 (Rep.sz ByteArray) l863.length xs862 :: M = M' ∧ [(0, v0), (1, v1), (7, v857), (8, v861), (9, .string (y682)), (22, v0), (23, .int .i64 ((causes.length : Int))), (24, .int .i64 ((k690 : Int)))] = L') _ ⟨0, _, l664, (slc l668 (1 : Int).toNat l668.length), v662, xs663, v687, xs688, rfl, rfl, hm, hr665, hr689, (Hp.le_refl _), rfl, rfl⟩ ?_
      rintro _ H865 _ _ ⟨k690, zs872', l859, l863, v857, xs858, v861, xs862, hd874, rfl, hm, hr860, hr864, hle866, rfl, rfl⟩
      refine C_seq ?_
      refine C_region ?_
      refine W_bin rfl rfl rfl rfl rfl ?_
      refine W_end (E_then ?_)
      refine C_seq ?_
      refine C_cond (b := decide ((k690 : Int) < (causes.length : Int))) rfl (fun hb876 => ?_) (fun hb876 => ?_)
      · obtain ⟨y871, zs872, rfl, hy873, hd875⟩ := rng_t hd874 hb876
        have hm : m_alarm_explained_b12 p1_l y682 k690 y871 l859 l863 (forI (fun k y s867 n => m_alarm_explained_b12 p1_l y682 k y s867.1 s867.2 n) (fun s867 => nx673 (s867.1, s867.2)) (k690 + 1) zs872) = some r := hm
        generalize hn869 : forI (fun k y s867 n => m_alarm_explained_b12 p1_l y682 k y s867.1 s867.2 n) (fun s867 => nx673 (s867.1, s867.2)) (k690 + 1) zs872 = nx868 at hm
        unfold m_alarm_explained_b12 at hm
        refine C_skip (E_then ?_)
        refine C_seq_join (fun H' M' L' => ∃ l910 : List ByteArray, ∃ l914 : List ByteArray, ∃ v908 : Value, ∃ xs909 : List Value, ∃ v912 : Value, ∃ xs913 : List Value, m_alarm_explained_b13 nx868 l910 l914 = some r ∧ Rw H' v908 xs909 l910 ∧ Rw H' v912 xs913 l914 ∧ H865.le H' ∧ .row v908 9 (Rep.sz ByteArray) l910.length xs909 :: .row v912 9 (Rep.sz ByteArray) l914.length xs913 :: M = M' ∧ [(0, v0), (1, v1), (7, v908), (8, v912), (9, .string (y682)), (22, v0), (23, .int .i64 ((causes.length : Int))), (24, .int .i64 ((k690 : Int)))] = L') ?_ (fun J918 => ?_)
        · rintro H916 _ _ ⟨l910, l914, v908, xs909, v912, xs913, hm, hr911, hr915, hle917, rfl, rfl⟩
          unfold m_alarm_explained_b13 at hm
          refine C_region ?_
          refine W_bin rfl rfl rfl rfl rfl ?_
          refine W_move rfl rfl rfl ?_
          refine W_end ?_
          exact E_keepJ (E_back (Nat.lt_succ_self _) ⟨k690 + 1, zs872, l910, l914, v908, xs909, v912, xs913, hd875, rfl, (by rw [hn869]; exact hm), hr911, hr915, (Hp.le_trans hle866 hle917), rfl, rfl⟩) (List.Perm.refl _) ⟨rfl, rfl, rfl, rfl, rfl, rfl, rfl, (congrArg (fun z => some (Value.int .i64 z)) (i64_succ hy873 (((h0.mono hle671).mono hle866)).lenMax)), trivial⟩
        · refine C_block ?_
          refine C_seq ?_
          refine C_region ?_
          obtain ⟨_, ⟨rfl⟩, hc919⟩ := (h0).elem hy873
          refine W_indexS rfl rfl Proofs.Try.runUnderlying22 Proofs.Try.sizeOf45 rfl ((h0.mono hle671).mono hle866) rfl (Int.natCast_nonneg _) hy873 ?_
          refine W_loadAgg rfl rfl Proofs.Try.isAgg45 Proofs.Try.sizeOf45 rfl ((hc919.mono hle671).mono hle866).at rfl ?_
          refine W_alloc (cs := [.string (⟨#[]⟩), .string (⟨#[]⟩)]) rfl rfl Proofs.Try.zeroValue45 rfl (fun b920 => ?_)
          refine W_store (cs := [.string (y871.Of), .string (y871.By)]) (out := [.string (y871.Of), .string (y871.By)]) rfl Proofs.Try.sizeOf45 rfl rfl rfl rfl rfl (all_cons rfl (all_cons rfl all_nil)) (over_all rfl) ?_
          refine W_end ?_
          refine E_then ?_
          refine C_seq ?_
          refine C_region ?_
          refine W_field (o := 0) rfl rfl Proofs.Try.runUnderlying45 rfl Proofs.Try.sizeOf9 rfl rfl rfl ?_
          refine W_load rfl rfl Proofs.Try.isAgg9 rfl (own_at (List.mem_cons_self ..) rfl) ?_
          refine W_move rfl rfl rfl ?_
          refine W_bin rfl rfl rfl rfl rfl ?_
          refine W_move rfl rfl rfl ?_
          cases hb921 : (decide (y871.Of = y682))
          · have hm := ite_f' hb921 hm
            refine W_no rfl rfl rfl ?_
            refine W_no rfl rfl rfl ?_
            refine W_no rfl rfl rfl ?_
            refine W_no rfl rfl rfl ?_
            refine W_pick rfl rfl rfl rfl ?_
            refine W_move rfl rfl rfl ?_
            refine W_no rfl rfl rfl ?_
            refine W_no rfl rfl rfl ?_
            refine W_no rfl rfl rfl ?_
            refine W_no rfl rfl rfl ?_
            refine W_no rfl rfl rfl ?_
            refine W_pick rfl rfl rfl rfl ?_
            refine W_end ?_
            refine E_then ?_
            refine C_cond (b := false) rfl (fun hb => Bool.noConfusion hb) (fun _ => ?_)
            refine C_skip ?_
            refine E_normal_block ?_
            refine E_drop (List.Sublist.cons _ (List.Sublist.refl _)) ?_
            exact E_keepJ (J918 _ _ _ ⟨l859, l863, v857, xs858, v861, xs862, hm, hr860, hr864, (Hp.le_refl _), rfl, rfl⟩) (List.Perm.refl _) ⟨rfl, rfl, rfl, rfl, rfl, rfl, rfl, rfl, trivial⟩
          · have hm := ite_t' hb921 hm
            refine W_move rfl rfl rfl ?_
            refine W_field (o := 1) rfl rfl Proofs.Try.runUnderlying45 rfl Proofs.Try.sizeOf9 rfl rfl rfl ?_
            refine W_load rfl rfl Proofs.Try.isAgg9 rfl (own_at (List.mem_cons_self ..) rfl) ?_
            obtain ⟨r922, hc923, hm⟩ := bind_some hm
            refine W_call Proofs.Try.call26 rfl rfl rfl (fun w ht => by have h := m_slices_Contains_string_string_c (hm := hc923) ((h1.mono hle671).mono hle866) ht; exact h) ?_
            rintro _ _ _ ⟨rfl, rfl, rfl⟩
            refine W_pick rfl rfl rfl rfl ?_
            refine W_move rfl rfl rfl ?_
            cases hb924 : (r922)
            · have hm := ite_f' hb924 hm
              refine W_no rfl rfl rfl ?_
              refine W_no rfl rfl rfl ?_
              refine W_no rfl rfl rfl ?_
              refine W_no rfl rfl rfl ?_
              refine W_no rfl rfl rfl ?_
              refine W_pick rfl rfl rfl rfl ?_
              refine W_end ?_
              refine E_then ?_
              refine C_cond (b := false) rfl (fun hb => Bool.noConfusion hb) (fun _ => ?_)
              refine C_skip ?_
              refine E_normal_block ?_
              refine E_drop (List.Sublist.cons _ (List.Sublist.refl _)) ?_
              exact E_keepJ (J918 _ _ _ ⟨l859, l863, v857, xs858, v861, xs862, hm, hr860, hr864, (Hp.le_refl _), rfl, rfl⟩) (List.Perm.refl _) ⟨rfl, rfl, rfl, rfl, rfl, rfl, rfl, rfl, trivial⟩
            · have hm := ite_t' hb924 hm
              refine W_move rfl rfl rfl ?_
              refine W_field (o := 1) rfl rfl Proofs.Try.runUnderlying45 rfl Proofs.Try.sizeOf9 rfl rfl rfl ?_
              refine W_load rfl rfl Proofs.Try.isAgg9 rfl (own_at (List.mem_cons_self ..) rfl) ?_
              refine W_perm (List.Perm.swap _ _ _) ?_
              obtain ⟨r925, hc926, hm⟩ := bind_some hm
              refine W_call Proofs.Try.call26 rfl rfl rfl (fun w ht => by obtain ⟨H0_, hl0_, ht0_, hr0_, bk0_⟩ := ht.lendRow hr860 rfl; have h := m_slices_Contains_string_string_c (hm := hc926) hr0_ ht0_; exact lend_back bk0_ (h)) ?_
              rintro _ _ _ ⟨rfl, ⟨_, rfl, rfl, rfl⟩⟩
              refine W_un rfl rfl rfl rfl ?_
              refine W_pick rfl rfl rfl rfl ?_
              refine W_end ?_
              refine E_then ?_
              refine C_cond (b := !r925) rfl (fun hb927 => ?_) (fun hb927 => ?_)
              · have hm := ite_t' hb927 hm
                refine C_seq ?_
                refine C_region ?_
                refine W_move rfl rfl rfl ?_
                refine W_field (o := 1) rfl rfl Proofs.Try.runUnderlying45 rfl Proofs.Try.sizeOf9 rfl rfl rfl ?_
                refine W_load rfl rfl Proofs.Try.isAgg9 rfl (own_at (List.mem_cons_of_mem _ (List.mem_cons_self ..)) rfl) ?_
                refine W_buildSlice (α := ByteArray) (css := [[.string (y871.By)]]) (zs := [.string (⟨#[]⟩)]) (out := [.string (y871.By)]) (ys := [y871.By]) rfl rfl rfl ⟨rfl, trivial⟩ Proofs.Try.runUnderlying23 Proofs.Try.sizeOf9 rfl Proofs.Try.zeroValue9 (by kernel_rfl) rfl rfl rfl rfl ⟨[.string (y871.By)], [], rfl, rfl, rfl⟩ rfl ?_
                intro b928 v929 H930 hv931 hle932 h933
                have hc934 : Value.cap' v929 = ([y871.By]).length := by rw [hv931]; rfl
                obtain ⟨hz935, hm⟩ := need_some hm
                refine W_appendO (α := ByteArray) (l := l859) (ys := [y871.By]) rfl rfl Proofs.Try.underlying23 ⟨_, rfl, rfl, rfl, rfl⟩ rfl rfl rfl rfl rfl (hr860.mono hle932) h933 hz935 ?_
                intro v936 xs937 hr938
                refine W_assign rfl rfl rfl ?_
                refine W_end ?_
                refine E_then ?_
                refine C_region ?_
                refine W_move rfl rfl rfl ?_
                refine W_field (o := 1) rfl rfl Proofs.Try.runUnderlying45 rfl Proofs.Try.sizeOf9 rfl rfl rfl ?_
                refine W_load rfl rfl Proofs.Try.isAgg9 rfl (own_at (List.mem_cons_of_mem _ (List.mem_cons_self ..)) rfl) ?_
                refine W_buildSlice (α := ByteArray) (css := [[.string (y871.By)]]) (zs := [.string (⟨#[]⟩)]) (out := [.string (y871.By)]) (ys := [y871.By]) rfl rfl rfl ⟨rfl, trivial⟩ Proofs.Try.runUnderlying23 Proofs.Try.sizeOf9 rfl Proofs.Try.zeroValue9 (by kernel_rfl) rfl rfl rfl rfl ⟨[.string (y871.By)], [], rfl, rfl, rfl⟩ rfl ?_
                intro b939 v940 H941 hv942 hle943 h944
                have hc945 : Value.cap' v940 = ([y871.By]).length := by rw [hv942]; rfl
                obtain ⟨hz946, hm⟩ := need_some hm
                refine W_perm (List.Perm.trans (List.Perm.cons _ (List.Perm.swap _ _ _)) (List.Perm.swap _ _ _)) ?_
                refine W_appendO (α := ByteArray) (l := l863) (ys := [y871.By]) rfl rfl Proofs.Try.underlying23 ⟨_, rfl, rfl, rfl, rfl⟩ rfl rfl rfl rfl rfl ((hr864.mono hle932).mono hle943) h944 hz946 ?_
                intro v947 xs948 hr949
                refine W_assign rfl rfl rfl ?_
                refine W_end ?_
                refine E_normal_block ?_
                refine E_drop (List.Sublist.cons_cons _ (List.Sublist.cons_cons _ (List.Sublist.cons _ (List.Sublist.refl _)))) ?_
                exact E_keepJ (J918 _ _ _ ⟨(l859 ++ ([y871.By])), (l863 ++ ([y871.By])), v936, xs937, v947, xs948, hm, (hr938.mono hle943), hr949, (Hp.le_trans hle932 hle943), rfl, rfl⟩) (List.Perm.swap _ _ _) ⟨rfl, rfl, rfl, rfl, rfl, rfl, rfl, rfl, trivial⟩
              · have hm := ite_f' hb927 hm
                refine C_skip ?_
                refine E_normal_block ?_
                refine E_drop (List.Sublist.cons_cons _ (List.Sublist.cons _ (List.Sublist.refl _))) ?_
                exact E_keepJ (J918 _ _ _ ⟨l859, l863, v857, xs858, v861, xs862, hm, hr860, hr864, (Hp.le_refl _), rfl, rfl⟩) (List.Perm.refl _) ⟨rfl, rfl, rfl, rfl, rfl, rfl, rfl, rfl, trivial⟩
      · obtain rfl := rng_f hd874 hb876
        have hm : (nx673 (l859, l863)) = some r := hm
        refine C_exit (E_exit_then ?_)
        refine E_exit_then ?_
        refine E_exit_hit ?_
        refine E_normal_block ?_
        exact E_keepJ (E_back (Nat.lt_succ_self _) ⟨l859, l863, v857, xs858, v861, xs862, (by rw [hn674]; exact hm), hr860, hr864, (Hp.le_trans hle671 hle866), rfl, rfl⟩) (List.Perm.refl _) ⟨rfl, rfl, rfl, rfl, trivial⟩
    · have hm := ite_f' hb681 hm
      refine C_exit ?_
      refine E_exit_then ?_
      refine E_exit_then ?_
      refine E_exit_hit ?_
      refine E_then ?_
      refine C_seq ?_
      refine C_region ?_
      refine W_move rfl rfl rfl ?_
      refine W_assign rfl rfl rfl ?_
      refine W_end ?_
      refine E_then ?_
      refine C_ret ?_
      obtain rfl := Option.some.inj hm
      refine E_drop (List.Sublist.cons_cons _ (List.Sublist.cons _ (List.Sublist.refl _))) ?_
      refine E_weak hle671 ?_
      exact end1 rfl rfl ⟨rfl, v662, xs663, rfl, rfl, (hr665).toF⟩

theorem m_alarm_isCause_1_c {B : Nat} {w0 w : World} {H : Hp} {M : List Res} {p0_by : ByteArray} {p1_c1 : ByteArray} {p2_c2 : (List S_api_AlarmCause)} {p3_c3 : (List ByteArray)} {b0 : Nat} {b1 : Nat} {v0 : Value} {b2 : Nat} {v1 : Value} {r : Bool} (hm : m_alarm_isCause_1 p0_by p1_c1 p2_c2 p3_c3 = some r) (h0 : RdS H v0 p2_c2) (h1 : RdS H v1 p3_c3) (ht : St B w0 H (.obj b0 (.cells [.string (p1_c1)].toArray 9 (0, 0)) :: .obj b1 (.cells [v0].toArray 22 (0, 0)) :: .obj b2 (.cells [v1].toArray 23 (0, 0)) :: M) w) :
    Calls Proofs.Try.prog 55 [.string (p0_by), .pointer (some ⟨b0, 0, none⟩), .pointer (some ⟨b1, 0, none⟩), .pointer (some ⟨b2, 0, none⟩)].toArray w (Ret B w0 fun H' M' v => H = H' ∧ .obj b0 (.cells [.string (p1_c1)].toArray 9 (0, 0)) :: .obj b1 (.cells [v0].toArray 22 (0, 0)) :: .obj b2 (.cells [v1].toArray 23 (0, 0)) :: M = M' ∧ .bool (r) = v) := by
  unfold m_alarm_isCause_1 at hm
  refine enter Proofs.Try.func55 rfl rfl rfl ht ?_
  refine C_seq ?_
  refine C_region ?_
  refine W_assign rfl rfl rfl ?_
  refine W_end ?_
  refine E_then ?_
  refine C_seq ?_
  cases hb101 : (ltS p0_by p1_c1)
  · have hm := ite_f' hb101 hm
    obtain ⟨r102, hc103, hm⟩ := bind_some hm
    refine C_region_tok0 9 (phiT [(fun H rs v => [] = rs ∧ .string (p0_by) = v), (fun H rs v => [] = rs ∧ .string (p1_c1) = v), (fun H rs v => [] = rs ∧ .bool (false) = v), (fun H rs v => [] = rs ∧ .bool (false) = v), (fun H rs v => [] = rs ∧ v0 = v), (fun H rs v => [] = rs ∧ v1 = v), (fun H rs v => [] = rs ∧ .string (p0_by) = v), (fun H rs v => ∃ v107 : Value, ∃ xs108 : List Value, [.row v107 9 (Rep.sz ByteArray) r102.length xs108] = rs ∧ v107 = v ∧ Rw H v107 xs108 r102), (fun H rs v => [] = rs ∧ .string (p1_c1) = v)]) [[], [], [], [], [], [], [], [], []] [[], [], [], [], [], [], [], [], []] [] [0, 1, 2, 3, 4, 5, 6, 7, 8] Facts.mixed (by kernel_rfl) rfl rfl rfl (by kernel_rfl) (phiT_mono ⟨eq_monoT _ _, eq_monoT _ _, eq_monoT _ _, eq_monoT _ _, eq_monoT _ _, eq_monoT _ _, eq_monoT _ _, (by rintro H1 H2 rs v hle ⟨v107, xs108, rfl, rfl, h109⟩; exact ⟨v107, xs108, rfl, rfl, (h109.mono hle)⟩), eq_monoT _ _, trivial⟩) ⟨?_, ?_, ?_, ?_, ?_, ?_, ?_, ?_, ?_, trivial⟩ ?_
    · intro HX hX X Rest hR
      intro hU
      refine W_move rfl rfl rfl ?_
      exact W_end (OneT_end [] (Hp.le_refl _) ⟨rfl, rfl⟩)
    · intro HX hX X Rest hR
      intro hU
      refine W_load rfl rfl Proofs.Try.isAgg9 rfl (own_at (hR _ (List.mem_cons_self ..)) rfl) ?_
      exact W_end (OneT_end [] (Hp.le_refl _) ⟨rfl, rfl⟩)
    · intro HX hX X Rest hR
      rintro _ _ ⟨rfl, rfl⟩
      rintro _ _ ⟨rfl, rfl⟩
      intro hU
      refine W_cmpS rfl rfl rfl rfl (.inl ⟨rfl, rfl⟩) ?_
      exact W_end (OneT_end [] (Hp.le_refl _) ⟨rfl, (by first | rfl | (rw [hb101]; try rfl))⟩)
    · intro HX hX X Rest hR
      rintro _ _ ⟨rfl, rfl⟩
      intro hU
      refine W_move rfl rfl rfl ?_
      exact W_end (OneT_end [] (Hp.le_refl _) ⟨rfl, rfl⟩)
    · intro HX hX X Rest hR
      rintro _ _ ⟨rfl, rfl⟩
      intro hU
      refine W_load rfl rfl Proofs.Try.isAgg22 rfl (own_at (hR _ (List.mem_cons_of_mem _ (List.mem_cons_self ..))) rfl) ?_
      exact W_end (OneT_end [] (Hp.le_refl _) ⟨rfl, rfl⟩)
    · intro HX hX X Rest hR
      rintro _ _ ⟨rfl, rfl⟩
      intro hU
      refine W_load rfl rfl Proofs.Try.isAgg23 rfl (own_at (hR _ (List.mem_cons_of_mem _ (List.mem_cons_of_mem _ (List.mem_cons_self ..)))) rfl) ?_
      exact W_end (OneT_end [] (Hp.le_refl _) ⟨rfl, rfl⟩)
    · intro HX hX X Rest hR
      rintro _ _ ⟨rfl, rfl⟩
      intro hU
      refine W_move rfl rfl rfl ?_
      exact W_end (OneT_end [] (Hp.le_refl _) ⟨rfl, rfl⟩)
    · intro HX hX X Rest hR
      rintro _ _ ⟨rfl, rfl⟩
      rintro _ _ ⟨rfl, rfl⟩
      rintro _ _ ⟨rfl, rfl⟩
      rintro _ _ ⟨rfl, rfl⟩
      rintro _ _ ⟨rfl, rfl⟩
      intro hU
      refine W_call Proofs.Try.call54 rfl rfl rfl (fun w ht => by have h := m_alarm_explained_c (hm := hc103) (h0.mono hX) (h1.mono hX) ht; exact h) ?_
      rintro _ _ _ ⟨rfl, v107, xs108, rfl, rfl, h109⟩
      have h109 := h109 HX
      exact W_end (OneT_end [.row v107 9 (Rep.sz ByteArray) r102.length xs108] (Hp.le_refl _) ⟨v107, xs108, rfl, rfl, (h109)⟩)
    · intro HX hX X Rest hR
      rintro _ _ ⟨rfl, rfl⟩
      intro hU
      refine W_load rfl rfl Proofs.Try.isAgg9 rfl (own_at (hR _ (List.mem_cons_self ..)) rfl) ?_
      exact W_end (OneT_end [] (Hp.le_refl _) ⟨rfl, rfl⟩)
    intro H110 hle111
    rintro _ _ ⟨rfl, rfl⟩
    rintro _ _ ⟨rfl, rfl⟩
    rintro _ _ ⟨rfl, rfl⟩
    rintro _ _ ⟨rfl, rfl⟩
    rintro _ _ ⟨rfl, rfl⟩
    rintro _ _ ⟨rfl, rfl⟩
    rintro _ _ ⟨rfl, rfl⟩
    rintro _ _ ⟨v107, xs108, rfl, rfl, h109⟩
    rintro _ _ ⟨rfl, rfl⟩
    refine W_as (M' := .row v107 9 (Rep.sz ByteArray) r102.length xs108 :: .obj b0 (.cells [.string (p1_c1)].toArray 9 (0, 0)) :: .obj b1 (.cells [v0].toArray 22 (0, 0)) :: .obj b2 (.cells [v1].toArray 23 (0, 0)) :: M) rfl ?_
    obtain ⟨r112, hc113, hm⟩ := bind_some hm
    refine W_call Proofs.Try.call26 rfl rfl rfl (fun w ht => by obtain ⟨H0_, hl0_, ht0_, hr0_, bk0_⟩ := ht.lendRow h109 rfl; have h := m_slices_Contains_string_string_c (hm := hc113) hr0_ ht0_; exact lend_back bk0_ (h)) ?_
    rintro _ _ _ ⟨rfl, ⟨_, rfl, rfl, rfl⟩⟩
    refine W_un rfl rfl rfl rfl ?_
    refine W_pick rfl rfl rfl rfl ?_
    refine W_assign rfl rfl rfl ?_
    refine W_end ?_
    refine E_then ?_
    refine C_ret ?_
    obtain rfl := Option.some.inj hm
    refine E_drop (List.Sublist.cons _ (List.Sublist.refl _)) ?_
    refine E_weak hle111 ?_
    exact end1 rfl rfl ⟨rfl, rfl, rfl⟩
  · have hm := ite_t' hb101 hm
    refine C_region_tok0 9 (phiT [(fun H rs v => [] = rs ∧ .string (p0_by) = v), (fun H rs v => [] = rs ∧ .string (p1_c1) = v), (fun H rs v => [] = rs ∧ .bool (true) = v), (fun H rs v => [] = rs ∧ .bool (true) = v), (fun H rs v => [] = rs ∧ undef = v), (fun H rs v => [] = rs ∧ undef = v), (fun H rs v => [] = rs ∧ undef = v), (fun H rs v => [] = rs ∧ undef = v), (fun H rs v => [] = rs ∧ undef = v)]) [[], [], [], [], [], [], [], [], []] [[], [], [], [], [], [], [], [], []] [] [0, 1, 2, 3, 4, 5, 6, 7, 8] Facts.mixed (by kernel_rfl) rfl rfl rfl (by kernel_rfl) (phiT_mono ⟨eq_monoT _ _, eq_monoT _ _, eq_monoT _ _, eq_monoT _ _, eq_monoT _ _, eq_monoT _ _, eq_monoT _ _, eq_monoT _ _, eq_monoT _ _, trivial⟩) ⟨?_, ?_, ?_, ?_, ?_, ?_, ?_, ?_, ?_, trivial⟩ ?_
    · intro HX hX X Rest hR
      intro hU
      refine W_move rfl rfl rfl ?_
      exact W_end (OneT_end [] (Hp.le_refl _) ⟨rfl, rfl⟩)
    · intro HX hX X Rest hR
      intro hU
      refine W_load rfl rfl Proofs.Try.isAgg9 rfl (own_at (hR _ (List.mem_cons_self ..)) rfl) ?_
      exact W_end (OneT_end [] (Hp.le_refl _) ⟨rfl, rfl⟩)
    · intro HX hX X Rest hR
      rintro _ _ ⟨rfl, rfl⟩
      rintro _ _ ⟨rfl, rfl⟩
      intro hU
      refine W_cmpS rfl rfl rfl rfl (.inl ⟨rfl, rfl⟩) ?_
      exact W_end (OneT_end [] (Hp.le_refl _) ⟨rfl, (by first | rfl | (rw [hb101]; try rfl))⟩)
    · intro HX hX X Rest hR
      rintro _ _ ⟨rfl, rfl⟩
      intro hU
      refine W_move rfl rfl rfl ?_
      exact W_end (OneT_end [] (Hp.le_refl _) ⟨rfl, rfl⟩)
    · intro HX hX X Rest hR
      rintro _ _ ⟨rfl, rfl⟩
      intro hU
      refine W_no rfl rfl rfl ?_
      exact W_end (OneT_end [] (Hp.le_refl _) ⟨rfl, rfl⟩)
    · intro HX hX X Rest hR
      rintro _ _ ⟨rfl, rfl⟩
      intro hU
      refine W_no rfl rfl rfl ?_
      exact W_end (OneT_end [] (Hp.le_refl _) ⟨rfl, rfl⟩)
    · intro HX hX X Rest hR
      rintro _ _ ⟨rfl, rfl⟩
      intro hU
      refine W_no rfl rfl rfl ?_
      exact W_end (OneT_end [] (Hp.le_refl _) ⟨rfl, rfl⟩)
    · intro HX hX X Rest hR
      rintro _ _ ⟨rfl, rfl⟩
      rintro _ _ ⟨rfl, rfl⟩
      rintro _ _ ⟨rfl, rfl⟩
      rintro _ _ ⟨rfl, rfl⟩
      rintro _ _ ⟨rfl, rfl⟩
      intro hU
      refine W_no rfl rfl rfl ?_
      exact W_end (OneT_end [] (Hp.le_refl _) ⟨rfl, rfl⟩)
    · intro HX hX X Rest hR
      rintro _ _ ⟨rfl, rfl⟩
      intro hU
      refine W_no rfl rfl rfl ?_
      exact W_end (OneT_end [] (Hp.le_refl _) ⟨rfl, rfl⟩)
    intro H114 hle115
    rintro _ _ ⟨rfl, rfl⟩
    rintro _ _ ⟨rfl, rfl⟩
    rintro _ _ ⟨rfl, rfl⟩
    rintro _ _ ⟨rfl, rfl⟩
    rintro _ _ ⟨rfl, rfl⟩
    rintro _ _ ⟨rfl, rfl⟩
    rintro _ _ ⟨rfl, rfl⟩
    rintro _ _ ⟨rfl, rfl⟩
    rintro _ _ ⟨rfl, rfl⟩
    refine W_no rfl rfl rfl ?_
    refine W_no rfl rfl rfl ?_
    refine W_pick rfl rfl rfl rfl ?_
    refine W_assign rfl rfl rfl ?_
    refine W_end ?_
    refine E_then ?_
    refine C_ret ?_
    obtain rfl := Option.some.inj hm
    refine E_weak hle115 ?_
    exact end1 rfl rfl ⟨rfl, rfl, rfl⟩

theorem m_slices_IndexFunc_string_string__alarm_isCause_1_c {B : Nat} {w0 w : World} {H : Hp} {M : List Res} {p0_s : (List ByteArray)} {p1_f_0 : ByteArray} {p1_f_1 : (List S_api_AlarmCause)} {p1_f_2 : (List ByteArray)} {v0 : Value} {b0 : Nat} {b1 : Nat} {v1 : Value} {b2 : Nat} {v2 : Value} {r : Int} (hm : m_slices_IndexFunc_string_string__alarm_isCause_1 p0_s p1_f_0 p1_f_1 p1_f_2 = some r) (h0 : RdS H v0 p0_s) (h1 : RdS H v1 p1_f_1) (h2 : RdS H v2 p1_f_2) (ht : St B w0 H (.obj b0 (.cells [.string (p1_f_0)].toArray 9 (0, 0)) :: .obj b1 (.cells [v1].toArray 22 (0, 0)) :: .obj b2 (.cells [v2].toArray 23 (0, 0)) :: M) w) :
    Calls Proofs.Try.prog 69 [v0, .func (.func 55) [].toArray [.pointer (some ⟨b0, 0, none⟩), .pointer (some ⟨b1, 0, none⟩), .pointer (some ⟨b2, 0, none⟩)].toArray].toArray w (Ret B w0 fun H' M' v => H = H' ∧ .obj b0 (.cells [.string (p1_f_0)].toArray 9 (0, 0)) :: .obj b1 (.cells [v1].toArray 22 (0, 0)) :: .obj b2 (.cells [v2].toArray 23 (0, 0)) :: M = M' ∧ .int .i64 (r) = v) := by
  unfold m_slices_IndexFunc_string_string__alarm_isCause_1 at hm
  refine enter Proofs.Try.func69 rfl rfl rfl ht ?_
  refine C_seq ?_
  refine C_region ?_
  refine W_assign rfl rfl rfl ?_
  refine W_end ?_
  refine E_then ?_
  refine C_seq ?_
  refine C_seq ?_
  refine C_region ?_
  refine W_move rfl rfl rfl ?_
  refine W_lenR rfl rfl Proofs.Try.runUnderlying23 rfl h0 ?_
  refine W_move rfl rfl rfl ?_
  refine W_end ?_
  refine E_then ?_
  refine C_block ?_
  refine C_keep (L' := [(0, v0), (1, .func (.func 55) [].toArray [.pointer (some ⟨b0, 0, none⟩), .pointer (some ⟨b1, 0, none⟩), .pointer (some ⟨b2, 0, none⟩)].toArray), (7, .int .i64 ((p0_s.length : Int))), (8, .int .i64 (((0 : Nat) : Int)))]) ⟨rfl, rfl, rfl, rfl, trivial⟩ (List.Perm.refl _) ?_
  refine C_loop (fun n H' M' L' => ∃ (k101 : Nat) (zs123' : Nat), k101 + zs123' = ((p0_s.length : Int) : Int).toNat ∧ zs123' = n ∧ forN (fun k s118 n => m_slices_IndexFunc_string_string__alarm_isCause_1_b1 p0_s p1_f_0 p1_f_1 p1_f_2 k n) (fun _ => some (-1)) zs123' k101 () = some r ∧ H.le H' ∧ .obj b0 (.cells [.string (p1_f_0)].toArray 9 (0, 0)) :: .obj b1 (.cells [v1].toArray 22 (0, 0)) :: .obj b2 (.cells [v2].toArray 23 (0, 0)) :: M = M' ∧ [(0, v0), (1, .func (.func 55) [].toArray [.pointer (some ⟨b0, 0, none⟩), .pointer (some ⟨b1, 0, none⟩), .pointer (some ⟨b2, 0, none⟩)].toArray), (7, .int .i64 ((p0_s.length : Int))), (8, .int .i64 ((k101 : Int)))] = L') _ ⟨0, _, Nat.zero_add _, rfl, hm, (Hp.le_refl _), rfl, rfl⟩ ?_
  rintro _ H116 _ _ ⟨k101, zs123', hd125, rfl, hm, hle117, rfl, rfl⟩
  refine C_seq ?_
  refine C_region ?_
  refine W_bin rfl rfl rfl rfl rfl ?_
  refine W_end (E_then ?_)
  refine C_seq ?_
  refine C_cond (b := decide ((k101 : Int) < (p0_s.length : Int))) rfl (fun hb127 => ?_) (fun hb127 => ?_)
  · obtain ⟨zs123, rfl, hd126, hy124⟩ := rngN_t hd125 hb127
    have hm : m_slices_IndexFunc_string_string__alarm_isCause_1_b1 p0_s p1_f_0 p1_f_1 p1_f_2 k101 (forN (fun k s118 n => m_slices_IndexFunc_string_string__alarm_isCause_1_b1 p0_s p1_f_0 p1_f_1 p1_f_2 k n) (fun _ => some (-1)) zs123 (k101 + 1)) = some r := hm
    generalize hn120 : forN (fun k s118 n => m_slices_IndexFunc_string_string__alarm_isCause_1_b1 p0_s p1_f_0 p1_f_1 p1_f_2 k n) (fun _ => some (-1)) zs123 (k101 + 1) = nx119 at hm
    unfold m_slices_IndexFunc_string_string__alarm_isCause_1_b1 at hm
    refine C_skip (E_then ?_)
    refine C_seq ?_
    refine C_block ?_
    refine C_seq ?_
    refine C_region ?_
    refine W_move rfl rfl rfl ?_
    refine W_assign rfl rfl rfl ?_
    refine W_end ?_
    refine E_then ?_
    refine C_seq ?_
    refine C_region ?_
    refine W_move rfl rfl rfl ?_
    refine W_move rfl rfl rfl ?_
    refine W_move rfl rfl rfl ?_
    obtain ⟨y128, h129, he130, hm⟩ := idx_some hm
    obtain ⟨_, rfl, hc131⟩ := (h0).elem he130
    refine W_indexS rfl rfl Proofs.Try.runUnderlying23 Proofs.Try.sizeOf9 rfl (h0.mono hle117) rfl h129 he130 ?_
    refine W_load rfl rfl Proofs.Try.isAgg9 rfl (HCells.one (hc131.mono hle117) 0 rfl).at ?_
    obtain ⟨r132, hc133, hm⟩ := bind_some hm
    refine W_callv Proofs.Try.call55 rfl rfl rfl rfl (fun w ht => by have h := m_alarm_isCause_1_c (hm := hc133) (h1.mono hle117) (h2.mono hle117) ht; exact h) ?_
    rintro _ _ _ ⟨rfl, rfl, rfl⟩
    refine W_end ?_
    refine E_then ?_
    refine C_cond (b := r132) rfl (fun hb134 => ?_) (fun hb134 => ?_)
    · have hm := ite_t' hb134 hm
      refine C_seq ?_
      refine C_region ?_
      refine W_move rfl rfl rfl ?_
      refine W_assign rfl rfl rfl ?_
      refine W_end ?_
      refine E_then ?_
      refine C_ret ?_
      refine E_ret_block ?_
      refine E_ret_then ?_
      refine E_ret_then ?_
      refine E_ret_block ?_
      refine E_ret_then ?_
      obtain rfl := Option.some.inj hm
      refine E_weak hle117 ?_
      exact end1 rfl rfl ⟨rfl, rfl, rfl⟩
    · have hm := ite_f' hb134 hm
      refine C_skip ?_
      refine E_normal_block ?_
      refine E_then ?_
      refine C_region ?_
      refine W_bin rfl rfl rfl rfl rfl ?_
      refine W_move rfl rfl rfl ?_
      refine W_end ?_
      exact E_keepJ (E_back (Nat.lt_succ_self _) ⟨k101 + 1, zs123, hd126, rfl, (by rw [hn120]; exact hm), hle117, rfl, rfl⟩) (List.Perm.refl _) ⟨rfl, rfl, rfl, (congrArg (fun z => some (Value.int .i64 z)) (i64_succN hy124 (toNat_max (len_max (h0).lenMax)))), trivial⟩
  · obtain rfl := rngN_f hd125 hb127
    have hm : (some (-1)) = some r := hm
    refine C_exit (E_exit_then ?_)
    refine E_exit_then ?_
    refine E_exit_hit ?_
    refine E_then ?_
    refine C_seq ?_
    refine C_region ?_
    refine W_assign rfl rfl rfl ?_
    refine W_end ?_
    refine E_then ?_
    refine C_ret ?_
    obtain rfl := Option.some.inj hm
    refine E_weak hle117 ?_
    exact end1 rfl rfl ⟨rfl, rfl, rfl⟩

theorem m_slices_ContainsFunc_string_string__alarm_isCause_1_c {B : Nat} {w0 w : World} {H : Hp} {M : List Res} {p0_s : (List ByteArray)} {p1_f_0 : ByteArray} {p1_f_1 : (List S_api_AlarmCause)} {p1_f_2 : (List ByteArray)} {v0 : Value} {b0 : Nat} {b1 : Nat} {v1 : Value} {b2 : Nat} {v2 : Value} {r : Bool} (hm : m_slices_ContainsFunc_string_string__alarm_isCause_1 p0_s p1_f_0 p1_f_1 p1_f_2 = some r) (h0 : RdS H v0 p0_s) (h1 : RdS H v1 p1_f_1) (h2 : RdS H v2 p1_f_2) (ht : St B w0 H (.obj b0 (.cells [.string (p1_f_0)].toArray 9 (0, 0)) :: .obj b1 (.cells [v1].toArray 22 (0, 0)) :: .obj b2 (.cells [v2].toArray 23 (0, 0)) :: M) w) :
    Calls Proofs.Try.prog 53 [v0, .func (.func 55) [].toArray [.pointer (some ⟨b0, 0, none⟩), .pointer (some ⟨b1, 0, none⟩), .pointer (some ⟨b2, 0, none⟩)].toArray].toArray w (Ret B w0 fun H' M' v => H = H' ∧ .obj b0 (.cells [.string (p1_f_0)].toArray 9 (0, 0)) :: .obj b1 (.cells [v1].toArray 22 (0, 0)) :: .obj b2 (.cells [v2].toArray 23 (0, 0)) :: M = M' ∧ .bool (r) = v) := by
  unfold m_slices_ContainsFunc_string_string__alarm_isCause_1 at hm
  refine enter Proofs.Try.func53 rfl rfl rfl ht ?_
  refine C_seq ?_
  refine C_region ?_
  refine W_assign rfl rfl rfl ?_
  refine W_end ?_
  refine E_then ?_
  refine C_seq ?_
  refine C_region ?_
  refine W_move rfl rfl rfl ?_
  refine W_move rfl rfl rfl ?_
  obtain ⟨r101, hc102, hm⟩ := bind_some hm
  refine W_call Proofs.Try.call69 rfl rfl rfl (fun w ht => by have h := m_slices_IndexFunc_string_string__alarm_isCause_1_c (hm := hc102) h0 h1 h2 ht; exact h) ?_
  rintro _ _ _ ⟨rfl, rfl, rfl⟩
  refine W_bin rfl rfl rfl rfl rfl ?_
  refine W_assign rfl rfl rfl ?_
  refine W_end ?_
  refine E_then ?_
  refine C_ret ?_
  obtain rfl := Option.some.inj hm
  refine E_weak (Hp.le_refl _) ?_
  exact end1 rfl rfl ⟨rfl, rfl, rfl⟩

theorem m_alarm_isCause_c {B : Nat} {w0 w : World} {H : Hp} {M : List Res} {causes : (List S_api_AlarmCause)} {p1_l : (List ByteArray)} {name : ByteArray} {v0 : Value} {v1 : Value} {r : Bool} (hm : m_alarm_isCause causes p1_l name = some r) (h0 : RdS H v0 causes) (h1 : RdS H v1 p1_l) (ht : St B w0 H (M) w) :
    Calls Proofs.Try.prog 38 [v0, v1, .string (name)].toArray w (Ret B w0 fun H' M' v => H = H' ∧ M = M' ∧ .bool (r) = v) := by
  unfold m_alarm_isCause at hm
  refine enter Proofs.Try.func38 rfl rfl rfl ht ?_
  refine C_seq ?_
  refine C_region ?_
  refine W_box (cs := [v0]) rfl rfl rfl (RdS.cells h0) (fun b101 => ?_)
  refine W_box (cs := [v1]) rfl rfl rfl (RdS.cells h1) (fun b102 => ?_)
  refine W_box (cs := [.string (name)]) rfl rfl rfl rfl (fun b103 => ?_)
  refine W_assign rfl rfl rfl ?_
  refine W_end ?_
  refine E_then ?_
  refine C_seq ?_
  refine C_region ?_
  refine W_load rfl rfl Proofs.Try.isAgg22 rfl (own_at (List.mem_cons_of_mem _ (List.mem_cons_of_mem _ (List.mem_cons_self ..))) rfl) ?_
  refine W_load rfl rfl Proofs.Try.isAgg23 rfl (own_at (List.mem_cons_of_mem _ (List.mem_cons_self ..)) rfl) ?_
  refine W_load rfl rfl Proofs.Try.isAgg9 rfl (own_at (List.mem_cons_self ..) rfl) ?_
  obtain ⟨r104, hc105, hm⟩ := bind_some hm
  refine W_call Proofs.Try.call54 rfl rfl rfl (fun w ht => by have h := m_alarm_explained_c (hm := hc105) h0 h1 ht; exact h) ?_
  rintro _ _ _ ⟨rfl, v106, xs107, rfl, rfl, h108⟩
  have h108 := h108 H
  refine W_makeFunc rfl rfl rfl rfl ?_
  refine W_perm (List.Perm.cons _ (List.Perm.cons _ (List.Perm.swap _ _ _))) ?_
  obtain ⟨r109, hc110, hm⟩ := bind_some hm
  refine W_call Proofs.Try.call53 rfl rfl rfl (fun w ht => by obtain ⟨H0_, hl0_, ht0_, hr0_, bk0_⟩ := ht.lendRow h108 rfl; have h := m_slices_ContainsFunc_string_string__alarm_isCause_1_c (hm := hc110) hr0_ (h0.mono hl0_) (h1.mono hl0_) ht0_; exact lend_back bk0_ (h)) ?_
  rintro _ _ _ ⟨rfl, ⟨_, rfl, rfl, rfl⟩⟩
  refine W_un rfl rfl rfl rfl ?_
  refine W_assign rfl rfl rfl ?_
  refine W_end ?_
  refine E_then ?_
  refine C_ret ?_
  obtain rfl := Option.some.inj hm
  refine E_drop (List.Sublist.cons _ (List.Sublist.cons _ (List.Sublist.cons _ (List.Sublist.cons _ (List.Sublist.refl _))))) ?_
  refine E_weak (Hp.le_refl _) ?_
  exact end1 rfl rfl ⟨rfl, rfl, rfl⟩

theorem m_math_bits_Len64_c {B : Nat} {w0 w : World} {H : Hp} {M : List Res} {p0_x : Int} {r : Int} (hm : m_math_bits_Len64 p0_x = some r) (ht : St B w0 H (M) w) :
    Calls Proofs.Try.prog 49 [.int .u64 (p0_x)].toArray w (Ret B w0 fun H' M' v => H = H' ∧ M = M' ∧ .int .i64 (r) = v) := by
  unfold m_math_bits_Len64 at hm
  refine enter Proofs.Try.func49 rfl rfl rfl ht ?_
  refine C_seq ?_
  refine C_region ?_
  refine W_assign rfl rfl rfl ?_
  refine W_end ?_
  refine E_then ?_
  refine C_seq_join (fun H' M' L' => ∃ n102 : Int, ∃ n103 : Int, m_math_bits_Len64_b3 n102 n103 = some r ∧ H = H' ∧ M = M' ∧ [(0, .int .u64 (n102)), (2, .int .i64 (n103))] = L') ?_ (fun J104 => ?_)
  · rintro _ _ _ ⟨n102, n103, hm, rfl, rfl, rfl⟩
    unfold m_math_bits_Len64_b3 at hm
    refine C_seq_join (fun H' M' L' => ∃ n106 : Int, ∃ n107 : Int, m_math_bits_Len64_b2 n106 n107 = some r ∧ H = H' ∧ M = M' ∧ [(0, .int .u64 (n106)), (2, .int .i64 (n107))] = L') ?_ (fun J108 => ?_)
    · rintro _ _ _ ⟨n106, n107, hm, rfl, rfl, rfl⟩
      unfold m_math_bits_Len64_b2 at hm
      refine C_seq_join (fun H' M' L' => ∃ n110 : Int, ∃ n111 : Int, m_math_bits_Len64_b1 n110 n111 = some r ∧ H = H' ∧ M = M' ∧ [(0, .int .u64 (n110)), (2, .int .i64 (n111))] = L') ?_ (fun J112 => ?_)
      · rintro _ _ _ ⟨n110, n111, hm, rfl, rfl, rfl⟩
        unfold m_math_bits_Len64_b1 at hm
        refine C_seq ?_
        refine C_region ?_
        refine W_move rfl rfl rfl ?_
        refine W_move rfl rfl rfl ?_
        refine W_convInt rfl rfl Proofs.Try.runUnderlying81 Proofs.Try.runUnderlying5 rfl ?_
        obtain ⟨y113, h114, he115, hm⟩ := idx_some hm
        refine W_indexStr rfl rfl Proofs.Try.runUnderlying9 rfl rfl h114 he115 ?_
        refine W_convInt rfl rfl Proofs.Try.runUnderlying5 Proofs.Try.runUnderlying3 rfl ?_
        refine W_bin rfl rfl rfl rfl rfl ?_
        refine W_assign rfl rfl rfl ?_
        refine W_end ?_
        refine E_then ?_
        refine C_ret ?_
        obtain rfl := Option.some.inj hm
        refine E_weak (Hp.le_refl _) ?_
        exact end1 rfl rfl ⟨rfl, rfl, rfl⟩
      · refine C_seq ?_
        refine C_region ?_
        refine W_move rfl rfl rfl ?_
        refine W_bin rfl rfl rfl rfl rfl ?_
        refine W_end ?_
        refine E_then ?_
        refine C_cond (b := decide (256 ≤ n106)) rfl (fun hb116 => ?_) (fun hb116 => ?_)
        · have hm := ite_t' hb116 hm
          refine C_seq ?_
          refine C_region ?_
          refine W_move rfl rfl rfl ?_
          refine W_shr rfl rfl rfl rfl (by decide) ?_
          refine W_assign rfl rfl rfl ?_
          refine W_end ?_
          refine E_then ?_
          refine C_region ?_
          refine W_move rfl rfl rfl ?_
          refine W_bin rfl rfl rfl rfl rfl ?_
          refine W_assign rfl rfl rfl ?_
          refine W_end ?_
          exact E_keepJ (J112 _ _ _ ⟨shrV .u64 n106 8, IntKind.i64.wrap (n107 + 8), hm, rfl, rfl, rfl⟩) (List.Perm.refl _) ⟨rfl, rfl, trivial⟩
        · have hm := ite_f' hb116 hm
          refine C_skip ?_
          exact E_keepJ (J112 _ _ _ ⟨n106, n107, hm, rfl, rfl, rfl⟩) (List.Perm.refl _) ⟨rfl, rfl, trivial⟩
    · refine C_seq ?_
      refine C_region ?_
      refine W_move rfl rfl rfl ?_
      refine W_bin rfl rfl rfl rfl rfl ?_
      refine W_end ?_
      refine E_then ?_
      refine C_cond (b := decide (65536 ≤ n102)) rfl (fun hb117 => ?_) (fun hb117 => ?_)
      · have hm := ite_t' hb117 hm
        refine C_seq ?_
        refine C_region ?_
        refine W_move rfl rfl rfl ?_
        refine W_shr rfl rfl rfl rfl (by decide) ?_
        refine W_assign rfl rfl rfl ?_
        refine W_end ?_
        refine E_then ?_
        refine C_region ?_
        refine W_move rfl rfl rfl ?_
        refine W_bin rfl rfl rfl rfl rfl ?_
        refine W_assign rfl rfl rfl ?_
        refine W_end ?_
        exact E_keepJ (J108 _ _ _ ⟨shrV .u64 n102 16, IntKind.i64.wrap (n103 + 16), hm, rfl, rfl, rfl⟩) (List.Perm.refl _) ⟨rfl, rfl, trivial⟩
      · have hm := ite_f' hb117 hm
        refine C_skip ?_
        exact E_keepJ (J108 _ _ _ ⟨n102, n103, hm, rfl, rfl, rfl⟩) (List.Perm.refl _) ⟨rfl, rfl, trivial⟩
  · refine C_seq ?_
    refine C_region ?_
    refine W_move rfl rfl rfl ?_
    refine W_bin rfl rfl rfl rfl rfl ?_
    refine W_end ?_
    refine E_then ?_
    refine C_cond (b := decide (4294967296 ≤ p0_x)) rfl (fun hb118 => ?_) (fun hb118 => ?_)
    · have hm := ite_t' hb118 hm
      refine C_seq ?_
      refine C_region ?_
      refine W_move rfl rfl rfl ?_
      refine W_shr rfl rfl rfl rfl (by decide) ?_
      refine W_assign rfl rfl rfl ?_
      refine W_end ?_
      refine E_then ?_
      refine C_region ?_
      refine W_assign rfl rfl rfl ?_
      refine W_end ?_
      exact E_keepJ (J104 _ _ _ ⟨shrV .u64 p0_x 32, 32, hm, rfl, rfl, rfl⟩) (List.Perm.refl _) ⟨rfl, rfl, trivial⟩
    · have hm := ite_f' hb118 hm
      refine C_skip ?_
      exact E_keepJ (J104 _ _ _ ⟨p0_x, 0, hm, rfl, rfl, rfl⟩) (List.Perm.refl _) ⟨rfl, rfl, trivial⟩

theorem m_math_bits_Len_c {B : Nat} {w0 w : World} {H : Hp} {M : List Res} {p0_x : Int} {r : Int} (hm : m_math_bits_Len p0_x = some r) (ht : St B w0 H (M) w) :
    Calls Proofs.Try.prog 28 [.int .u64 (p0_x)].toArray w (Ret B w0 fun H' M' v => H = H' ∧ M = M' ∧ .int .i64 (r) = v) := by
  unfold m_math_bits_Len at hm
  refine enter Proofs.Try.func28 rfl rfl rfl ht ?_
  refine C_seq ?_
  refine C_region ?_
  refine W_assign rfl rfl rfl ?_
  refine W_end ?_
  refine E_then ?_
  refine C_seq ?_
  refine C_cond (b := false) rfl (fun hb => Bool.noConfusion hb) (fun _ => ?_)
  refine C_skip ?_
  refine E_then ?_
  refine C_seq ?_
  refine C_region ?_
  refine W_move rfl rfl rfl ?_
  obtain ⟨r101, hc102, hm⟩ := bind_some hm
  refine W_call Proofs.Try.call49 rfl rfl rfl (fun w ht => by have h := m_math_bits_Len64_c (hm := hc102)  ht; exact h) ?_
  rintro _ _ _ ⟨rfl, rfl, rfl⟩
  refine W_assign rfl rfl rfl ?_
  refine W_end ?_
  refine E_then ?_
  refine C_ret ?_
  obtain rfl := Option.some.inj hm
  refine E_weak (Hp.le_refl _) ?_
  exact end1 rfl rfl ⟨rfl, rfl, rfl⟩

theorem m_cmp_isNaN_string_c {B : Nat} {w0 w : World} {H : Hp} {M : List Res} {p0_x : ByteArray} {r : Bool} (hm : m_cmp_isNaN_string p0_x = r) (ht : St B w0 H (M) w) :
    Calls Proofs.Try.prog 52 [.string (p0_x)].toArray w (Ret B w0 fun H' M' v => H = H' ∧ M = M' ∧ .bool (r) = v) := by
  unfold m_cmp_isNaN_string at hm
  refine enter Proofs.Try.func52 rfl rfl rfl ht ?_
  refine C_seq ?_
  refine C_region ?_
  refine W_assign rfl rfl rfl ?_
  refine W_end ?_
  refine E_then ?_
  refine C_seq ?_
  refine C_region ?_
  refine W_move rfl rfl rfl ?_
  refine W_move rfl rfl rfl ?_
  refine W_bin rfl rfl rfl rfl rfl ?_
  refine W_assign rfl rfl rfl ?_
  refine W_end ?_
  refine E_then ?_
  refine C_ret ?_
  obtain rfl := hm
  refine E_weak (Hp.le_refl _) ?_
  exact end1 rfl rfl ⟨rfl, rfl, rfl⟩

theorem m_cmp_Less_string_c {B : Nat} {w0 w : World} {H : Hp} {M : List Res} {p0_x : ByteArray} {p1_y : ByteArray} {r : Bool} (hm : m_cmp_Less_string p0_x p1_y = r) (ht : St B w0 H (M) w) :
    Calls Proofs.Try.prog 45 [.string (p0_x), .string (p1_y)].toArray w (Ret B w0 fun H' M' v => H = H' ∧ M = M' ∧ .bool (r) = v) := by
  unfold m_cmp_Less_string at hm
  refine enter Proofs.Try.func45 rfl rfl rfl ht ?_
  refine C_seq ?_
  refine C_region ?_
  refine W_assign rfl rfl rfl ?_
  refine W_end ?_
  refine E_then ?_
  refine C_seq_join (fun H' M' L' => H = H' ∧ M = M' ∧ [(4, .bool (((m_cmp_isNaN_string p0_x) && (!(m_cmp_isNaN_string p1_y))) || (ltS p0_x p1_y)))] = L') ?_ (fun J103 => ?_)
  · rintro _ _ _ ⟨rfl, rfl, rfl⟩
    refine C_ret ?_
    obtain rfl := hm
    refine E_weak (Hp.le_refl _) ?_
    exact end1 rfl rfl ⟨rfl, rfl, rfl⟩
  · refine C_region ?_
    refine W_move rfl rfl rfl ?_
    refine W_call Proofs.Try.call52 rfl rfl rfl (fun w ht => by have h := m_cmp_isNaN_string_c (hm := (rfl : m_cmp_isNaN_string p0_x = _))  ht; exact h) ?_
    rintro _ _ _ ⟨rfl, rfl, rfl⟩
    refine W_move rfl rfl rfl ?_
    cases hb104 : ((m_cmp_isNaN_string p0_x))
    · refine W_no rfl rfl rfl ?_
      refine W_no rfl rfl rfl ?_
      refine W_no rfl rfl rfl ?_
      refine W_pick rfl rfl rfl rfl ?_
      refine W_move rfl rfl rfl ?_
      refine W_move rfl rfl rfl ?_
      refine W_move rfl rfl rfl ?_
      refine W_cmpS rfl rfl rfl rfl (.inl ⟨rfl, rfl⟩) ?_
      refine W_pick rfl rfl rfl rfl ?_
      refine W_assign rfl rfl rfl ?_
      refine W_end ?_
      exact E_keepJ (J103 _ _ _ ⟨rfl, rfl, rfl⟩) (List.Perm.refl _) ⟨(by show some (Value.bool (ltS p0_x p1_y)) = some (Value.bool (((m_cmp_isNaN_string p0_x) && (!(m_cmp_isNaN_string p1_y))) || (ltS p0_x p1_y))); simp only [hb104, Bool.and_true, Bool.true_and, Bool.false_and, Bool.and_false, Bool.or_true, Bool.true_or, Bool.or_false, Bool.false_or, Bool.not_true, Bool.not_false]), trivial⟩
    · refine W_move rfl rfl rfl ?_
      refine W_call Proofs.Try.call52 rfl rfl rfl (fun w ht => by have h := m_cmp_isNaN_string_c (hm := (rfl : m_cmp_isNaN_string p1_y = _))  ht; exact h) ?_
      rintro _ _ _ ⟨rfl, rfl, rfl⟩
      refine W_un rfl rfl rfl rfl ?_
      refine W_pick rfl rfl rfl rfl ?_
      refine W_move rfl rfl rfl ?_
      cases hb105 : (m_cmp_isNaN_string p1_y)
      · refine W_no rfl rfl rfl ?_
        refine W_no rfl rfl rfl ?_
        refine W_no rfl rfl rfl ?_
        refine W_pick rfl rfl rfl rfl ?_
        refine W_assign rfl rfl rfl ?_
        refine W_end ?_
        exact E_keepJ (J103 _ _ _ ⟨rfl, rfl, rfl⟩) (List.Perm.refl _) ⟨(by show some (Value.bool (true)) = some (Value.bool (((m_cmp_isNaN_string p0_x) && (!(m_cmp_isNaN_string p1_y))) || (ltS p0_x p1_y))); simp only [hb104, hb105, Bool.and_true, Bool.true_and, Bool.false_and, Bool.and_false, Bool.or_true, Bool.true_or, Bool.or_false, Bool.false_or, Bool.not_true, Bool.not_false]), trivial⟩
      · refine W_move rfl rfl rfl ?_
        refine W_move rfl rfl rfl ?_
        refine W_cmpS rfl rfl rfl rfl (.inl ⟨rfl, rfl⟩) ?_
        refine W_pick rfl rfl rfl rfl ?_
        refine W_assign rfl rfl rfl ?_
        refine W_end ?_
        exact E_keepJ (J103 _ _ _ ⟨rfl, rfl, rfl⟩) (List.Perm.refl _) ⟨(by show some (Value.bool (ltS p0_x p1_y)) = some (Value.bool (((m_cmp_isNaN_string p0_x) && (!(m_cmp_isNaN_string p1_y))) || (ltS p0_x p1_y))); simp only [hb104, hb105, Bool.and_true, Bool.true_and, Bool.false_and, Bool.and_false, Bool.or_true, Bool.true_or, Bool.or_false, Bool.false_or, Bool.not_true, Bool.not_false]), trivial⟩

theorem m_slices_insertionSortOrdered_string_c {B : Nat} {w0 w : World} {H : Hp} {M : List Res} {data : (List ByteArray)} {p1_a : Int} {p2_b : Int} {v0 : Value} {xs0 : List Value} {r : (List ByteArray)} (hm : m_slices_insertionSortOrdered_string data p1_a p2_b = some r) (h0 : Rw H v0 xs0 data) (ht : St B w0 H (.row v0 9 (Rep.sz ByteArray) data.length xs0 :: M) w) :
    Calls Proofs.Try.prog 39 [v0, .int .i64 (p1_a), .int .i64 (p2_b)].toArray w (Ret B w0 fun H' M' v => H = H' ∧ ∃ qxs0 : List Value, .row v0 9 (Rep.sz ByteArray) r.length qxs0 :: M = M' ∧ .tuple #[] = v ∧ RwF v0 qxs0 r) := by
  unfold m_slices_insertionSortOrdered_string at hm
  refine enter Proofs.Try.func39 rfl rfl rfl ht ?_
  refine C_seq ?_
  refine C_region ?_
  refine W_move rfl rfl rfl ?_
  refine W_bin rfl rfl rfl rfl rfl ?_
  refine W_assign rfl rfl rfl ?_
  refine W_end ?_
  refine E_then ?_
  refine C_block ?_
  refine C_keep (L' := [(0, v0), (1, .int .i64 (p1_a)), (2, .int .i64 (p2_b)), (6, .int .i64 (IntKind.i64.wrap (p1_a + 1)))]) ⟨rfl, rfl, rfl, rfl, trivial⟩ (List.Perm.refl _) ?_
  refine C_loop (fun n H' M' L' => ∃ l443 : List ByteArray, ∃ n445 : Int, ∃ xs442 : List Value, loopF (fun s448 n => m_slices_insertionSortOrdered_string_b3 p1_a p2_b s448.1 s448.2 n) n (l443, n445) = some r ∧ Rw H' v0 xs442 l443 ∧ H.le H' ∧ .row v0 9 (Rep.sz ByteArray) l443.length xs442 :: M = M' ∧ [(0, v0), (1, .int .i64 (p1_a)), (2, .int .i64 (p2_b)), (6, .int .i64 (n445))] = L') FUEL ⟨data, IntKind.i64.wrap (p1_a + 1), xs0, hm, h0, (Hp.le_refl _), rfl, rfl⟩ ?_
  rintro n451 H446 _ _ ⟨l443, n445, xs442, hm, hr444, hle447, rfl, rfl⟩
  cases n451 with
  | zero => cases hm
  | succ n451 =>
    have hm : m_slices_insertionSortOrdered_string_b3 p1_a p2_b l443 n445 (loopF (fun s448 n => m_slices_insertionSortOrdered_string_b3 p1_a p2_b s448.1 s448.2 n) n451) = some r := hm
    generalize hn450 : loopF (fun s448 n => m_slices_insertionSortOrdered_string_b3 p1_a p2_b s448.1 s448.2 n) n451 = nx449 at hm
    unfold m_slices_insertionSortOrdered_string_b3 at hm
    refine C_seq ?_
    refine C_seq ?_
    refine C_region ?_
    refine W_move rfl rfl rfl ?_
    refine W_move rfl rfl rfl ?_
    refine W_bin rfl rfl rfl rfl rfl ?_
    refine W_end ?_
    refine E_then ?_
    refine C_cond (b := decide (n445 < p2_b)) rfl (fun hb457 => ?_) (fun hb457 => ?_)
    · have hm := ite_t' hb457 hm
      refine C_skip ?_
      refine E_then ?_
      refine C_seq ?_
      refine C_block ?_
      refine C_seq ?_
      refine C_region ?_
      refine W_move rfl rfl rfl ?_
      refine W_assign rfl rfl rfl ?_
      refine W_end ?_
      refine E_then ?_
      refine C_block ?_
      refine C_keep (L' := [(0, v0), (1, .int .i64 (p1_a)), (2, .int .i64 (p2_b)), (6, .int .i64 (n445)), (7, .int .i64 (n445))]) ⟨rfl, rfl, rfl, rfl, rfl, trivial⟩ (List.Perm.refl _) ?_
      refine C_loop (fun n H' M' L' => ∃ l562 : List ByteArray, ∃ n564 : Int, ∃ xs561 : List Value, loopF (fun s567 n => m_slices_insertionSortOrdered_string_b4 p1_a n445 nx449 s567.1 s567.2 n) n (l562, n564) = some r ∧ Rw H' v0 xs561 l562 ∧ H446.le H' ∧ .row v0 9 (Rep.sz ByteArray) l562.length xs561 :: M = M' ∧ [(0, v0), (1, .int .i64 (p1_a)), (2, .int .i64 (p2_b)), (6, .int .i64 (n445)), (7, .int .i64 (n564))] = L') FUEL ⟨l443, n445, xs442, hm, hr444, (Hp.le_refl _), rfl, rfl⟩ ?_
      rintro n570 H565 _ _ ⟨l562, n564, xs561, hm, hr563, hle566, rfl, rfl⟩
      cases n570 with
      | zero => cases hm
      | succ n570 =>
        have hm : m_slices_insertionSortOrdered_string_b4 p1_a n445 nx449 l562 n564 (loopF (fun s567 n => m_slices_insertionSortOrdered_string_b4 p1_a n445 nx449 s567.1 s567.2 n) n570) = some r := hm
        generalize hn569 : loopF (fun s567 n => m_slices_insertionSortOrdered_string_b4 p1_a n445 nx449 s567.1 s567.2 n) n570 = nx568 at hm
        unfold m_slices_insertionSortOrdered_string_b4 at hm
        refine C_seq ?_
        refine C_seq ?_
        cases hb576 : (decide (p1_a < n564))
        · have hm := ite_f' hb576 hm
          refine C_region_tok0 13 (phiT [(fun H rs v => [] = rs ∧ .int .i64 (n564) = v), (fun H rs v => [] = rs ∧ .int .i64 (p1_a) = v), (fun H rs v => [] = rs ∧ .bool (false) = v), (fun H rs v => [] = rs ∧ .bool (false) = v), (fun H rs v => [] = rs ∧ undef = v), (fun H rs v => [] = rs ∧ undef = v), (fun H rs v => [] = rs ∧ undef = v), (fun H rs v => [] = rs ∧ undef = v), (fun H rs v => [] = rs ∧ undef = v), (fun H rs v => [] = rs ∧ undef = v), (fun H rs v => [] = rs ∧ undef = v), (fun H rs v => [] = rs ∧ undef = v), (fun H rs v => [] = rs ∧ undef = v)]) [[], [], [], [], [], [], [], [], [], [], [], [], []] [[], [], [], [], [], [], [], [], [], [], [], [], []] [] [0, 1, 2, 3, 4, 5, 6, 7, 8, 9, 10, 11, 12] Facts.mixed (by kernel_rfl) rfl rfl rfl (by kernel_rfl) (phiT_mono ⟨eq_monoT _ _, eq_monoT _ _, eq_monoT _ _, eq_monoT _ _, eq_monoT _ _, eq_monoT _ _, eq_monoT _ _, eq_monoT _ _, eq_monoT _ _, eq_monoT _ _, eq_monoT _ _, eq_monoT _ _, eq_monoT _ _, trivial⟩) ⟨?_, ?_, ?_, ?_, ?_, ?_, ?_, ?_, ?_, ?_, ?_, ?_, ?_, trivial⟩ ?_
          · intro HX hX X Rest hR
            intro hU
            refine W_move rfl rfl rfl ?_
            exact W_end (OneT_end [] (Hp.le_refl _) ⟨rfl, rfl⟩)
          · intro HX hX X Rest hR
            intro hU
            refine W_move rfl rfl rfl ?_
            exact W_end (OneT_end [] (Hp.le_refl _) ⟨rfl, rfl⟩)
          · intro HX hX X Rest hR
            rintro _ _ ⟨rfl, rfl⟩
            rintro _ _ ⟨rfl, rfl⟩
            intro hU
            refine W_bin rfl rfl rfl rfl rfl ?_
            exact W_end (OneT_end [] (Hp.le_refl _) ⟨rfl, (by first | rfl | (rw [hb576]; try rfl))⟩)
          · intro HX hX X Rest hR
            rintro _ _ ⟨rfl, rfl⟩
            intro hU
            refine W_move rfl rfl rfl ?_
            exact W_end (OneT_end [] (Hp.le_refl _) ⟨rfl, rfl⟩)
          · intro HX hX X Rest hR
            rintro _ _ ⟨rfl, rfl⟩
            intro hU
            refine W_no rfl rfl rfl ?_
            exact W_end (OneT_end [] (Hp.le_refl _) ⟨rfl, rfl⟩)
          · intro HX hX X Rest hR
            rintro _ _ ⟨rfl, rfl⟩
            intro hU
            refine W_no rfl rfl rfl ?_
            exact W_end (OneT_end [] (Hp.le_refl _) ⟨rfl, rfl⟩)
          · intro HX hX X Rest hR
            rintro _ _ ⟨rfl, rfl⟩
            rintro _ _ ⟨rfl, rfl⟩
            rintro _ _ ⟨rfl, rfl⟩
            intro hU
            refine W_no rfl rfl rfl ?_
            exact W_end (OneT_end [] (Hp.le_refl _) ⟨rfl, rfl⟩)
          · intro HX hX X Rest hR
            rintro _ _ ⟨rfl, rfl⟩
            rintro _ _ ⟨rfl, rfl⟩
            intro hU
            refine W_no rfl rfl rfl ?_
            exact W_end (OneT_end [] (Hp.le_refl _) ⟨rfl, rfl⟩)
          · intro HX hX X Rest hR
            rintro _ _ ⟨rfl, rfl⟩
            intro hU
            refine W_no rfl rfl rfl ?_
            exact W_end (OneT_end [] (Hp.le_refl _) ⟨rfl, rfl⟩)
          · intro HX hX X Rest hR
            rintro _ _ ⟨rfl, rfl⟩
            intro hU
            refine W_no rfl rfl rfl ?_
            exact W_end (OneT_end [] (Hp.le_refl _) ⟨rfl, rfl⟩)
          · intro HX hX X Rest hR
            rintro _ _ ⟨rfl, rfl⟩
            rintro _ _ ⟨rfl, rfl⟩
            intro hU
            refine W_no rfl rfl rfl ?_
            exact W_end (OneT_end [] (Hp.le_refl _) ⟨rfl, rfl⟩)
          · intro HX hX X Rest hR
            rintro _ _ ⟨rfl, rfl⟩
            rintro _ _ ⟨rfl, rfl⟩
            rintro _ _ ⟨rfl, rfl⟩
            intro hU
            refine W_no rfl rfl rfl ?_
            exact W_end (OneT_end [] (Hp.le_refl _) ⟨rfl, rfl⟩)
          · intro HX hX X Rest hR
            rintro _ _ ⟨rfl, rfl⟩
            rintro _ _ ⟨rfl, rfl⟩
            intro hU
            refine W_no rfl rfl rfl ?_
            exact W_end (OneT_end [] (Hp.le_refl _) ⟨rfl, rfl⟩)
          intro H577 hle578
          rintro _ _ ⟨rfl, rfl⟩
          rintro _ _ ⟨rfl, rfl⟩
          rintro _ _ ⟨rfl, rfl⟩
          rintro _ _ ⟨rfl, rfl⟩
          rintro _ _ ⟨rfl, rfl⟩
          rintro _ _ ⟨rfl, rfl⟩
          rintro _ _ ⟨rfl, rfl⟩
          rintro _ _ ⟨rfl, rfl⟩
          rintro _ _ ⟨rfl, rfl⟩
          rintro _ _ ⟨rfl, rfl⟩
          rintro _ _ ⟨rfl, rfl⟩
          rintro _ _ ⟨rfl, rfl⟩
          rintro _ _ ⟨rfl, rfl⟩
          refine W_no rfl rfl rfl ?_
          refine W_pick rfl rfl rfl rfl ?_
          refine W_end ?_
          refine E_then ?_
          refine C_cond (b := false) rfl (fun hb => Bool.noConfusion hb) (fun _ => ?_)
          refine C_exit ?_
          refine E_exit_then ?_
          refine E_exit_then ?_
          refine E_exit_hit ?_
          refine E_normal_block ?_
          refine E_then ?_
          refine C_region ?_
          refine W_move rfl rfl rfl ?_
          refine W_bin rfl rfl rfl rfl rfl ?_
          refine W_assign rfl rfl rfl ?_
          refine W_end ?_
          exact E_keepJ (E_back (Nat.lt_succ_self _) ⟨l562, IntKind.i64.wrap (n445 + 1), xs561, (by rw [hn450]; exact hm), (hr563.mono hle578), (Hp.le_trans (Hp.le_trans hle447 hle566) hle578), rfl, rfl⟩) (List.Perm.refl _) ⟨rfl, rfl, rfl, rfl, trivial⟩
        · have hm := ite_t' hb576 hm
          obtain ⟨y579, h580, he581, hm⟩ := idx_some hm
          obtain ⟨_, rfl, hg582⟩ := (hr563).elem he581
          obtain ⟨y583, h584, he585, hm⟩ := idx_some hm
          obtain ⟨_, rfl, hg586⟩ := (hr563).elem he585
          refine C_region_tok0 13 (phiT [(fun H rs v => [] = rs ∧ .int .i64 (n564) = v), (fun H rs v => [] = rs ∧ .int .i64 (p1_a) = v), (fun H rs v => [] = rs ∧ .bool (true) = v), (fun H rs v => [] = rs ∧ .bool (true) = v), (fun H rs v => [] = rs ∧ v0 = v), (fun H rs v => [] = rs ∧ .int .i64 (n564) = v), (fun H rs v => [] = rs ∧ .pointer (some ((Value.base (v0)).add ((n564 : Int).toNat * Rep.sz ByteArray))) = v), (fun H rs v => [] = rs ∧ .string (y579) = v), (fun H rs v => [] = rs ∧ v0 = v), (fun H rs v => [] = rs ∧ .int .i64 (n564) = v), (fun H rs v => [] = rs ∧ .int .i64 (IntKind.i64.wrap (n564 - 1)) = v), (fun H rs v => [] = rs ∧ .pointer (some ((Value.base (v0)).add ((IntKind.i64.wrap (n564 - 1) : Int).toNat * Rep.sz ByteArray))) = v), (fun H rs v => [] = rs ∧ .string (y583) = v)]) [[], [], [], [], [], [], [], [], [], [], [], [], []] [[], [], [], [], [], [], [], [], [], [], [], [], []] [] [0, 1, 2, 3, 4, 5, 6, 7, 8, 9, 10, 11, 12] Facts.mixed (by kernel_rfl) rfl rfl rfl (by kernel_rfl) (phiT_mono ⟨eq_monoT _ _, eq_monoT _ _, eq_monoT _ _, eq_monoT _ _, eq_monoT _ _, eq_monoT _ _, eq_monoT _ _, eq_monoT _ _, eq_monoT _ _, eq_monoT _ _, eq_monoT _ _, eq_monoT _ _, eq_monoT _ _, trivial⟩) ⟨?_, ?_, ?_, ?_, ?_, ?_, ?_, ?_, ?_, ?_, ?_, ?_, ?_, trivial⟩ ?_
          · intro HX hX X Rest hR
            intro hU
            refine W_move rfl rfl rfl ?_
            exact W_end (OneT_end [] (Hp.le_refl _) ⟨rfl, rfl⟩)
          · intro HX hX X Rest hR
            intro hU
            refine W_move rfl rfl rfl ?_
            exact W_end (OneT_end [] (Hp.le_refl _) ⟨rfl, rfl⟩)
          · intro HX hX X Rest hR
            rintro _ _ ⟨rfl, rfl⟩
            rintro _ _ ⟨rfl, rfl⟩
            intro hU
            refine W_bin rfl rfl rfl rfl rfl ?_
            exact W_end (OneT_end [] (Hp.le_refl _) ⟨rfl, (by first | rfl | (rw [hb576]; try rfl))⟩)
          · intro HX hX X Rest hR
            rintro _ _ ⟨rfl, rfl⟩
            intro hU
            refine W_move rfl rfl rfl ?_
            exact W_end (OneT_end [] (Hp.le_refl _) ⟨rfl, rfl⟩)
          · intro HX hX X Rest hR
            rintro _ _ ⟨rfl, rfl⟩
            intro hU
            refine W_move rfl rfl rfl ?_
            exact W_end (OneT_end [] (Hp.le_refl _) ⟨rfl, rfl⟩)
          · intro HX hX X Rest hR
            rintro _ _ ⟨rfl, rfl⟩
            intro hU
            refine W_move rfl rfl rfl ?_
            exact W_end (OneT_end [] (Hp.le_refl _) ⟨rfl, rfl⟩)
          · intro HX hX X Rest hR
            rintro _ _ ⟨rfl, rfl⟩
            rintro _ _ ⟨rfl, rfl⟩
            rintro _ _ ⟨rfl, rfl⟩
            intro hU
            refine W_indexO (hR _ (List.mem_cons_self ..)) rfl rfl Proofs.Try.runUnderlying23 Proofs.Try.sizeOf9 rfl rfl h580 (List.getElem?_eq_some_iff.1 he581).1 ?_
            exact W_end (OneT_end [] (Hp.le_refl _) ⟨rfl, rfl⟩)
          · intro HX hX X Rest hR
            rintro _ _ ⟨rfl, rfl⟩
            rintro _ _ ⟨rfl, rfl⟩
            intro hU
            refine W_load rfl rfl Proofs.Try.isAgg9 rfl (row_one0 (hR _ (List.mem_cons_self ..)) hg582 rfl) ?_
            exact W_end (OneT_end [] (Hp.le_refl _) ⟨rfl, rfl⟩)
          · intro HX hX X Rest hR
            rintro _ _ ⟨rfl, rfl⟩
            intro hU
            refine W_move rfl rfl rfl ?_
            exact W_end (OneT_end [] (Hp.le_refl _) ⟨rfl, rfl⟩)
          · intro HX hX X Rest hR
            rintro _ _ ⟨rfl, rfl⟩
            intro hU
            refine W_move rfl rfl rfl ?_
            exact W_end (OneT_end [] (Hp.le_refl _) ⟨rfl, rfl⟩)
          · intro HX hX X Rest hR
            rintro _ _ ⟨rfl, rfl⟩
            rintro _ _ ⟨rfl, rfl⟩
            intro hU
            refine W_bin rfl rfl rfl rfl rfl ?_
            exact W_end (OneT_end [] (Hp.le_refl _) ⟨rfl, rfl⟩)
          · intro HX hX X Rest hR
            rintro _ _ ⟨rfl, rfl⟩
            rintro _ _ ⟨rfl, rfl⟩
            rintro _ _ ⟨rfl, rfl⟩
            intro hU
            refine W_indexO (hR _ (List.mem_cons_self ..)) rfl rfl Proofs.Try.runUnderlying23 Proofs.Try.sizeOf9 rfl rfl h584 (List.getElem?_eq_some_iff.1 he585).1 ?_
            exact W_end (OneT_end [] (Hp.le_refl _) ⟨rfl, rfl⟩)
          · intro HX hX X Rest hR
            rintro _ _ ⟨rfl, rfl⟩
            rintro _ _ ⟨rfl, rfl⟩
            intro hU
            refine W_load rfl rfl Proofs.Try.isAgg9 rfl (row_one0 (hR _ (List.mem_cons_self ..)) hg586 rfl) ?_
            exact W_end (OneT_end [] (Hp.le_refl _) ⟨rfl, rfl⟩)
          intro H587 hle588
          rintro _ _ ⟨rfl, rfl⟩
          rintro _ _ ⟨rfl, rfl⟩
          rintro _ _ ⟨rfl, rfl⟩
          rintro _ _ ⟨rfl, rfl⟩
          rintro _ _ ⟨rfl, rfl⟩
          rintro _ _ ⟨rfl, rfl⟩
          rintro _ _ ⟨rfl, rfl⟩
          rintro _ _ ⟨rfl, rfl⟩
          rintro _ _ ⟨rfl, rfl⟩
          rintro _ _ ⟨rfl, rfl⟩
          rintro _ _ ⟨rfl, rfl⟩
          rintro _ _ ⟨rfl, rfl⟩
          rintro _ _ ⟨rfl, rfl⟩
          refine W_call Proofs.Try.call45 rfl rfl rfl (fun w ht => by have h := m_cmp_Less_string_c (hm := (rfl : m_cmp_Less_string y579 y583 = _))  ht; exact h) ?_
          rintro _ _ _ ⟨rfl, rfl, rfl⟩
          refine W_pick rfl rfl rfl rfl ?_
          refine W_end ?_
          refine E_then ?_
          refine C_cond (b := (m_cmp_Less_string y579 y583)) rfl (fun hb589 => ?_) (fun hb589 => ?_)
          · have hm := ite_t' hb589 hm
            refine C_skip ?_
            refine E_then ?_
            refine C_seq ?_
            refine C_block ?_
            obtain ⟨y590, h591, he592, hm⟩ := idx_some hm
            obtain ⟨_, rfl, hg593⟩ := (hr563).elem he592
            obtain ⟨y594, h595, he596, hm⟩ := idx_some hm
            obtain ⟨_, rfl, hg597⟩ := (hr563).elem he596
            obtain ⟨y598, h599, he600, hm⟩ := idx_some hm
            obtain ⟨_, rfl, hg601⟩ := (hr563).elem he600
            refine C_perm (List.Perm.refl _) ?_
            refine C_as (M' := [[.row v0 9 (Rep.sz ByteArray) l562.length xs561]].flatten ++ (M)) rfl ?_
            refine C_region_tok0 16 (phiT [(fun H rs v => [] = rs ∧ v0 = v), (fun H rs v => [] = rs ∧ .int .i64 (n564) = v), (fun H rs v => [] = rs ∧ v0 = v), (fun H rs v => [] = rs ∧ .int .i64 (n564) = v), (fun H rs v => [] = rs ∧ .int .i64 (IntKind.i64.wrap (n564 - 1)) = v), (fun H rs v => [] = rs ∧ v0 = v), (fun H rs v => [] = rs ∧ .int .i64 (n564) = v), (fun H rs v => [] = rs ∧ .int .i64 (IntKind.i64.wrap (n564 - 1)) = v), (fun H rs v => [] = rs ∧ .pointer (some ((Value.base (v0)).add ((IntKind.i64.wrap (n564 - 1) : Int).toNat * Rep.sz ByteArray))) = v), (fun H rs v => [] = rs ∧ .string (y590) = v), (fun H rs v => [] = rs ∧ v0 = v), (fun H rs v => [] = rs ∧ .int .i64 (n564) = v), (fun H rs v => [] = rs ∧ .pointer (some ((Value.base (v0)).add ((n564 : Int).toNat * Rep.sz ByteArray))) = v), (fun H rs v => [] = rs ∧ .string (y594) = v), (fun H rs v => [] = rs ∧ .pointer (some ((Value.base (v0)).add ((n564 : Int).toNat * Rep.sz ByteArray))) = v), (fun H rs v => ∃ xs609 : List Value, [.row v0 9 (Rep.sz ByteArray) (l562.set ((n564 : Int).toNat) y590).length xs609] = rs ∧ .pointer (some ((Value.base (v0)).add ((n564 : Int).toNat * Rep.sz ByteArray))) = v ∧ Rw H v0 xs609 (l562.set ((n564 : Int).toNat) y590))]) [[], [], [], [], [], [], [], [], [], [], [], [], [], [], [], [16]] [[], [], [], [], [], [], [], [], [16], [16], [], [], [16], [16], [16], []] [[.row v0 9 (Rep.sz ByteArray) l562.length xs561]] [0, 1, 2, 3, 4, 5, 6, 7, 8, 9, 10, 11, 12, 13, 14, 15] Facts.mixed (by kernel_rfl) rfl rfl rfl (by kernel_rfl) (phiT_mono ⟨eq_monoT _ _, eq_monoT _ _, eq_monoT _ _, eq_monoT _ _, eq_monoT _ _, eq_monoT _ _, eq_monoT _ _, eq_monoT _ _, eq_monoT _ _, eq_monoT _ _, eq_monoT _ _, eq_monoT _ _, eq_monoT _ _, eq_monoT _ _, eq_monoT _ _, (by rintro H1 H2 rs v hle ⟨xs609, rfl, hv_, hr606⟩; exact ⟨xs609, rfl, hv_, (hr606.mono hle)⟩), trivial⟩) ⟨?_, ?_, ?_, ?_, ?_, ?_, ?_, ?_, ?_, ?_, ?_, ?_, ?_, ?_, ?_, ?_, trivial⟩ ?_
            · intro HX hX X Rest hR
              intro hU
              refine W_move rfl rfl rfl ?_
              exact W_end (OneT_end [] (Hp.le_refl _) ⟨rfl, rfl⟩)
            · intro HX hX X Rest hR
              intro hU
              refine W_move rfl rfl rfl ?_
              exact W_end (OneT_end [] (Hp.le_refl _) ⟨rfl, rfl⟩)
            · intro HX hX X Rest hR
              intro hU
              refine W_move rfl rfl rfl ?_
              exact W_end (OneT_end [] (Hp.le_refl _) ⟨rfl, rfl⟩)
            · intro HX hX X Rest hR
              intro hU
              refine W_move rfl rfl rfl ?_
              exact W_end (OneT_end [] (Hp.le_refl _) ⟨rfl, rfl⟩)
            · intro HX hX X Rest hR
              rintro _ _ ⟨rfl, rfl⟩
              intro hU
              refine W_bin rfl rfl rfl rfl rfl ?_
              exact W_end (OneT_end [] (Hp.le_refl _) ⟨rfl, rfl⟩)
            · intro HX hX X Rest hR
              intro hU
              refine W_move rfl rfl rfl ?_
              exact W_end (OneT_end [] (Hp.le_refl _) ⟨rfl, rfl⟩)
            · intro HX hX X Rest hR
              intro hU
              refine W_move rfl rfl rfl ?_
              exact W_end (OneT_end [] (Hp.le_refl _) ⟨rfl, rfl⟩)
            · intro HX hX X Rest hR
              rintro _ _ ⟨rfl, rfl⟩
              intro hU
              refine W_bin rfl rfl rfl rfl rfl ?_
              exact W_end (OneT_end [] (Hp.le_refl _) ⟨rfl, rfl⟩)
            · intro HX hX X Rest hR
              rintro _ _ ⟨rfl, rfl⟩
              rintro _ _ ⟨rfl, rfl⟩
              intro hU
              have hU2 : ∀ s ∈ [.row v0 9 (Rep.sz ByteArray) l562.length xs561], s ∈ Rest := hU
              refine W_indexO (hU2 _ (List.mem_cons_self ..)) rfl rfl Proofs.Try.runUnderlying23 Proofs.Try.sizeOf9 rfl rfl h591 (List.getElem?_eq_some_iff.1 he592).1 ?_
              exact W_end (OneT_end [] (Hp.le_refl _) ⟨rfl, rfl⟩)
            · intro HX hX X Rest hR
              rintro _ _ ⟨rfl, rfl⟩
              intro hU
              have hU2 : ∀ s ∈ [.row v0 9 (Rep.sz ByteArray) l562.length xs561], s ∈ Rest := hU
              refine W_load rfl rfl Proofs.Try.isAgg9 rfl (row_one0 (hU2 _ (List.mem_cons_self ..)) hg593 rfl) ?_
              exact W_end (OneT_end [] (Hp.le_refl _) ⟨rfl, rfl⟩)
            · intro HX hX X Rest hR
              intro hU
              refine W_move rfl rfl rfl ?_
              exact W_end (OneT_end [] (Hp.le_refl _) ⟨rfl, rfl⟩)
            · intro HX hX X Rest hR
              intro hU
              refine W_move rfl rfl rfl ?_
              exact W_end (OneT_end [] (Hp.le_refl _) ⟨rfl, rfl⟩)
            · intro HX hX X Rest hR
              rintro _ _ ⟨rfl, rfl⟩
              rintro _ _ ⟨rfl, rfl⟩
              intro hU
              have hU2 : ∀ s ∈ [.row v0 9 (Rep.sz ByteArray) l562.length xs561], s ∈ Rest := hU
              refine W_indexO (hU2 _ (List.mem_cons_self ..)) rfl rfl Proofs.Try.runUnderlying23 Proofs.Try.sizeOf9 rfl rfl h595 (List.getElem?_eq_some_iff.1 he596).1 ?_
              exact W_end (OneT_end [] (Hp.le_refl _) ⟨rfl, rfl⟩)
            · intro HX hX X Rest hR
              rintro _ _ ⟨rfl, rfl⟩
              intro hU
              have hU2 : ∀ s ∈ [.row v0 9 (Rep.sz ByteArray) l562.length xs561], s ∈ Rest := hU
              refine W_load rfl rfl Proofs.Try.isAgg9 rfl (row_one0 (hU2 _ (List.mem_cons_self ..)) hg597 rfl) ?_
              exact W_end (OneT_end [] (Hp.le_refl _) ⟨rfl, rfl⟩)
            · intro HX hX X Rest hR
              rintro _ _ ⟨rfl, rfl⟩
              rintro _ _ ⟨rfl, rfl⟩
              rintro _ _ ⟨rfl, rfl⟩
              rintro _ _ ⟨rfl, rfl⟩
              rintro _ _ ⟨rfl, rfl⟩
              rintro _ _ ⟨rfl, rfl⟩
              rintro _ _ ⟨rfl, rfl⟩
              rintro _ _ ⟨rfl, rfl⟩
              rintro _ _ ⟨rfl, rfl⟩
              rintro _ _ ⟨rfl, rfl⟩
              intro hU
              have hU2 : ∀ s ∈ [.row v0 9 (Rep.sz ByteArray) l562.length xs561], s ∈ Rest := hU
              refine W_indexO (hU2 _ (List.mem_cons_self ..)) rfl rfl Proofs.Try.runUnderlying23 Proofs.Try.sizeOf9 rfl rfl h599 (List.getElem?_eq_some_iff.1 he600).1 ?_
              exact W_end (OneT_end [] (Hp.le_refl _) ⟨rfl, rfl⟩)
            · intro HX hX X Rest hR
              rintro _ _ ⟨rfl, rfl⟩
              rintro _ _ ⟨rfl, rfl⟩
              rintro _ _ ⟨rfl, rfl⟩
              rintro _ _ ⟨rfl, rfl⟩
              rintro _ _ ⟨rfl, rfl⟩
              rintro _ _ ⟨rfl, rfl⟩
              rintro _ _ ⟨rfl, rfl⟩
              rintro _ _ ⟨rfl, rfl⟩
              rintro _ _ ⟨rfl, rfl⟩
              rintro _ _ ⟨rfl, rfl⟩
              intro hU
              refine W_as (M' := .row v0 9 (Rep.sz ByteArray) l562.length xs561 :: Rest) rfl ?_
              obtain ⟨hr606, he607, hg608⟩ := Rw.put (cs := [.string (y590)]) (o := 0) (c := [.string (y598)]) (out := [.string (y590)]) (e2 := y590) ((hr563.mono hle588).mono hX) he600 rfl hg601 rfl rfl rfl
              refine W_storeO2 (i := (n564 : Int).toNat * Rep.sz ByteArray + 0) (cs := [.string (y590)]) rfl Proofs.Try.sizeOf9 rfl (row_ad0 _ _) rfl rfl rfl (Rw.room ((hr563.mono hle588).mono hX) he600 rfl) rfl (all_cons rfl all_nil) (n' := (l562.set ((n564 : Int).toNat) y590).length) List.length_set ?_
              generalize over xs561 ((n564 : Int).toNat * Rep.sz ByteArray + 0) [.string (y590)] = xs609 at hr606 hg608 ⊢
              exact W_end (OneT_endL rfl [.row v0 9 (Rep.sz ByteArray) (l562.set ((n564 : Int).toNat) y590).length xs609] (Hp.le_refl _) ⟨xs609, rfl, rfl, (hr606)⟩)
            intro H610 hle611
            rintro _ _ ⟨rfl, rfl⟩
            rintro _ _ ⟨rfl, rfl⟩
            rintro _ _ ⟨rfl, rfl⟩
            rintro _ _ ⟨rfl, rfl⟩
            rintro _ _ ⟨rfl, rfl⟩
            rintro _ _ ⟨rfl, rfl⟩
            rintro _ _ ⟨rfl, rfl⟩
            rintro _ _ ⟨rfl, rfl⟩
            rintro _ _ ⟨rfl, rfl⟩
            rintro _ _ ⟨rfl, rfl⟩
            rintro _ _ ⟨rfl, rfl⟩
            rintro _ _ ⟨rfl, rfl⟩
            rintro _ _ ⟨rfl, rfl⟩
            rintro _ _ ⟨rfl, rfl⟩
            rintro _ _ ⟨rfl, rfl⟩
            rintro _ _ _ ⟨xs609, rfl, _, hr606⟩
            refine W_as (M' := .row v0 9 (Rep.sz ByteArray) (l562.set ((n564 : Int).toNat) y590).length xs609 :: M) rfl ?_
            obtain ⟨y612, h613, he614, hm⟩ := idx_some hm
            refine W_indexO (List.mem_cons_self ..) rfl rfl Proofs.Try.runUnderlying23 Proofs.Try.sizeOf9 rfl rfl h613 (List.getElem?_eq_some_iff.1 he614).1 ?_
            obtain ⟨_, rfl, hg615⟩ := (hr606).elem he614
            obtain ⟨hr616, he617, hg618⟩ := Rw.put (cs := [.string (y594)]) (o := 0) (c := [.string (y612)]) (out := [.string (y594)]) (e2 := y594) hr606 he614 rfl hg615 rfl rfl rfl
            refine W_storeO2 (i := (IntKind.i64.wrap (n564 - 1) : Int).toNat * Rep.sz ByteArray + 0) (cs := [.string (y594)]) rfl Proofs.Try.sizeOf9 rfl (row_ad0 _ _) rfl rfl rfl (Rw.room hr606 he614 rfl) rfl (all_cons rfl all_nil) (n' := ((l562.set ((n564 : Int).toNat) y590).set ((IntKind.i64.wrap (n564 - 1) : Int).toNat) y594).length) List.length_set ?_
            generalize over xs609 ((IntKind.i64.wrap (n564 - 1) : Int).toNat * Rep.sz ByteArray + 0) [.string (y594)] = xs619 at hr616 hg618 ⊢
            refine W_end ?_
            refine E_normal_block ?_
            refine E_then ?_
            refine C_region ?_
            refine W_move rfl rfl rfl ?_
            refine W_bin rfl rfl rfl rfl rfl ?_
            refine W_assign rfl rfl rfl ?_
            refine W_end ?_
            exact E_keepJ (E_back (Nat.lt_succ_self _) ⟨((l562.set ((n564 : Int).toNat) y590).set ((IntKind.i64.wrap (n564 - 1) : Int).toNat) y594), IntKind.i64.wrap (n564 - 1), xs619, (by rw [hn569]; exact hm), hr616, (Hp.le_trans (Hp.le_trans hle566 hle588) hle611), rfl, rfl⟩) (List.Perm.refl _) ⟨rfl, rfl, rfl, rfl, rfl, trivial⟩
          · have hm := ite_f' hb589 hm
            refine C_exit ?_
            refine E_exit_then ?_
            refine E_exit_then ?_
            refine E_exit_hit ?_
            refine E_normal_block ?_
            refine E_then ?_
            refine C_region ?_
            refine W_move rfl rfl rfl ?_
            refine W_bin rfl rfl rfl rfl rfl ?_
            refine W_assign rfl rfl rfl ?_
            refine W_end ?_
            exact E_keepJ (E_back (Nat.lt_succ_self _) ⟨l562, IntKind.i64.wrap (n445 + 1), xs561, (by rw [hn450]; exact hm), (hr563.mono hle588), (Hp.le_trans (Hp.le_trans hle447 hle566) hle588), rfl, rfl⟩) (List.Perm.refl _) ⟨rfl, rfl, rfl, rfl, trivial⟩
    · have hm := ite_f' hb457 hm
      refine C_exit ?_
      refine E_exit_then ?_
      refine E_exit_then ?_
      refine E_exit_hit ?_
      refine E_off ?_
      obtain rfl := Option.some.inj hm
      refine E_weak hle447 ?_
      exact end0 rfl ⟨rfl, xs442, rfl, rfl, (hr444).toF⟩

theorem m_slices_pdqsortOrdered_string_c {B : Nat} {w0 w : World} {H : Hp} {M : List Res} {data : (List ByteArray)} {p1_a : Int} {p2_b : Int} {limit : Int} {v0 : Value} {xs0 : List Value} {r : (List ByteArray)} (hm : m_slices_pdqsortOrdered_string data p1_a p2_b limit = some r) (h0 : Rw H v0 xs0 data) (ht : St B w0 H (.row v0 9 (Rep.sz ByteArray) data.length xs0 :: M) w) :
    Calls Proofs.Try.prog 27 [v0, .int .i64 (p1_a), .int .i64 (p2_b), .int .i64 (limit)].toArray w (Ret B w0 fun H' M' v => H = H' ∧ ∃ qxs0 : List Value, .row v0 9 (Rep.sz ByteArray) r.length qxs0 :: M = M' ∧ .tuple #[] = v ∧ RwF v0 qxs0 r) := by
  unfold m_slices_pdqsortOrdered_string at hm
  refine enter Proofs.Try.func27 rfl rfl rfl ht ?_
  refine C_seq ?_
  refine C_region ?_
  refine W_assign rfl rfl rfl ?_
  refine W_end ?_
  refine E_then ?_
  refine C_seq ?_
  refine C_region ?_
  refine W_assign rfl rfl rfl ?_
  refine W_end ?_
  refine E_then ?_
  refine C_block ?_
  refine C_keep (L' := [(0, v0), (1, .int .i64 (p1_a)), (2, .int .i64 (p2_b)), (3, .int .i64 (limit)), (8, .bool (true)), (9, .bool (true))]) ⟨rfl, rfl, rfl, rfl, rfl, rfl, trivial⟩ (List.Perm.refl _) ?_
  refine C_loop (fun n H' M' L' => loopF (fun s119 n => m_slices_pdqsortOrdered_string_b3 data p1_a p2_b limit n) n () = some r ∧ H.le H' ∧ .row v0 9 (Rep.sz ByteArray) data.length xs0 :: M = M' ∧ [(0, v0), (1, .int .i64 (p1_a)), (2, .int .i64 (p2_b)), (3, .int .i64 (limit)), (8, .bool (true)), (9, .bool (true))] = L') FUEL ⟨hm, (Hp.le_refl _), rfl, rfl⟩ ?_
  rintro n122 H117 _ _ ⟨hm, hle118, rfl, rfl⟩
  cases n122 with
  | zero => cases hm
  | succ n122 =>
    have hm : m_slices_pdqsortOrdered_string_b3 data p1_a p2_b limit (loopF (fun s119 n => m_slices_pdqsortOrdered_string_b3 data p1_a p2_b limit n) n122) = some r := hm
    generalize hn121 : loopF (fun s119 n => m_slices_pdqsortOrdered_string_b3 data p1_a p2_b limit n) n122 = nx120 at hm
    unfold m_slices_pdqsortOrdered_string_b3 at hm
    refine C_block ?_
    refine C_seq ?_
    refine C_region ?_
    refine W_move rfl rfl rfl ?_
    refine W_move rfl rfl rfl ?_
    refine W_bin rfl rfl rfl rfl rfl ?_
    refine W_assign rfl rfl rfl ?_
    refine W_end ?_
    refine E_then ?_
    refine C_seq ?_
    refine C_seq ?_
    refine C_region ?_
    refine W_move rfl rfl rfl ?_
    refine W_bin rfl rfl rfl rfl rfl ?_
    refine W_end ?_
    refine E_then ?_
    refine C_cond (b := decide ((IntKind.i64.wrap (p2_b - p1_a)) ≤ 12)) rfl (fun hb128 => ?_) (fun hb128 => ?_)
    · have hm := ite_t' hb128 hm
      refine C_seq ?_
      refine C_region ?_
      refine W_move rfl rfl rfl ?_
      refine W_move rfl rfl rfl ?_
      refine W_move rfl rfl rfl ?_
      obtain ⟨r129, hc130, hm⟩ := bind_some hm
      refine W_call Proofs.Try.call39 rfl rfl rfl (fun w ht => by have h := m_slices_insertionSortOrdered_string_c (hm := hc130) (h0.mono hle118) ht; exact h) ?_
      rintro _ _ _ ⟨rfl, xs132, rfl, rfl, h133⟩
      have h133 := h133 H117
      refine W_end ?_
      refine E_then ?_
      refine C_ret ?_
      refine E_ret_then ?_
      refine E_ret_block ?_
      refine E_ret_then ?_
      refine E_ret_block ?_
      obtain rfl := Option.some.inj hm
      refine E_weak hle118 ?_
      exact end0 rfl ⟨rfl, xs132, rfl, rfl, (h133).toF⟩
    · have hm := ite_f' hb128 hm
      refine C_skip ?_
      refine E_then ?_
      refine C_seq ?_
      refine C_seq ?_
      refine C_region ?_
      refine W_move rfl rfl rfl ?_
      refine W_bin rfl rfl rfl rfl rfl ?_
      refine W_end ?_
      refine E_then ?_
      refine C_cond (b := decide (limit = 0)) rfl (fun hb134 => ?_) (fun hb134 => ?_)
      · have hm := ite_t' hb134 hm
        refine C_seq ?_
        refine C_region ?_
        refine W_move rfl rfl rfl ?_
        refine W_move rfl rfl rfl ?_
        refine W_move rfl rfl rfl ?_
        cases hm
      · have hm := ite_f' hb134 hm
        refine C_skip ?_
        refine E_then ?_
        refine C_seq_join (fun H' M' L' => m_slices_pdqsortOrdered_string_b4 = some r ∧ H117 = H' ∧ .row v0 9 (Rep.sz ByteArray) data.length xs0 :: M = M' ∧ [(0, v0), (1, .int .i64 (p1_a)), (2, .int .i64 (p2_b)), (3, .int .i64 (limit)), (8, .bool (true)), (9, .bool (true)), (10, .int .i64 (IntKind.i64.wrap (p2_b - p1_a)))] = L') ?_ (fun J135 => ?_)
        · rintro _ _ _ ⟨hm, rfl, rfl, rfl⟩
          unfold m_slices_pdqsortOrdered_string_b4 at hm
          refine C_seq ?_
          refine C_region ?_
          refine W_move rfl rfl rfl ?_
          refine W_move rfl rfl rfl ?_
          refine W_move rfl rfl rfl ?_
          cases hm
        · refine C_seq ?_
          refine C_region ?_
          refine W_move rfl rfl rfl ?_
          refine W_un rfl rfl rfl rfl ?_
          refine W_end ?_
          refine E_then ?_
          refine C_cond (b := false) rfl (fun hb => Bool.noConfusion hb) (fun _ => ?_)
          refine C_skip ?_
          exact E_keepJ (J135 _ _ _ ⟨hm, rfl, rfl, rfl⟩) (List.Perm.refl _) ⟨rfl, rfl, rfl, rfl, rfl, rfl, rfl, trivial⟩

theorem m_slices_Sort_string_string_c {B : Nat} {w0 w : World} {H : Hp} {M : List Res} {p0_x : (List ByteArray)} {v0 : Value} {xs0 : List Value} {r : (List ByteArray)} (hm : m_slices_Sort_string_string p0_x = some r) (h0 : Rw H v0 xs0 p0_x) (ht : St B w0 H (.row v0 9 (Rep.sz ByteArray) p0_x.length xs0 :: M) w) :
    Calls Proofs.Try.prog 14 [v0].toArray w (Ret B w0 fun H' M' v => H = H' ∧ ∃ qxs0 : List Value, .row v0 9 (Rep.sz ByteArray) r.length qxs0 :: M = M' ∧ .tuple #[] = v ∧ RwF v0 qxs0 r) := by
  unfold m_slices_Sort_string_string at hm
  refine enter Proofs.Try.func14 rfl rfl rfl ht ?_
  refine C_seq ?_
  refine C_region ?_
  refine W_move rfl rfl rfl ?_
  refine W_lenO (List.mem_cons_self ..) rfl rfl Proofs.Try.runUnderlying23 rfl ?_
  refine W_assign rfl rfl rfl ?_
  refine W_end ?_
  refine E_then ?_
  refine C_region ?_
  refine W_move rfl rfl rfl ?_
  refine W_move rfl rfl rfl ?_
  refine W_move rfl rfl rfl ?_
  refine W_convInt rfl rfl Proofs.Try.runUnderlying3 Proofs.Try.runUnderlying59 rfl ?_
  obtain ⟨r101, hc102, hm⟩ := bind_some hm
  refine W_call Proofs.Try.call28 rfl rfl rfl (fun w ht => by have h := m_math_bits_Len_c (hm := hc102)  ht; exact h) ?_
  rintro _ _ _ ⟨rfl, rfl, rfl⟩
  obtain ⟨r103, hc104, hm⟩ := bind_some hm
  refine W_call Proofs.Try.call27 rfl rfl rfl (fun w ht => by have h := m_slices_pdqsortOrdered_string_c (hm := hc104) h0 ht; exact h) ?_
  rintro _ _ _ ⟨rfl, xs106, rfl, rfl, h107⟩
  have h107 := h107 H
  refine W_end ?_
  refine E_off ?_
  obtain rfl := Option.some.inj hm
  refine E_weak (Hp.le_refl _) ?_
  exact end0 rfl ⟨rfl, xs106, rfl, rfl, (h107).toF⟩

theorem m_alarm_causesOf_c {B : Nat} {w0 w : World} {H : Hp} {M : List Res} {causes : (List S_api_AlarmCause)} {p1_l : (List ByteArray)} {v0 : Value} {v1 : Value} {r : (List ByteArray)} (hm : m_alarm_causesOf causes p1_l = some r) (h0 : RdS H v0 causes) (h1 : RdS H v1 p1_l) (ht : St B w0 H (M) w) :
    Calls Proofs.Try.prog 23 [v0, v1].toArray w (Ret B w0 fun H' M' v => H = H' ∧ ∃ qv0 : Value, ∃ qxs0 : List Value, .row qv0 9 (Rep.sz ByteArray) r.length qxs0 :: M = M' ∧ qv0 = v ∧ RwF qv0 qxs0 r) := by
  unfold m_alarm_causesOf at hm
  refine enter Proofs.Try.func23 rfl rfl rfl ht ?_
  refine C_seq ?_
  refine C_region ?_
  refine W_assign rfl rfl rfl ?_
  refine W_end ?_
  refine E_then ?_
  refine C_seq ?_
  refine C_region ?_
  refine W_assign rfl rfl rfl ?_
  refine W_end ?_
  refine E_then ?_
  refine C_seq ?_
  refine C_seq ?_
  refine C_region ?_
  refine W_move rfl rfl rfl ?_
  refine W_lenR rfl rfl Proofs.Try.runUnderlying23 rfl h1 ?_
  refine W_move rfl rfl rfl ?_
  refine W_end ?_
  refine E_then ?_
  refine C_block ?_
  refine C_nilRow 9 (Rep.sz ByteArray) ?_
  refine C_keep (L' := [(0, v0), (1, v1), (5, (.slice none 0 0)), (8, v1), (9, .int .i64 ((p1_l.length : Int))), (10, .int .i64 (((0 : Nat) : Int)))]) ⟨rfl, rfl, rfl, rfl, rfl, rfl, trivial⟩ (List.Perm.refl _) ?_
  refine C_loop (fun n H' M' L' => ∃ (k101 : Nat) (zs199' : List ByteArray), ∃ l190 : List ByteArray, ∃ v188 : Value, ∃ xs189 : List Value, (p1_l).drop k101 = zs199' ∧ zs199'.length = n ∧ forI (fun k y s194 n => m_alarm_causesOf_b3 causes p1_l k y s194 n) (fun s194 => (m_slices_Sort_string_string s194).bind fun r241 => some r241) k101 zs199' l190 = some r ∧ Rw H' v188 xs189 l190 ∧ H.le H' ∧ .row v188 9 (Rep.sz ByteArray) l190.length xs189 :: M = M' ∧ [(0, v0), (1, v1), (5, v188), (8, v1), (9, .int .i64 ((p1_l.length : Int))), (10, .int .i64 ((k101 : Int)))] = L') _ ⟨0, _, ([] : List ByteArray), (.slice none 0 0), ([]), rfl, rfl, hm, Rw.nil, (Hp.le_refl _), rfl, rfl⟩ ?_
  rintro _ H192 _ _ ⟨k101, zs199', l190, v188, xs189, hd201, rfl, hm, hr191, hle193, rfl, rfl⟩
  refine C_seq ?_
  refine C_region ?_
  refine W_bin rfl rfl rfl rfl rfl ?_
  refine W_end (E_then ?_)
  refine C_seq ?_
  refine C_cond (b := decide ((k101 : Int) < (p1_l.length : Int))) rfl (fun hb203 => ?_) (fun hb203 => ?_)
  · obtain ⟨y198, zs199, rfl, hy200, hd202⟩ := rng_t hd201 hb203
    have hm : m_alarm_causesOf_b3 causes p1_l k101 y198 l190 (forI (fun k y s194 n => m_alarm_causesOf_b3 causes p1_l k y s194 n) (fun s194 => (m_slices_Sort_string_string s194).bind fun r241 => some r241) (k101 + 1) zs199) = some r := hm
    generalize hn196 : forI (fun k y s194 n => m_alarm_causesOf_b3 causes p1_l k y s194 n) (fun s194 => (m_slices_Sort_string_string s194).bind fun r241 => some r241) (k101 + 1) zs199 = nx195 at hm
    unfold m_alarm_causesOf_b3 at hm
    refine C_skip (E_then ?_)
    refine C_seq_join (fun H' M' L' => ∃ l221 : List ByteArray, ∃ v219 : Value, ∃ xs220 : List Value, m_alarm_causesOf_b4 nx195 l221 = some r ∧ Rw H' v219 xs220 l221 ∧ H192.le H' ∧ .row v219 9 (Rep.sz ByteArray) l221.length xs220 :: M = M' ∧ [(0, v0), (1, v1), (5, v219), (8, v1), (9, .int .i64 ((p1_l.length : Int))), (10, .int .i64 ((k101 : Int)))] = L') ?_ (fun J225 => ?_)
    · rintro H223 _ _ ⟨l221, v219, xs220, hm, hr222, hle224, rfl, rfl⟩
      unfold m_alarm_causesOf_b4 at hm
      refine C_region ?_
      refine W_bin rfl rfl rfl rfl rfl ?_
      refine W_move rfl rfl rfl ?_
      refine W_end ?_
      exact E_keepJ (E_back (Nat.lt_succ_self _) ⟨k101 + 1, zs199, l221, v219, xs220, hd202, rfl, (by rw [hn196]; exact hm), hr222, (Hp.le_trans hle193 hle224), rfl, rfl⟩) (List.Perm.refl _) ⟨rfl, rfl, rfl, rfl, rfl, (congrArg (fun z => some (Value.int .i64 z)) (i64_succ hy200 ((h1.mono hle193)).lenMax)), trivial⟩
    · refine C_block ?_
      refine C_seq ?_
      refine C_region ?_
      obtain ⟨_, rfl, hc226⟩ := (h1).elem hy200
      refine W_indexS rfl rfl Proofs.Try.runUnderlying23 Proofs.Try.sizeOf9 rfl (h1.mono hle193) rfl (Int.natCast_nonneg _) hy200 ?_
      refine W_load rfl rfl Proofs.Try.isAgg9 rfl (HCells.one (hc226.mono hle193) 0 rfl).at ?_
      refine W_assign rfl rfl rfl ?_
      refine W_end ?_
      refine E_then ?_
      refine C_seq ?_
      refine C_region ?_
      refine W_move rfl rfl rfl ?_
      refine W_move rfl rfl rfl ?_
      refine W_move rfl rfl rfl ?_
      obtain ⟨r227, hc228, hm⟩ := bind_some hm
      refine W_call Proofs.Try.call38 rfl rfl rfl (fun w ht => by have h := m_alarm_isCause_c (hm := hc228) (h0.mono hle193) (h1.mono hle193) ht; exact h) ?_
      rintro _ _ _ ⟨rfl, rfl, rfl⟩
      refine W_end ?_
      refine E_then ?_
      refine C_cond (b := r227) rfl (fun hb229 => ?_) (fun hb229 => ?_)
      · have hm := ite_t' hb229 hm
        refine C_region ?_
        refine W_move rfl rfl rfl ?_
        refine W_move rfl rfl rfl ?_
        refine W_buildSlice (α := ByteArray) (css := [[.string (y198)]]) (zs := [.string (⟨#[]⟩)]) (out := [.string (y198)]) (ys := [y198]) rfl rfl rfl ⟨rfl, trivial⟩ Proofs.Try.runUnderlying23 Proofs.Try.sizeOf9 rfl Proofs.Try.zeroValue9 (by kernel_rfl) rfl rfl rfl rfl ⟨[.string (y198)], [], rfl, rfl, rfl⟩ rfl ?_
        intro b230 v231 H232 hv233 hle234 h235
        have hc236 : Value.cap' v231 = ([y198]).length := by rw [hv233]; rfl
        obtain ⟨hz237, hm⟩ := need_some hm
        refine W_appendO (α := ByteArray) (l := l190) (ys := [y198]) rfl rfl Proofs.Try.underlying23 ⟨_, rfl, rfl, rfl, rfl⟩ rfl rfl rfl rfl rfl (hr191.mono hle234) h235 hz237 ?_
        intro v238 xs239 hr240
        refine W_assign rfl rfl rfl ?_
        refine W_end ?_
        refine E_normal_block ?_
        exact E_keepJ (J225 _ _ _ ⟨(l190 ++ ([y198])), v238, xs239, hm, hr240, hle234, rfl, rfl⟩) (List.Perm.refl _) ⟨rfl, rfl, rfl, rfl, rfl, rfl, trivial⟩
      · have hm := ite_f' hb229 hm
        refine C_skip ?_
        refine E_normal_block ?_
        exact E_keepJ (J225 _ _ _ ⟨l190, v188, xs189, hm, hr191, (Hp.le_refl _), rfl, rfl⟩) (List.Perm.refl _) ⟨rfl, rfl, rfl, rfl, rfl, rfl, trivial⟩
  · obtain rfl := rng_f hd201 hb203
    have hm : ((m_slices_Sort_string_string l190).bind fun r241 => some r241) = some r := hm
    refine C_exit (E_exit_then ?_)
    refine E_exit_then ?_
    refine E_exit_hit ?_
    refine E_then ?_
    refine C_seq ?_
    refine C_region ?_
    refine W_move rfl rfl rfl ?_
    obtain ⟨r241, hc242, hm⟩ := bind_some hm
    refine W_call Proofs.Try.call14 rfl rfl rfl (fun w ht => by have h := m_slices_Sort_string_string_c (hm := hc242) hr191 ht; exact h) ?_
    rintro _ _ _ ⟨rfl, xs244, rfl, rfl, h245⟩
    have h245 := h245 H192
    refine W_end ?_
    refine E_then ?_
    refine C_seq ?_
    refine C_region ?_
    refine W_move rfl rfl rfl ?_
    refine W_assign rfl rfl rfl ?_
    refine W_end ?_
    refine E_then ?_
    refine C_ret ?_
    obtain rfl := Option.some.inj hm
    refine E_weak hle193 ?_
    exact end1 rfl rfl ⟨rfl, v188, xs244, rfl, rfl, (h245).toF⟩

theorem m_alarm_Causes_c {B : Nat} {w0 w : World} {H : Hp} {M : List Res} {causes : (List S_api_AlarmCause)} {p1_l : (List ByteArray)} {v0 : Value} {v1 : Value} {r : (List ByteArray) × Int} (hm : m_alarm_Causes causes p1_l = some r) (h0 : RdS H v0 causes) (h1 : RdS H v1 p1_l) (ht : St B w0 H (M) w) :
    Calls Proofs.Try.prog 12 [v0, v1].toArray w (Ret B w0 fun H' M' v => H = H' ∧ ∃ qv0 : Value, ∃ qxs0 : List Value, .row qv0 9 (Rep.sz ByteArray) r.1.length qxs0 :: M = M' ∧ .tuple #[qv0, .int .i64 (r.2)] = v ∧ RwF qv0 qxs0 r.1) := by
  unfold m_alarm_Causes at hm
  refine enter Proofs.Try.func12 rfl rfl rfl ht ?_
  refine C_seq ?_
  refine C_region ?_
  refine W_assign rfl rfl rfl ?_
  refine W_assign rfl rfl rfl ?_
  refine W_end ?_
  refine E_then ?_
  refine C_seq ?_
  refine C_seq ?_
  refine C_region ?_
  refine W_move rfl rfl rfl ?_
  refine W_move rfl rfl rfl ?_
  obtain ⟨r101, hc102, hm⟩ := bind_some hm
  refine W_call Proofs.Try.call22 rfl rfl rfl (fun w ht => by have h := m_alarm_check_c (hm := hc102) h0 h1 ht; exact h) ?_
  rintro _ _ _ ⟨rfl, rfl, rfl⟩
  refine W_assign rfl rfl rfl ?_
  refine W_end ?_
  refine E_then ?_
  refine C_seq ?_
  refine C_region ?_
  refine W_move rfl rfl rfl ?_
  refine W_bin rfl rfl rfl rfl rfl ?_
  refine W_end ?_
  refine E_then ?_
  refine C_cond (b := !decide (r101 = 0)) rfl (fun hb103 => ?_) (fun hb103 => ?_)
  · have hm := ite_t' hb103 hm
    refine C_seq ?_
    refine C_region ?_
    refine W_move rfl rfl rfl ?_
    refine W_assign rfl rfl rfl ?_
    refine W_assign rfl rfl rfl ?_
    refine W_end ?_
    refine E_then ?_
    refine C_ret ?_
    refine E_ret_then ?_
    refine E_nilRow 9 (Rep.sz ByteArray) ?_
    obtain rfl := Option.some.inj hm
    refine E_weak (Hp.le_refl _) ?_
    exact end2 rfl rfl rfl ⟨rfl, (.slice none 0 0), [], rfl, rfl, (Rw.nil (H := H)).toF⟩
  · have hm := ite_f' hb103 hm
    refine C_skip ?_
    refine E_then ?_
    refine C_seq ?_
    refine C_region ?_
    refine W_move rfl rfl rfl ?_
    refine W_move rfl rfl rfl ?_
    obtain ⟨r104, hc105, hm⟩ := bind_some hm
    refine W_call Proofs.Try.call23 rfl rfl rfl (fun w ht => by have h := m_alarm_causesOf_c (hm := hc105) h0 h1 ht; exact h) ?_
    rintro _ _ _ ⟨rfl, v106, xs107, rfl, rfl, h108⟩
    have h108 := h108 H
    refine W_assign rfl rfl rfl ?_
    refine W_assign rfl rfl rfl ?_
    refine W_end ?_
    refine E_then ?_
    refine C_ret ?_
    obtain rfl := Option.some.inj hm
    refine E_weak (Hp.le_refl _) ?_
    exact end2 rfl rfl rfl ⟨rfl, v106, xs107, rfl, rfl, (h108).toF⟩

theorem m_slices_Equal_string_string_c {B : Nat} {w0 w : World} {H : Hp} {M : List Res} {p0_s1 : (List ByteArray)} {p1_s2 : (List ByteArray)} {v0 : Value} {v1 : Value} {r : Bool} (hm : m_slices_Equal_string_string p0_s1 p1_s2 = some r) (h0 : RdS H v0 p0_s1) (h1 : RdS H v1 p1_s2) (ht : St B w0 H (M) w) :
    Calls Proofs.Try.prog 16 [v0, v1].toArray w (Ret B w0 fun H' M' v => H = H' ∧ M = M' ∧ .bool (r) = v) := by
  unfold m_slices_Equal_string_string at hm
  refine enter Proofs.Try.func16 rfl rfl rfl ht ?_
  refine C_seq ?_
  refine C_region ?_
  refine W_assign rfl rfl rfl ?_
  refine W_end ?_
  refine E_then ?_
  refine C_seq ?_
  refine C_seq ?_
  refine C_region ?_
  refine W_move rfl rfl rfl ?_
  refine W_lenR rfl rfl Proofs.Try.runUnderlying23 rfl h0 ?_
  refine W_move rfl rfl rfl ?_
  refine W_lenR rfl rfl Proofs.Try.runUnderlying23 rfl h1 ?_
  refine W_bin rfl rfl rfl rfl rfl ?_
  refine W_end ?_
  refine E_then ?_
  refine C_cond (b := !decide ((p0_s1.length : Int) = (p1_s2.length : Int))) rfl (fun hb101 => ?_) (fun hb101 => ?_)
  · have hm := ite_t' hb101 hm
    refine C_seq ?_
    refine C_region ?_
    refine W_assign rfl rfl rfl ?_
    refine W_end ?_
    refine E_then ?_
    refine C_ret ?_
    refine E_ret_then ?_
    obtain rfl := Option.some.inj hm
    refine E_weak (Hp.le_refl _) ?_
    exact end1 rfl rfl ⟨rfl, rfl, rfl⟩
  · have hm := ite_f' hb101 hm
    refine C_skip ?_
    refine E_then ?_
    refine C_seq ?_
    refine C_seq ?_
    refine C_region ?_
    refine W_move rfl rfl rfl ?_
    refine W_lenR rfl rfl Proofs.Try.runUnderlying23 rfl h0 ?_
    refine W_move rfl rfl rfl ?_
    refine W_end ?_
    refine E_then ?_
    refine C_block ?_
    refine C_keep (L' := [(0, v0), (1, v1), (12, .int .i64 ((p0_s1.length : Int))), (13, .int .i64 (((0 : Nat) : Int)))]) ⟨rfl, rfl, rfl, rfl, trivial⟩ (List.Perm.refl _) ?_
    refine C_loop (fun n H' M' L' => ∃ (k102 : Nat) (zs136' : Nat), k102 + zs136' = ((p0_s1.length : Int) : Int).toNat ∧ zs136' = n ∧ forN (fun k s131 n => m_slices_Equal_string_string_b1 p0_s1 p1_s2 k n) (fun _ => some true) zs136' k102 () = some r ∧ H.le H' ∧ M = M' ∧ [(0, v0), (1, v1), (12, .int .i64 ((p0_s1.length : Int))), (13, .int .i64 ((k102 : Int)))] = L') _ ⟨0, _, Nat.zero_add _, rfl, hm, (Hp.le_refl _), rfl, rfl⟩ ?_
    rintro _ H129 _ _ ⟨k102, zs136', hd138, rfl, hm, hle130, rfl, rfl⟩
    refine C_seq ?_
    refine C_region ?_
    refine W_bin rfl rfl rfl rfl rfl ?_
    refine W_end (E_then ?_)
    refine C_seq ?_
    refine C_cond (b := decide ((k102 : Int) < (p0_s1.length : Int))) rfl (fun hb140 => ?_) (fun hb140 => ?_)
    · obtain ⟨zs136, rfl, hd139, hy137⟩ := rngN_t hd138 hb140
      have hm : m_slices_Equal_string_string_b1 p0_s1 p1_s2 k102 (forN (fun k s131 n => m_slices_Equal_string_string_b1 p0_s1 p1_s2 k n) (fun _ => some true) zs136 (k102 + 1)) = some r := hm
      generalize hn133 : forN (fun k s131 n => m_slices_Equal_string_string_b1 p0_s1 p1_s2 k n) (fun _ => some true) zs136 (k102 + 1) = nx132 at hm
      unfold m_slices_Equal_string_string_b1 at hm
      refine C_skip (E_then ?_)
      refine C_seq ?_
      refine C_block ?_
      refine C_seq ?_
      refine C_region ?_
      refine W_move rfl rfl rfl ?_
      refine W_assign rfl rfl rfl ?_
      refine W_end ?_
      refine E_then ?_
      refine C_seq ?_
      obtain ⟨y141, h142, he143, hm⟩ := idx_some hm
      obtain ⟨_, rfl, hc144⟩ := (h0).elem he143
      obtain ⟨y145, h146, he147, hm⟩ := idx_some hm
      obtain ⟨_, rfl, hc148⟩ := (h1).elem he147
      refine C_region_tok0 8 (phiT [(fun H rs v => [] = rs ∧ v0 = v), (fun H rs v => [] = rs ∧ .int .i64 ((k102 : Int)) = v), (fun H rs v => [] = rs ∧ .pointer (some ((Value.base (v0)).add (((k102 : Int) : Int).toNat * 1))) = v), (fun H rs v => [] = rs ∧ .string (y141) = v), (fun H rs v => [] = rs ∧ v1 = v), (fun H rs v => [] = rs ∧ .int .i64 ((k102 : Int)) = v), (fun H rs v => [] = rs ∧ .pointer (some ((Value.base (v1)).add (((k102 : Int) : Int).toNat * 1))) = v), (fun H rs v => [] = rs ∧ .string (y145) = v)]) [[], [], [], [], [], [], [], []] [[], [], [], [], [], [], [], []] [] [0, 1, 2, 3, 4, 5, 6, 7] Facts.mixed (by kernel_rfl) rfl rfl rfl (by kernel_rfl) (phiT_mono ⟨eq_monoT _ _, eq_monoT _ _, eq_monoT _ _, eq_monoT _ _, eq_monoT _ _, eq_monoT _ _, eq_monoT _ _, eq_monoT _ _, trivial⟩) ⟨?_, ?_, ?_, ?_, ?_, ?_, ?_, ?_, trivial⟩ ?_
      · intro HX hX X Rest hR
        intro hU
        refine W_move rfl rfl rfl ?_
        exact W_end (OneT_end [] (Hp.le_refl _) ⟨rfl, rfl⟩)
      · intro HX hX X Rest hR
        intro hU
        refine W_move rfl rfl rfl ?_
        exact W_end (OneT_end [] (Hp.le_refl _) ⟨rfl, rfl⟩)
      · intro HX hX X Rest hR
        rintro _ _ ⟨rfl, rfl⟩
        rintro _ _ ⟨rfl, rfl⟩
        intro hU
        refine W_indexS rfl rfl Proofs.Try.runUnderlying23 Proofs.Try.sizeOf9 rfl ((h0.mono hle130).mono hX) rfl h142 he143 ?_
        exact W_end (OneT_end [] (Hp.le_refl _) ⟨rfl, rfl⟩)
      · intro HX hX X Rest hR
        rintro _ _ ⟨rfl, rfl⟩
        intro hU
        refine W_load rfl rfl Proofs.Try.isAgg9 rfl (HCells.one ((hc144.mono hle130).mono hX) 0 rfl).at ?_
        exact W_end (OneT_end [] (Hp.le_refl _) ⟨rfl, rfl⟩)
      · intro HX hX X Rest hR
        intro hU
        refine W_move rfl rfl rfl ?_
        exact W_end (OneT_end [] (Hp.le_refl _) ⟨rfl, rfl⟩)
      · intro HX hX X Rest hR
        intro hU
        refine W_move rfl rfl rfl ?_
        exact W_end (OneT_end [] (Hp.le_refl _) ⟨rfl, rfl⟩)
      · intro HX hX X Rest hR
        rintro _ _ ⟨rfl, rfl⟩
        rintro _ _ ⟨rfl, rfl⟩
        intro hU
        refine W_indexS rfl rfl Proofs.Try.runUnderlying23 Proofs.Try.sizeOf9 rfl ((h1.mono hle130).mono hX) rfl h146 he147 ?_
        exact W_end (OneT_end [] (Hp.le_refl _) ⟨rfl, rfl⟩)
      · intro HX hX X Rest hR
        rintro _ _ ⟨rfl, rfl⟩
        intro hU
        refine W_load rfl rfl Proofs.Try.isAgg9 rfl (HCells.one ((hc148.mono hle130).mono hX) 0 rfl).at ?_
        exact W_end (OneT_end [] (Hp.le_refl _) ⟨rfl, rfl⟩)
      intro H149 hle150
      rintro _ _ ⟨rfl, rfl⟩
      rintro _ _ ⟨rfl, rfl⟩
      rintro _ _ ⟨rfl, rfl⟩
      rintro _ _ ⟨rfl, rfl⟩
      rintro _ _ ⟨rfl, rfl⟩
      rintro _ _ ⟨rfl, rfl⟩
      rintro _ _ ⟨rfl, rfl⟩
      rintro _ _ ⟨rfl, rfl⟩
      refine W_bin rfl rfl rfl rfl rfl ?_
      refine W_end ?_
      refine E_then ?_
      refine C_cond (b := !decide (y141 = y145)) rfl (fun hb151 => ?_) (fun hb151 => ?_)
      · have hm := ite_t' hb151 hm
        refine C_seq ?_
        refine C_region ?_
        refine W_assign rfl rfl rfl ?_
        refine W_end ?_
        refine E_then ?_
        refine C_ret ?_
        refine E_ret_block ?_
        refine E_ret_then ?_
        refine E_ret_then ?_
        refine E_ret_block ?_
        refine E_ret_then ?_
        obtain rfl := Option.some.inj hm
        refine E_weak (Hp.le_trans hle130 hle150) ?_
        exact end1 rfl rfl ⟨rfl, rfl, rfl⟩
      · have hm := ite_f' hb151 hm
        refine C_skip ?_
        refine E_normal_block ?_
        refine E_then ?_
        refine C_region ?_
        refine W_bin rfl rfl rfl rfl rfl ?_
        refine W_move rfl rfl rfl ?_
        refine W_end ?_
        exact E_keepJ (E_back (Nat.lt_succ_self _) ⟨k102 + 1, zs136, hd139, rfl, (by rw [hn133]; exact hm), (Hp.le_trans hle130 hle150), rfl, rfl⟩) (List.Perm.refl _) ⟨rfl, rfl, rfl, (congrArg (fun z => some (Value.int .i64 z)) (i64_succN hy137 (toNat_max (len_max (h0).lenMax)))), trivial⟩
    · obtain rfl := rngN_f hd138 hb140
      have hm : (some true) = some r := hm
      refine C_exit (E_exit_then ?_)
      refine E_exit_then ?_
      refine E_exit_hit ?_
      refine E_then ?_
      refine C_seq ?_
      refine C_region ?_
      refine W_assign rfl rfl rfl ?_
      refine W_end ?_
      refine E_then ?_
      refine C_ret ?_
      obtain rfl := Option.some.inj hm
      refine E_weak hle130 ?_
      exact end1 rfl rfl ⟨rfl, rfl, rfl⟩

theorem m_gridhallkeep4_alarmFact_c {B : Nat} {w0 w : World} {H : Hp} {M : List Res} {r : Bool} (hm : m_gridhallkeep4_alarmFact = some r) (ht : St B w0 H (M) w) :
    Calls Proofs.Try.prog 5 [].toArray w (Ret B w0 fun H' M' v => H = H' ∧ M = M' ∧ .bool (r) = v) := by
  unfold m_gridhallkeep4_alarmFact at hm
  refine enter Proofs.Try.func5 rfl rfl rfl ht ?_
  refine C_seq ?_
  refine C_region ?_
  refine W_assign rfl rfl rfl ?_
  refine W_end ?_
  refine E_then ?_
  refine C_seq ?_
  refine C_region ?_
  refine W_build (css := [[.string (⟨#[66]⟩)], [.string (⟨#[65]⟩)]]) (zs := [.string (⟨#[]⟩), .string (⟨#[]⟩)]) (out := [.string (⟨#[66]⟩), .string (⟨#[65]⟩)]) (places := [(0, 1), (1, 1)]) rfl rfl rfl ⟨rfl, rfl, trivial⟩ Proofs.Try.zeroValue45 rfl Proofs.Try.runUnderlying45 (fun w => by kernel_rfl) rfl ?_
  refine W_build (css := [[.string (⟨#[67]⟩)], [.string (⟨#[66]⟩)]]) (zs := [.string (⟨#[]⟩), .string (⟨#[]⟩)]) (out := [.string (⟨#[67]⟩), .string (⟨#[66]⟩)]) (places := [(0, 1), (1, 1)]) rfl rfl rfl ⟨rfl, rfl, trivial⟩ Proofs.Try.zeroValue45 rfl Proofs.Try.runUnderlying45 (fun w => by kernel_rfl) rfl ?_
  refine W_buildSliceO (α := S_api_AlarmCause) (css := [[.string (⟨#[66]⟩), .string (⟨#[65]⟩)], [.string (⟨#[67]⟩), .string (⟨#[66]⟩)]]) (zs := [.string (⟨#[]⟩), .string (⟨#[]⟩), .string (⟨#[]⟩), .string (⟨#[]⟩)]) (out := [.string (⟨#[66]⟩), .string (⟨#[65]⟩), .string (⟨#[67]⟩), .string (⟨#[66]⟩)]) (ys := [(S_api_AlarmCause.mk (⟨#[66]⟩) (⟨#[65]⟩)), (S_api_AlarmCause.mk (⟨#[67]⟩) (⟨#[66]⟩))]) rfl rfl rfl ⟨rfl, rfl, trivial⟩ Proofs.Try.runUnderlying22 Proofs.Try.sizeOf45 rfl Proofs.Try.zeroValue45 (by kernel_rfl) rfl rfl rfl rfl ⟨[.string (⟨#[66]⟩), .string (⟨#[65]⟩)], [.string (⟨#[67]⟩), .string (⟨#[66]⟩)], rfl, rfl, ⟨[.string (⟨#[67]⟩), .string (⟨#[66]⟩)], [], rfl, rfl, rfl⟩⟩ rfl ?_
  intro v101 xs102 hr103
  refine W_buildSliceO (α := ByteArray) (css := [[.string (⟨#[67]⟩)], [.string (⟨#[65]⟩)], [.string (⟨#[66]⟩)]]) (zs := [.string (⟨#[]⟩), .string (⟨#[]⟩), .string (⟨#[]⟩)]) (out := [.string (⟨#[67]⟩), .string (⟨#[65]⟩), .string (⟨#[66]⟩)]) (ys := [(⟨#[67]⟩), (⟨#[65]⟩), (⟨#[66]⟩)]) rfl rfl rfl ⟨rfl, rfl, rfl, trivial⟩ Proofs.Try.runUnderlying23 Proofs.Try.sizeOf9 rfl Proofs.Try.zeroValue9 (by kernel_rfl) rfl rfl rfl rfl ⟨[.string (⟨#[67]⟩)], [.string (⟨#[65]⟩), .string (⟨#[66]⟩)], rfl, rfl, ⟨[.string (⟨#[65]⟩)], [.string (⟨#[66]⟩)], rfl, rfl, ⟨[.string (⟨#[66]⟩)], [], rfl, rfl, rfl⟩⟩⟩ rfl ?_
  intro v104 xs105 hr106
  refine W_perm (List.Perm.swap _ _ _) ?_
  obtain ⟨r107, hc108, hm⟩ := bind_some hm
  refine W_call Proofs.Try.call12 rfl rfl rfl (fun w ht => by obtain ⟨H0_, hl0_, ht0_, hr0_, bk0_⟩ := ht.lendRow hr103 rfl; obtain ⟨H1_, hl1_, ht1_, hr1_, bk1_⟩ := ht0_.lendRow (hr106.mono hl0_) rfl; have h := m_alarm_Causes_c (hm := hc108) (hr0_.mono hl1_) hr1_ ht1_; exact lend_back bk0_ (lend_back bk1_ (h))) ?_
  rintro _ _ _ ⟨rfl, ⟨_, rfl, ⟨_, rfl, v109, xs110, rfl, rfl, h111⟩⟩⟩
  have h111 := h111 H
  refine W_move rfl rfl rfl ?_
  refine W_extract rfl rfl rfl rfl ?_
  refine W_extract rfl rfl rfl rfl ?_
  refine W_assign rfl rfl rfl ?_
  refine W_assign rfl rfl rfl ?_
  refine W_end ?_
  refine E_then ?_
  refine C_seq ?_
  refine C_region ?_
  refine W_move rfl rfl rfl ?_
  refine W_bin rfl rfl rfl rfl rfl ?_
  refine W_move rfl rfl rfl ?_
  cases hb112 : (decide (r107.2 = 0))
  · have hm := ite_f' hb112 hm
    refine W_no rfl rfl rfl ?_
    refine W_no rfl rfl rfl ?_
    refine W_no rfl rfl rfl ?_
    refine W_pick rfl rfl rfl rfl ?_
    refine W_assign rfl rfl rfl ?_
    refine W_end ?_
    refine E_then ?_
    refine C_ret ?_
    obtain rfl := Option.some.inj hm
    refine E_drop (List.Sublist.cons _ (List.Sublist.cons _ (List.Sublist.cons _ (List.Sublist.refl _)))) ?_
    refine E_weak (Hp.le_refl _) ?_
    exact end1 rfl rfl ⟨rfl, rfl, rfl⟩
  · have hm := ite_t' hb112 hm
    refine W_move rfl rfl rfl ?_
    refine W_buildSliceO (α := ByteArray) (css := [[.string (⟨#[65]⟩)]]) (zs := [.string (⟨#[]⟩)]) (out := [.string (⟨#[65]⟩)]) (ys := [(⟨#[65]⟩)]) rfl rfl rfl ⟨rfl, trivial⟩ Proofs.Try.runUnderlying23 Proofs.Try.sizeOf9 rfl Proofs.Try.zeroValue9 (by kernel_rfl) rfl rfl rfl rfl ⟨[.string (⟨#[65]⟩)], [], rfl, rfl, rfl⟩ rfl ?_
    intro v113 xs114 hr115
    refine W_perm (List.Perm.trans (List.Perm.cons _ (List.Perm.cons _ (List.Perm.swap _ _ _))) (List.Perm.trans (List.Perm.cons _ (List.Perm.swap _ _ _)) (List.Perm.swap _ _ _))) ?_
    obtain ⟨r116, hc117, hm⟩ := bind_some hm
    refine W_call Proofs.Try.call16 rfl rfl rfl (fun w ht => by obtain ⟨H0_, hl0_, ht0_, hr0_, bk0_⟩ := ht.lendRow h111 rfl; obtain ⟨H1_, hl1_, ht1_, hr1_, bk1_⟩ := ht0_.lendRow (hr115.mono hl0_) rfl; have h := m_slices_Equal_string_string_c (hm := hc117) (hr0_.mono hl1_) hr1_ ht1_; exact lend_back bk0_ (lend_back bk1_ (h))) ?_
    rintro _ _ _ ⟨rfl, ⟨_, rfl, ⟨_, rfl, rfl, rfl⟩⟩⟩
    refine W_pick rfl rfl rfl rfl ?_
    refine W_assign rfl rfl rfl ?_
    refine W_end ?_
    refine E_then ?_
    refine C_ret ?_
    obtain rfl := Option.some.inj hm
    refine E_drop (List.Sublist.cons _ (List.Sublist.cons _ (List.Sublist.cons _ (List.Sublist.cons _ (List.Sublist.refl _))))) ?_
    refine E_weak (Hp.le_refl _) ?_
    exact end1 rfl rfl ⟨rfl, rfl, rfl⟩

theorem m_alarm_Board_index_1_c {B : Nat} {w0 w : World} {H : Hp} {M : List Res} {p0_x : S_api_AlarmEntry} {p1_c1 : ByteArray} {b0 : Nat} {r : Bool} (hm : m_alarm_Board_index_1 p0_x p1_c1 = r) (ht : St B w0 H (.obj b0 (.cells [.string (p1_c1)].toArray 9 (0, 0)) :: M) w) :
    Calls Proofs.Try.prog 37 [.agg [.string (p0_x.Name), .int .i64 (p0_x.Time), .bool (p0_x.Acked)].toArray, .pointer (some ⟨b0, 0, none⟩)].toArray w (Ret B w0 fun H' M' v => H = H' ∧ .obj b0 (.cells [.string (p1_c1)].toArray 9 (0, 0)) :: M = M' ∧ .bool (r) = v) := by
  unfold m_alarm_Board_index_1 at hm
  refine enter Proofs.Try.func37 rfl rfl rfl ht ?_
  refine C_seq ?_
  refine C_region ?_
  refine W_box (cs := [.string (p0_x.Name), .int .i64 (p0_x.Time), .bool (p0_x.Acked)]) rfl rfl rfl rfl (fun b101 => ?_)
  refine W_assign rfl rfl rfl ?_
  refine W_end ?_
  refine E_then ?_
  refine C_seq ?_
  refine C_region ?_
  refine W_field (o := 0) rfl rfl Proofs.Try.runUnderlying39 rfl Proofs.Try.sizeOf9 rfl rfl rfl ?_
  refine W_load rfl rfl Proofs.Try.isAgg9 rfl (own_at (List.mem_cons_self ..) rfl) ?_
  refine W_load rfl rfl Proofs.Try.isAgg9 rfl (own_at (List.mem_cons_of_mem _ (List.mem_cons_self ..)) rfl) ?_
  refine W_bin rfl rfl rfl rfl rfl ?_
  refine W_assign rfl rfl rfl ?_
  refine W_end ?_
  refine E_then ?_
  refine C_ret ?_
  obtain rfl := hm
  refine E_drop (List.Sublist.cons _ (List.Sublist.refl _)) ?_
  refine E_weak (Hp.le_refl _) ?_
  exact end1 rfl rfl ⟨rfl, rfl, rfl⟩

theorem m_slices_IndexFunc_api_AlarmEntry_api_AlarmEntry__alarm_Board_index_1_c {B : Nat} {w0 w : World} {H : Hp} {M : List Res} {p0_s : (List S_api_AlarmEntry)} {p1_f_0 : ByteArray} {v0 : Value} {b0 : Nat} {r : Int} (hm : m_slices_IndexFunc_api_AlarmEntry_api_AlarmEntry__alarm_Board_index_1 p0_s p1_f_0 = some r) (h0 : RdS H v0 p0_s) (ht : St B w0 H (.obj b0 (.cells [.string (p1_f_0)].toArray 9 (0, 0)) :: M) w) :
    Calls Proofs.Try.prog 36 [v0, .func (.func 37) [].toArray [.pointer (some ⟨b0, 0, none⟩)].toArray].toArray w (Ret B w0 fun H' M' v => H = H' ∧ .obj b0 (.cells [.string (p1_f_0)].toArray 9 (0, 0)) :: M = M' ∧ .int .i64 (r) = v) := by
  unfold m_slices_IndexFunc_api_AlarmEntry_api_AlarmEntry__alarm_Board_index_1 at hm
  refine enter Proofs.Try.func36 rfl rfl rfl ht ?_
  refine C_seq ?_
  refine C_region ?_
  refine W_assign rfl rfl rfl ?_
  refine W_end ?_
  refine E_then ?_
  refine C_seq ?_
  refine C_seq ?_
  refine C_region ?_
  refine W_move rfl rfl rfl ?_
  refine W_lenR rfl rfl Proofs.Try.runUnderlying36 rfl h0 ?_
  refine W_move rfl rfl rfl ?_
  refine W_end ?_
  refine E_then ?_
  refine C_block ?_
  refine C_keep (L' := [(0, v0), (1, .func (.func 37) [].toArray [.pointer (some ⟨b0, 0, none⟩)].toArray), (7, .int .i64 ((p0_s.length : Int))), (8, .int .i64 (((0 : Nat) : Int)))]) ⟨rfl, rfl, rfl, rfl, trivial⟩ (List.Perm.refl _) ?_
  refine C_loop (fun n H' M' L' => ∃ (k101 : Nat) (zs119' : Nat), k101 + zs119' = ((p0_s.length : Int) : Int).toNat ∧ zs119' = n ∧ forN (fun k s114 n => m_slices_IndexFunc_api_AlarmEntry_api_AlarmEntry__alarm_Board_index_1_b1 p0_s p1_f_0 k n) (fun _ => some (-1)) zs119' k101 () = some r ∧ H.le H' ∧ .obj b0 (.cells [.string (p1_f_0)].toArray 9 (0, 0)) :: M = M' ∧ [(0, v0), (1, .func (.func 37) [].toArray [.pointer (some ⟨b0, 0, none⟩)].toArray), (7, .int .i64 ((p0_s.length : Int))), (8, .int .i64 ((k101 : Int)))] = L') _ ⟨0, _, Nat.zero_add _, rfl, hm, (Hp.le_refl _), rfl, rfl⟩ ?_
  rintro _ H112 _ _ ⟨k101, zs119', hd121, rfl, hm, hle113, rfl, rfl⟩
  refine C_seq ?_
  refine C_region ?_
  refine W_bin rfl rfl rfl rfl rfl ?_
  refine W_end (E_then ?_)
  refine C_seq ?_
  refine C_cond (b := decide ((k101 : Int) < (p0_s.length : Int))) rfl (fun hb123 => ?_) (fun hb123 => ?_)
  · obtain ⟨zs119, rfl, hd122, hy120⟩ := rngN_t hd121 hb123
    have hm : m_slices_IndexFunc_api_AlarmEntry_api_AlarmEntry__alarm_Board_index_1_b1 p0_s p1_f_0 k101 (forN (fun k s114 n => m_slices_IndexFunc_api_AlarmEntry_api_AlarmEntry__alarm_Board_index_1_b1 p0_s p1_f_0 k n) (fun _ => some (-1)) zs119 (k101 + 1)) = some r := hm
    generalize hn116 : forN (fun k s114 n => m_slices_IndexFunc_api_AlarmEntry_api_AlarmEntry__alarm_Board_index_1_b1 p0_s p1_f_0 k n) (fun _ => some (-1)) zs119 (k101 + 1) = nx115 at hm
    unfold m_slices_IndexFunc_api_AlarmEntry_api_AlarmEntry__alarm_Board_index_1_b1 at hm
    refine C_skip (E_then ?_)
    refine C_seq ?_
    refine C_block ?_
    refine C_seq ?_
    refine C_region ?_
    refine W_move rfl rfl rfl ?_
    refine W_assign rfl rfl rfl ?_
    refine W_end ?_
    refine E_then ?_
    refine C_seq ?_
    refine C_region ?_
    refine W_move rfl rfl rfl ?_
    refine W_move rfl rfl rfl ?_
    refine W_move rfl rfl rfl ?_
    obtain ⟨y124, h125, he126, hm⟩ := idx_some hm
    obtain ⟨_, ⟨rfl⟩, hc127⟩ := (h0).elem he126
    refine W_indexS rfl rfl Proofs.Try.runUnderlying36 Proofs.Try.sizeOf39 rfl (h0.mono hle113) rfl h125 he126 ?_
    refine W_loadAgg rfl rfl Proofs.Try.isAgg39 Proofs.Try.sizeOf39 rfl (hc127.mono hle113).at rfl ?_
    refine W_callv Proofs.Try.call37 rfl rfl rfl rfl (fun w ht => by have h := m_alarm_Board_index_1_c (hm := (rfl : m_alarm_Board_index_1 y124 p1_f_0 = _))  ht; exact h) ?_
    rintro _ _ _ ⟨rfl, rfl, rfl⟩
    refine W_end ?_
    refine E_then ?_
    refine C_cond (b := (m_alarm_Board_index_1 y124 p1_f_0)) rfl (fun hb128 => ?_) (fun hb128 => ?_)
    · have hm := ite_t' hb128 hm
      refine C_seq ?_
      refine C_region ?_
      refine W_move rfl rfl rfl ?_
      refine W_assign rfl rfl rfl ?_
      refine W_end ?_
      refine E_then ?_
      refine C_ret ?_
      refine E_ret_block ?_
      refine E_ret_then ?_
      refine E_ret_then ?_
      refine E_ret_block ?_
      refine E_ret_then ?_
      obtain rfl := Option.some.inj hm
      refine E_weak hle113 ?_
      exact end1 rfl rfl ⟨rfl, rfl, rfl⟩
    · have hm := ite_f' hb128 hm
      refine C_skip ?_
      refine E_normal_block ?_
      refine E_then ?_
      refine C_region ?_
      refine W_bin rfl rfl rfl rfl rfl ?_
      refine W_move rfl rfl rfl ?_
      refine W_end ?_
      exact E_keepJ (E_back (Nat.lt_succ_self _) ⟨k101 + 1, zs119, hd122, rfl, (by rw [hn116]; exact hm), hle113, rfl, rfl⟩) (List.Perm.refl _) ⟨rfl, rfl, rfl, (congrArg (fun z => some (Value.int .i64 z)) (i64_succN hy120 (toNat_max (len_max (h0).lenMax)))), trivial⟩
  · obtain rfl := rngN_f hd121 hb123
    have hm : (some (-1)) = some r := hm
    refine C_exit (E_exit_then ?_)
    refine E_exit_then ?_
    refine E_exit_hit ?_
    refine E_then ?_
    refine C_seq ?_
    refine C_region ?_
    refine W_assign rfl rfl rfl ?_
    refine W_end ?_
    refine E_then ?_
    refine C_ret ?_
    obtain rfl := Option.some.inj hm
    refine E_weak hle113 ?_
    exact end1 rfl rfl ⟨rfl, rfl, rfl⟩

theorem m_alarm_Board_index_c {B : Nat} {w0 w : World} {H : Hp} {M : List Res} {p0_b : S_alarm_Board} {name : ByteArray} {b0 : Nat} {v0 : Value} {v1 : Value} {xs0 : List Value} {r : Int} (hm : m_alarm_Board_index p0_b name = some r) (h0 : RdS H v0 p0_b.causes) (h1 : Rw H v1 xs0 p0_b.all_) (ht : St B w0 H (.obj b0 (.cells [v0, v1, .int .i64 (p0_b.last)].toArray 47 (0, 0)) :: .row v1 39 (Rep.sz S_api_AlarmEntry) p0_b.all_.length xs0 :: M) w) :
    Calls Proofs.Try.prog 20 [.pointer (some ⟨b0, 0, none⟩), .string (name)].toArray w (Ret B w0 fun H' M' v => H = H' ∧ .obj b0 (.cells [v0, v1, .int .i64 (p0_b.last)].toArray 47 (0, 0)) :: .row v1 39 (Rep.sz S_api_AlarmEntry) p0_b.all_.length xs0 :: M = M' ∧ .int .i64 (r) = v) := by
  unfold m_alarm_Board_index at hm
  refine enter Proofs.Try.func20 rfl rfl rfl ht ?_
  refine C_seq ?_
  refine C_region ?_
  refine W_box (cs := [.string (name)]) rfl rfl rfl rfl (fun b101 => ?_)
  refine W_assign rfl rfl rfl ?_
  refine W_end ?_
  refine E_then ?_
  refine C_seq ?_
  refine C_region ?_
  refine W_move rfl rfl rfl ?_
  refine W_nilCheck rfl rfl rfl ?_
  refine W_field (o := 1) rfl rfl Proofs.Try.runUnderlying47 rfl Proofs.Try.sizeOf36 rfl rfl rfl ?_
  refine W_load rfl rfl Proofs.Try.isAgg36 rfl (own_at (List.mem_cons_of_mem _ (List.mem_cons_self ..)) rfl) ?_
  refine W_makeFunc rfl rfl rfl rfl ?_
  refine W_perm (List.Perm.trans (List.Perm.cons _ (List.Perm.swap _ _ _)) (List.Perm.swap _ _ _)) ?_
  obtain ⟨r102, hc103, hm⟩ := bind_some hm
  refine W_call Proofs.Try.call36 rfl rfl rfl (fun w ht => by obtain ⟨H0_, hl0_, ht0_, hr0_, bk0_⟩ := ht.lendRow h1 rfl; have h := m_slices_IndexFunc_api_AlarmEntry_api_AlarmEntry__alarm_Board_index_1_c (hm := hc103) hr0_ ht0_; exact lend_back bk0_ (h)) ?_
  rintro _ _ _ ⟨rfl, ⟨_, rfl, rfl, rfl⟩⟩
  refine W_assign rfl rfl rfl ?_
  refine W_end ?_
  refine E_then ?_
  refine C_ret ?_
  obtain rfl := Option.some.inj hm
  refine E_drop (List.Sublist.cons_cons _ (List.Sublist.cons _ (List.Sublist.refl _))) ?_
  refine E_perm (List.Perm.swap _ _ _) ?_
  refine E_weak (Hp.le_refl _) ?_
  exact end1 rfl rfl ⟨rfl, rfl, rfl⟩

theorem m_alarm_Board_Raise_c {B : Nat} {w0 w : World} {H : Hp} {M : List Res} {p0_b : S_alarm_Board} {name : ByteArray} {time : Int} {b0 : Nat} {v0 : Value} {v1 : Value} {xs0 : List Value} {r : Int × S_alarm_Board} (hm : m_alarm_Board_Raise p0_b name time = some r) (h0 : RdS H v0 p0_b.causes) (h1 : Rw H v1 xs0 p0_b.all_) (ht : St B w0 H (.obj b0 (.cells [v0, v1, .int .i64 (p0_b.last)].toArray 47 (0, 0)) :: .row v1 39 (Rep.sz S_api_AlarmEntry) p0_b.all_.length xs0 :: M) w) :
    Calls Proofs.Try.prog 7 [.pointer (some ⟨b0, 0, none⟩), .string (name), .int .i64 (time)].toArray w (Ret B w0 fun H' M' v => H.le H' ∧ ∃ qv0 : Value, ∃ qv1 : Value, ∃ qxs0 : List Value, .obj b0 (.cells [qv0, qv1, .int .i64 (r.2.last)].toArray 47 (0, 0)) :: .row qv1 39 (Rep.sz S_api_AlarmEntry) r.2.all_.length qxs0 :: M = M' ∧ .int .i64 (r.1) = v ∧ RdS H' qv0 r.2.causes ∧ Rw H' qv1 qxs0 r.2.all_) := by
  unfold m_alarm_Board_Raise at hm
  refine enter Proofs.Try.func7 rfl rfl rfl ht ?_
  refine C_seq ?_
  refine C_region ?_
  refine W_assign rfl rfl rfl ?_
  refine W_end ?_
  refine E_then ?_
  refine C_seq ?_
  refine C_block ?_
  refine C_seq ?_
  refine C_region ?_
  refine W_move rfl rfl rfl ?_
  obtain ⟨r101, hc102, hm⟩ := bind_some hm
  refine W_call Proofs.Try.call18 rfl rfl rfl (fun w ht => by have h := m_netmodel_Name_c (hm := hc102)  ht; exact h) ?_
  rintro _ _ _ ⟨rfl, rfl, rfl⟩
  refine W_un rfl rfl rfl rfl ?_
  refine W_assign rfl rfl rfl ?_
  refine W_end ?_
  refine E_then ?_
  refine C_cond (b := !r101) rfl (fun hb103 => ?_) (fun hb103 => ?_)
  · have hm := ite_t' hb103 hm
    refine C_seq ?_
    refine C_region ?_
    refine W_assign rfl rfl rfl ?_
    refine W_end ?_
    refine E_then ?_
    refine C_ret ?_
    refine E_ret_block ?_
    refine E_ret_then ?_
    obtain rfl := Option.some.inj hm
    exact end1 rfl rfl ⟨(Hp.le_refl _), v0, v1, xs0, rfl, rfl, h0, h1⟩
  · have hm := ite_f' hb103 hm
    refine C_seq_join (fun H' M' L' => H = H' ∧ .obj b0 (.cells [v0, v1, .int .i64 (p0_b.last)].toArray 47 (0, 0)) :: .row v1 39 (Rep.sz S_api_AlarmEntry) p0_b.all_.length xs0 :: M = M' ∧ [(0, .pointer (some ⟨b0, 0, none⟩)), (1, .string (name)), (2, .int .i64 (time)), (11, .bool ((decide (time < p0_b.last)) || (decide (200000 < time))))] = L') ?_ (fun J105 => ?_)
    · rintro _ _ _ ⟨rfl, rfl, rfl⟩
      refine C_cond (b := (decide (time < p0_b.last)) || (decide (200000 < time))) rfl (fun hb106 => ?_) (fun hb106 => ?_)
      · have hm := ite_t' hb106 hm
        refine C_seq ?_
        refine C_region ?_
        refine W_assign rfl rfl rfl ?_
        refine W_end ?_
        refine E_then ?_
        refine C_ret ?_
        refine E_ret_block ?_
        refine E_ret_then ?_
        obtain rfl := Option.some.inj hm
        exact end1 rfl rfl ⟨(Hp.le_refl _), v0, v1, xs0, rfl, rfl, h0, h1⟩
      · have hm := ite_f' hb106 hm
        refine C_seq ?_
        refine C_region ?_
        refine W_move rfl rfl rfl ?_
        refine W_move rfl rfl rfl ?_
        obtain ⟨r107, hc108, hm⟩ := bind_some hm
        refine W_call Proofs.Try.call20 rfl rfl rfl (fun w ht => by have h := m_alarm_Board_index_c (hm := hc108) h0 h1 ht; exact h) ?_
        rintro _ _ _ ⟨rfl, rfl, rfl⟩
        refine W_bin rfl rfl rfl rfl rfl ?_
        refine W_assign rfl rfl rfl ?_
        refine W_end ?_
        refine E_then ?_
        refine C_cond (b := decide (0 ≤ r107)) rfl (fun hb109 => ?_) (fun hb109 => ?_)
        · have hm := ite_t' hb109 hm
          refine C_seq ?_
          refine C_region ?_
          refine W_assign rfl rfl rfl ?_
          refine W_end ?_
          refine E_then ?_
          refine C_ret ?_
          refine E_ret_block ?_
          refine E_ret_then ?_
          obtain rfl := Option.some.inj hm
          exact end1 rfl rfl ⟨(Hp.le_refl _), v0, v1, xs0, rfl, rfl, h0, h1⟩
        · have hm := ite_f' hb109 hm
          refine C_seq ?_
          refine C_region ?_
          refine W_move rfl rfl rfl ?_
          refine W_nilCheck rfl rfl rfl ?_
          refine W_field (o := 1) rfl rfl Proofs.Try.runUnderlying47 rfl Proofs.Try.sizeOf36 rfl rfl rfl ?_
          refine W_load rfl rfl Proofs.Try.isAgg36 rfl (own_at (List.mem_cons_self ..) rfl) ?_
          refine W_lenO (List.mem_cons_of_mem _ (List.mem_cons_self ..)) rfl rfl Proofs.Try.runUnderlying36 rfl ?_
          refine W_bin rfl rfl rfl rfl rfl ?_
          refine W_assign rfl rfl rfl ?_
          refine W_end ?_
          refine E_then ?_
          refine C_cond (b := decide ((p0_b.all_.length : Int) = 24)) rfl (fun hb110 => ?_) (fun hb110 => ?_)
          · have hm := ite_t' hb110 hm
            refine C_seq ?_
            refine C_region ?_
            refine W_assign rfl rfl rfl ?_
            refine W_end ?_
            refine E_then ?_
            refine C_ret ?_
            refine E_ret_block ?_
            refine E_ret_then ?_
            obtain rfl := Option.some.inj hm
            exact end1 rfl rfl ⟨(Hp.le_refl _), v0, v1, xs0, rfl, rfl, h0, h1⟩
          · have hm := ite_f' hb110 hm
            refine C_skip ?_
            refine E_normal_block ?_
            refine E_then ?_
            refine C_seq ?_
            refine C_region ?_
            refine W_move rfl rfl rfl ?_
            refine W_move rfl rfl rfl ?_
            refine W_nilCheck rfl rfl rfl ?_
            refine W_field (o := 2) rfl rfl Proofs.Try.runUnderlying47 rfl Proofs.Try.sizeOf3 rfl rfl rfl ?_
            refine W_store (cs := [.int .i64 (time)]) (out := [v0, v1, .int .i64 (time)]) rfl Proofs.Try.sizeOf3 rfl rfl rfl rfl rfl (all_cons rfl all_nil) rfl ?_
            refine W_end ?_
            refine E_then ?_
            refine C_seq ?_
            refine C_region ?_
            refine W_move rfl rfl rfl ?_
            refine W_move rfl rfl rfl ?_
            refine W_nilCheck rfl rfl rfl ?_
            refine W_field (o := 1) rfl rfl Proofs.Try.runUnderlying47 rfl Proofs.Try.sizeOf36 rfl rfl rfl ?_
            refine W_load rfl rfl Proofs.Try.isAgg36 rfl (own_at (List.mem_cons_self ..) rfl) ?_
            refine W_move rfl rfl rfl ?_
            refine W_move rfl rfl rfl ?_
            refine W_build (css := [[.string (name)], [.int .i64 (time)]]) (zs := [.string (⟨#[]⟩), .int .i64 (0), .bool (false)]) (out := [.string (name), .int .i64 (time), .bool (false)]) (places := [(0, 1), (1, 1), (2, 1)]) rfl rfl rfl ⟨rfl, rfl, trivial⟩ Proofs.Try.zeroValue39 rfl Proofs.Try.runUnderlying39 (fun w => by kernel_rfl) rfl ?_
            refine W_buildSlice (α := S_api_AlarmEntry) (css := [[.string (name), .int .i64 (time), .bool (false)]]) (zs := [.string (⟨#[]⟩), .int .i64 (0), .bool (false)]) (out := [.string (name), .int .i64 (time), .bool (false)]) (ys := [(S_api_AlarmEntry.mk name time false)]) rfl rfl rfl ⟨rfl, trivial⟩ Proofs.Try.runUnderlying36 Proofs.Try.sizeOf39 rfl Proofs.Try.zeroValue39 (by kernel_rfl) rfl rfl rfl rfl ⟨[.string (name), .int .i64 (time), .bool (false)], [], rfl, rfl, rfl⟩ rfl ?_
            intro b111 v112 H113 hv114 hle115 h116
            have hc117 : Value.cap' v112 = ([(S_api_AlarmEntry.mk name time false)]).length := by rw [hv114]; rfl
            obtain ⟨hz118, hm⟩ := need_some hm
            refine W_perm (List.Perm.swap _ _ _) ?_
            refine W_appendO (α := S_api_AlarmEntry) (l := p0_b.all_) (ys := [(S_api_AlarmEntry.mk name time false)]) rfl rfl Proofs.Try.underlying36 ⟨_, rfl, rfl, rfl, rfl⟩ rfl rfl rfl rfl rfl (h1.mono hle115) h116 hz118 ?_
            intro v119 xs120 hr121
            refine W_nilCheck rfl rfl rfl ?_
            refine W_field (o := 1) rfl rfl Proofs.Try.runUnderlying47 rfl Proofs.Try.sizeOf36 rfl rfl rfl ?_
            refine W_perm (List.Perm.swap _ _ _) ?_
            refine W_store (cs := [v119]) (out := [v0, v119, .int .i64 (time)]) rfl Proofs.Try.sizeOf36 rfl rfl (Rw.cells hr121) rfl rfl (all_cons (Rw.one hr121) all_nil) rfl ?_
            refine W_end ?_
            refine E_then ?_
            refine C_seq ?_
            refine C_region ?_
            refine W_assign rfl rfl rfl ?_
            refine W_end ?_
            refine E_then ?_
            refine C_ret ?_
            obtain rfl := Option.some.inj hm
            exact end1 rfl rfl ⟨hle115, v0, v119, xs120, rfl, rfl, (h0.mono hle115), hr121⟩
    · refine C_region ?_
      refine W_move rfl rfl rfl ?_
      refine W_move rfl rfl rfl ?_
      refine W_nilCheck rfl rfl rfl ?_
      refine W_field (o := 2) rfl rfl Proofs.Try.runUnderlying47 rfl Proofs.Try.sizeOf3 rfl rfl rfl ?_
      refine W_load rfl rfl Proofs.Try.isAgg3 rfl (own_at (List.mem_cons_self ..) rfl) ?_
      refine W_bin rfl rfl rfl rfl rfl ?_
      refine W_move rfl rfl rfl ?_
      cases hb122 : (decide (time < p0_b.last))
      · refine W_move rfl rfl rfl ?_
        refine W_bin rfl rfl rfl rfl rfl ?_
        refine W_pick rfl rfl rfl rfl ?_
        refine W_assign rfl rfl rfl ?_
        refine W_end ?_
        exact E_keepJ (J105 _ _ _ ⟨rfl, rfl, rfl⟩) (List.Perm.refl _) ⟨rfl, rfl, rfl, (by show some (Value.bool (decide (200000 < time))) = some (Value.bool ((decide (time < p0_b.last)) || (decide (200000 < time)))); simp only [hb103, hb122, Bool.and_true, Bool.true_and, Bool.false_and, Bool.and_false, Bool.or_true, Bool.true_or, Bool.or_false, Bool.false_or, Bool.not_true, Bool.not_false]), trivial⟩
      · refine W_no rfl rfl rfl ?_
        refine W_no rfl rfl rfl ?_
        refine W_pick rfl rfl rfl rfl ?_
        refine W_assign rfl rfl rfl ?_
        refine W_end ?_
        exact E_keepJ (J105 _ _ _ ⟨rfl, rfl, rfl⟩) (List.Perm.refl _) ⟨rfl, rfl, rfl, (by show some (Value.bool (true)) = some (Value.bool ((decide (time < p0_b.last)) || (decide (200000 < time)))); simp only [hb103, hb122, Bool.and_true, Bool.true_and, Bool.false_and, Bool.and_false, Bool.or_true, Bool.true_or, Bool.or_false, Bool.false_or, Bool.not_true, Bool.not_false]), trivial⟩

theorem m_alarm_Board_Ack_c {B : Nat} {w0 w : World} {H : Hp} {M : List Res} {p0_b : S_alarm_Board} {name : ByteArray} {b0 : Nat} {v0 : Value} {v1 : Value} {xs0 : List Value} {r : Int × S_alarm_Board} (hm : m_alarm_Board_Ack p0_b name = some r) (h0 : RdS H v0 p0_b.causes) (h1 : Rw H v1 xs0 p0_b.all_) (ht : St B w0 H (.obj b0 (.cells [v0, v1, .int .i64 (p0_b.last)].toArray 47 (0, 0)) :: .row v1 39 (Rep.sz S_api_AlarmEntry) p0_b.all_.length xs0 :: M) w) :
    Calls Proofs.Try.prog 9 [.pointer (some ⟨b0, 0, none⟩), .string (name)].toArray w (Ret B w0 fun H' M' v => H.le H' ∧ ∃ qv0 : Value, ∃ qv1 : Value, ∃ qxs0 : List Value, .obj b0 (.cells [qv0, qv1, .int .i64 (r.2.last)].toArray 47 (0, 0)) :: .row qv1 39 (Rep.sz S_api_AlarmEntry) r.2.all_.length qxs0 :: M = M' ∧ .int .i64 (r.1) = v ∧ RdS H' qv0 r.2.causes ∧ Rw H' qv1 qxs0 r.2.all_) := by
  unfold m_alarm_Board_Ack at hm
  refine enter Proofs.Try.func9 rfl rfl rfl ht ?_
  refine C_seq ?_
  refine C_region ?_
  refine W_assign rfl rfl rfl ?_
  refine W_end ?_
  refine E_then ?_
  refine C_seq ?_
  refine C_region ?_
  refine W_move rfl rfl rfl ?_
  refine W_move rfl rfl rfl ?_
  obtain ⟨r101, hc102, hm⟩ := bind_some hm
  refine W_call Proofs.Try.call20 rfl rfl rfl (fun w ht => by have h := m_alarm_Board_index_c (hm := hc102) h0 h1 ht; exact h) ?_
  rintro _ _ _ ⟨rfl, rfl, rfl⟩
  refine W_assign rfl rfl rfl ?_
  refine W_end ?_
  refine E_then ?_
  refine C_seq ?_
  refine C_block ?_
  refine C_seq ?_
  refine C_region ?_
  refine W_move rfl rfl rfl ?_
  refine W_bin rfl rfl rfl rfl rfl ?_
  refine W_assign rfl rfl rfl ?_
  refine W_end ?_
  refine E_then ?_
  refine C_cond (b := decide (r101 < 0)) rfl (fun hb103 => ?_) (fun hb103 => ?_)
  · have hm := ite_t' hb103 hm
    refine C_seq ?_
    refine C_region ?_
    refine W_assign rfl rfl rfl ?_
    refine W_end ?_
    refine E_then ?_
    refine C_ret ?_
    refine E_ret_block ?_
    refine E_ret_then ?_
    obtain rfl := Option.some.inj hm
    exact end1 rfl rfl ⟨(Hp.le_refl _), v0, v1, xs0, rfl, rfl, h0, h1⟩
  · have hm := ite_f' hb103 hm
    refine C_seq ?_
    refine C_region ?_
    refine W_move rfl rfl rfl ?_
    refine W_nilCheck rfl rfl rfl ?_
    refine W_field (o := 1) rfl rfl Proofs.Try.runUnderlying47 rfl Proofs.Try.sizeOf36 rfl rfl rfl ?_
    refine W_load rfl rfl Proofs.Try.isAgg36 rfl (own_at (List.mem_cons_self ..) rfl) ?_
    refine W_move rfl rfl rfl ?_
    obtain ⟨y104, h105, he106, hm⟩ := idx_some hm
    refine W_indexO (List.mem_cons_of_mem _ (List.mem_cons_self ..)) rfl rfl Proofs.Try.runUnderlying36 Proofs.Try.sizeOf39 rfl rfl h105 (List.getElem?_eq_some_iff.1 he106).1 ?_
    obtain ⟨_, rfl, hg107⟩ := (h1).elem he106
    refine W_field (o := 2) rfl rfl Proofs.Try.runUnderlying39 rfl Proofs.Try.sizeOf4 rfl rfl rfl ?_
    refine W_load rfl rfl Proofs.Try.isAgg4 rfl (row_one (o := 2) (List.mem_cons_of_mem _ (List.mem_cons_self ..)) hg107 rfl) ?_
    refine W_assign rfl rfl rfl ?_
    refine W_end ?_
    refine E_then ?_
    refine C_cond (b := y104.Acked) rfl (fun hb108 => ?_) (fun hb108 => ?_)
    · have hm := ite_t' hb108 hm
      refine C_seq ?_
      refine C_region ?_
      refine W_assign rfl rfl rfl ?_
      refine W_end ?_
      refine E_then ?_
      refine C_ret ?_
      refine E_ret_block ?_
      refine E_ret_then ?_
      obtain rfl := Option.some.inj hm
      exact end1 rfl rfl ⟨(Hp.le_refl _), v0, v1, xs0, rfl, rfl, h0, h1⟩
    · have hm := ite_f' hb108 hm
      refine C_skip ?_
      refine E_normal_block ?_
      refine E_then ?_
      refine C_seq ?_
      refine C_region ?_
      refine W_move rfl rfl rfl ?_
      refine W_nilCheck rfl rfl rfl ?_
      refine W_field (o := 1) rfl rfl Proofs.Try.runUnderlying47 rfl Proofs.Try.sizeOf36 rfl rfl rfl ?_
      refine W_load rfl rfl Proofs.Try.isAgg36 rfl (own_at (List.mem_cons_self ..) rfl) ?_
      refine W_move rfl rfl rfl ?_
      obtain ⟨y109, h110, he111, hm⟩ := idx_some hm
      refine W_indexO (List.mem_cons_of_mem _ (List.mem_cons_self ..)) rfl rfl Proofs.Try.runUnderlying36 Proofs.Try.sizeOf39 rfl rfl h110 (List.getElem?_eq_some_iff.1 he111).1 ?_
      obtain ⟨_, rfl, hg112⟩ := (h1).elem he111
      refine W_field (o := 2) rfl rfl Proofs.Try.runUnderlying39 rfl Proofs.Try.sizeOf4 rfl rfl rfl ?_
      refine W_perm (List.Perm.swap _ _ _) ?_
      obtain ⟨hr113, he114, hg115⟩ := Rw.put (cs := [.bool (true)]) (o := 2) (c := [.string (y109.Name), .int .i64 (y109.Time), .bool (y109.Acked)]) (out := [.string (y109.Name), .int .i64 (y109.Time), .bool (true)]) (e2 := (S_api_AlarmEntry.mk y109.Name y109.Time true)) h1 he111 rfl hg112 rfl rfl rfl
      refine W_storeO2 (i := (r101 : Int).toNat * Rep.sz S_api_AlarmEntry + 2) (cs := [.bool (true)]) rfl Proofs.Try.sizeOf4 rfl (row_ad _ _ _) rfl rfl rfl (Rw.room h1 he111 rfl) rfl (all_cons rfl all_nil) (n' := (p0_b.all_.set ((r101 : Int).toNat) (S_api_AlarmEntry.mk y109.Name y109.Time true)).length) List.length_set ?_
      generalize over xs0 ((r101 : Int).toNat * Rep.sz S_api_AlarmEntry + 2) [.bool (true)] = xs116 at hr113 hg115 ⊢
      refine W_end ?_
      refine E_then ?_
      refine C_seq ?_
      refine C_region ?_
      refine W_assign rfl rfl rfl ?_
      refine W_end ?_
      refine E_then ?_
      refine C_ret ?_
      obtain rfl := Option.some.inj hm
      refine E_perm (List.Perm.swap _ _ _) ?_
      exact end1 rfl rfl ⟨(Hp.le_refl _), v0, v1, xs116, rfl, rfl, h0, hr113⟩

theorem delete21_c {B : Nat} {w0 w : World} {H : Hp} {M : List Res} {l : List S_api_AlarmEntry} {v0 : Value} {xs : List Value} {i j : Int} (h0 : Rw H v0 xs l) (hz : 0 ≤ i ∧ i < j ∧ j ≤ (l.length : Int)) (ht : St B w0 H (.row v0 39 (Rep.sz S_api_AlarmEntry) l.length xs :: M) w) :
    Calls Proofs.Try.prog 21 [v0, .int .i64 i, .int .i64 j].toArray w (Ret B w0 fun H' M' v => H = H' ∧ ∃ (v' : Value) (xs' : List Value), .row v' 39 (Rep.sz S_api_AlarmEntry) (l.take i.toNat ++ l.drop j.toNat).length xs' :: M = M' ∧ v' = v ∧ RwF v' xs' (l.take i.toNat ++ l.drop j.toNat)) := by
  obtain ⟨i, rfl⟩ : ∃ m : Nat, i = m := ⟨i.toNat, by omega⟩
  obtain ⟨j, rfl⟩ : ∃ m : Nat, j = m := ⟨j.toNat, by omega⟩
  have hij : i < j := by omega
  have hj : j ≤ l.length := by omega
  rw [Int.toNat_natCast, Int.toNat_natCast]
  refine enter Proofs.Try.func21 rfl rfl rfl ht ?_
  refine C_rowSome (by omega) (fun gb off cap hv hcap => ?_)
  subst hv
  refine C_seq ?_
  refine C_region ?_
  refine W_assign rfl rfl rfl ?_
  refine W_end (E_then ?_)
  refine C_seq ?_
  refine C_region ?_
  refine W_move rfl rfl rfl ?_
  refine W_move rfl rfl rfl ?_
  refine W_move rfl rfl rfl ?_
  refine W_move rfl rfl rfl ?_
  refine W_lenS rfl rfl Proofs.Try.runUnderlying36 rfl ?_
  refine W_sliceV (m := l.length) (h := j) (l := i) rfl rfl Proofs.Try.runUnderlying36 Proofs.Try.sizeOf39 rfl (.inr ⟨_, rfl⟩) (.inr ⟨_, _, _, rfl, rfl, by omega, by omega, by omega⟩) (.inr ⟨_, _, _, rfl, rfl, by omega, by omega, by omega⟩) (.inr ⟨_, _, _, rfl, rfl, by omega, by omega, by omega⟩) rfl ?_
  refine W_end (E_then ?_)
  refine C_seq ?_
  refine C_seq ?_
  refine C_region ?_
  refine W_move rfl rfl rfl ?_
  refine W_move rfl rfl rfl ?_
  refine W_bin rfl rfl rfl rfl rfl ?_
  refine W_end (E_then ?_)
  refine C_cond (b := decide ((i : Int) = (j : Int))) rfl (fun hb => absurd (of_decide_eq_true hb) (by omega)) (fun _ => ?_)
  refine C_skip (E_then ?_)
  refine C_seq ?_
  refine C_region ?_
  refine W_move rfl rfl rfl ?_
  refine W_lenS rfl rfl Proofs.Try.runUnderlying36 rfl ?_
  refine W_assign rfl rfl rfl ?_
  refine W_end (E_then ?_)
  refine C_seq ?_
  refine C_region_tok0 6 (phiT [(fun H rs v => [] = rs ∧ .slice (some ⟨gb, off, none⟩) l.length cap = v), (fun H rs v => [] = rs ∧ .int .i64 (i : Int) = v), (fun H rs v => [] = rs ∧ .slice (some ⟨gb, off, none⟩) i cap = v), (fun H rs v => [] = rs ∧ .slice (some ⟨gb, off, none⟩) l.length cap = v), (fun H rs v => [] = rs ∧ .int .i64 (j : Int) = v), (fun H rs v => [] = rs ∧ .slice (some (if cap = j then ⟨gb, off, none⟩ else ⟨gb, off + j * Rep.sz S_api_AlarmEntry, none⟩)) (l.length - j) (cap - j) = v)]) [[], [], [], [], [], []] [[], [], [], [], [], []] [] [0, 1, 2, 3, 4, 5] Facts.mixed (by kernel_rfl) rfl rfl rfl (by kernel_rfl) (phiT_mono ⟨eq_monoT _ _, eq_monoT _ _, eq_monoT _ _, eq_monoT _ _, eq_monoT _ _, eq_monoT _ _, trivial⟩) ⟨?_, ?_, ?_, ?_, ?_, ?_, trivial⟩ ?_
  · intro HX hX X Rest hR
    intro hU
    refine W_move rfl rfl rfl ?_
    exact W_end (OneT_end [] (Hp.le_refl _) ⟨rfl, rfl⟩)
  · intro HX hX X Rest hR
    intro hU
    refine W_move rfl rfl rfl ?_
    exact W_end (OneT_end [] (Hp.le_refl _) ⟨rfl, rfl⟩)
  · intro HX hX X Rest hR
    rintro _ _ ⟨rfl, rfl⟩
    rintro _ _ ⟨rfl, rfl⟩
    intro hU
    refine W_sliceV (m := cap) (h := i) (l := 0) rfl rfl Proofs.Try.runUnderlying36 Proofs.Try.sizeOf39 rfl (.inl rfl) (.inl ⟨rfl, rfl⟩) (.inr ⟨_, _, _, rfl, rfl, by omega, by omega, by omega⟩) (.inl ⟨rfl, rfl⟩) (by rw [if_neg (by omega), Nat.sub_zero, Nat.sub_zero, Option.map_some, Addr.add_lit, Nat.zero_mul, Nat.add_zero]) ?_
    exact W_end (OneT_end [] (Hp.le_refl _) ⟨rfl, rfl⟩)
  · intro HX hX X Rest hR
    intro hU
    refine W_move rfl rfl rfl ?_
    exact W_end (OneT_end [] (Hp.le_refl _) ⟨rfl, rfl⟩)
  · intro HX hX X Rest hR
    intro hU
    refine W_move rfl rfl rfl ?_
    exact W_end (OneT_end [] (Hp.le_refl _) ⟨rfl, rfl⟩)
  · intro HX hX X Rest hR
    rintro _ _ ⟨rfl, rfl⟩
    rintro _ _ ⟨rfl, rfl⟩
    intro hU
    refine W_sliceV (m := cap) (h := l.length) (l := j) rfl rfl Proofs.Try.runUnderlying36 Proofs.Try.sizeOf39 rfl (.inl rfl) (.inl ⟨rfl, rfl⟩) (.inl ⟨rfl, rfl⟩) (.inr ⟨_, _, _, rfl, rfl, by omega, by omega, by omega⟩) (v' := .slice (some (if cap = j then ⟨gb, off, none⟩ else ⟨gb, off + j * Rep.sz S_api_AlarmEntry, none⟩)) (l.length - j) (cap - j)) (by
      by_cases h : cap = j
      · rw [if_pos h, if_pos h]
      · rw [if_neg h, if_neg h, Option.map_some, Addr.add_lit] <;> rfl) ?_
    exact W_end (OneT_end [] (Hp.le_refl _) ⟨rfl, rfl⟩)
  intro H1 hle1
  rintro _ _ ⟨rfl, rfl⟩
  rintro _ _ ⟨rfl, rfl⟩
  rintro _ _ ⟨rfl, rfl⟩
  rintro _ _ ⟨rfl, rfl⟩
  rintro _ _ ⟨rfl, rfl⟩
  rintro _ _ ⟨rfl, rfl⟩
  refine W_appendDel (α := S_api_AlarmEntry) (l := l) (i := i) (j := j) (bytes := 32) rfl rfl Proofs.Try.underlying36 ⟨_, rfl, rfl, rfl, rfl⟩ rfl rfl h0 hij hj rfl rfl (fun h => if_neg (by omega)) ?_
  intro gb2 off2 xs2 h2 hcap2
  have hln : (l.take i ++ l.drop j).length = i + (l.length - j) := by simp; omega
  refine W_assign rfl rfl rfl ?_
  refine W_end (E_then ?_)
  refine C_seq ?_
  refine C_region ?_
  refine W_move rfl rfl rfl ?_
  refine W_move rfl rfl rfl ?_
  refine W_lenS rfl rfl Proofs.Try.runUnderlying36 rfl ?_
  refine W_move rfl rfl rfl ?_
  refine W_sliceV (m := cap) (h := l.length) (l := (l.take i ++ l.drop j).length) rfl rfl Proofs.Try.runUnderlying36 Proofs.Try.sizeOf39 rfl (.inl rfl) (.inl ⟨rfl, rfl⟩) (.inr ⟨_, _, _, rfl, rfl, by omega, by omega, by omega⟩) (.inr ⟨_, _, _, rfl, rfl, by omega, by omega, by omega⟩) (by rw [if_neg (by omega), Option.map_some, Addr.add_lit]) ?_
  refine W_clearTail (sz := Rep.sz S_api_AlarmEntry) (n2 := l.length - (l.take i ++ l.drop j).length) rfl Proofs.Try.underlying36 Proofs.Try.zeroValue39 rfl rfl rfl rfl rfl (by omega) ?_
  refine W_end (E_then ?_)
  refine C_seq ?_
  refine C_region ?_
  refine W_move rfl rfl rfl ?_
  refine W_assign rfl rfl rfl ?_
  refine W_end (E_then ?_)
  refine C_ret ?_
  refine E_weak hle1 ?_
  exact end1 rfl rfl ⟨rfl, _, xs2, rfl, rfl, h2.toF⟩

theorem m_alarm_Board_Clear_c {B : Nat} {w0 w : World} {H : Hp} {M : List Res} {p0_b : S_alarm_Board} {name : ByteArray} {b0 : Nat} {v0 : Value} {v1 : Value} {xs0 : List Value} {r : Int × S_alarm_Board} (hm : m_alarm_Board_Clear p0_b name = some r) (h0 : RdS H v0 p0_b.causes) (h1 : Rw H v1 xs0 p0_b.all_) (ht : St B w0 H (.obj b0 (.cells [v0, v1, .int .i64 (p0_b.last)].toArray 47 (0, 0)) :: .row v1 39 (Rep.sz S_api_AlarmEntry) p0_b.all_.length xs0 :: M) w) :
    Calls Proofs.Try.prog 10 [.pointer (some ⟨b0, 0, none⟩), .string (name)].toArray w (Ret B w0 fun H' M' v => H.le H' ∧ ∃ qv0 : Value, ∃ qv1 : Value, ∃ qxs0 : List Value, .obj b0 (.cells [qv0, qv1, .int .i64 (r.2.last)].toArray 47 (0, 0)) :: .row qv1 39 (Rep.sz S_api_AlarmEntry) r.2.all_.length qxs0 :: M = M' ∧ .int .i64 (r.1) = v ∧ RdS H' qv0 r.2.causes ∧ Rw H' qv1 qxs0 r.2.all_) := by
  unfold m_alarm_Board_Clear at hm
  refine enter Proofs.Try.func10 rfl rfl rfl ht ?_
  refine C_seq ?_
  refine C_region ?_
  refine W_assign rfl rfl rfl ?_
  refine W_end ?_
  refine E_then ?_
  refine C_seq ?_
  refine C_region ?_
  refine W_move rfl rfl rfl ?_
  refine W_move rfl rfl rfl ?_
  obtain ⟨r101, hc102, hm⟩ := bind_some hm
  refine W_call Proofs.Try.call20 rfl rfl rfl (fun w ht => by have h := m_alarm_Board_index_c (hm := hc102) h0 h1 ht; exact h) ?_
  rintro _ _ _ ⟨rfl, rfl, rfl⟩
  refine W_assign rfl rfl rfl ?_
  refine W_end ?_
  refine E_then ?_
  refine C_seq ?_
  refine C_seq ?_
  refine C_region ?_
  refine W_move rfl rfl rfl ?_
  refine W_bin rfl rfl rfl rfl rfl ?_
  refine W_end ?_
  refine E_then ?_
  refine C_cond (b := decide (r101 < 0)) rfl (fun hb103 => ?_) (fun hb103 => ?_)
  · have hm := ite_t' hb103 hm
    refine C_seq ?_
    refine C_region ?_
    refine W_assign rfl rfl rfl ?_
    refine W_end ?_
    refine E_then ?_
    refine C_ret ?_
    refine E_ret_then ?_
    obtain rfl := Option.some.inj hm
    exact end1 rfl rfl ⟨(Hp.le_refl _), v0, v1, xs0, rfl, rfl, h0, h1⟩
  · have hm := ite_f' hb103 hm
    refine C_skip ?_
    refine E_then ?_
    refine C_seq ?_
    refine C_region ?_
    refine W_move rfl rfl rfl ?_
    refine W_move rfl rfl rfl ?_
    refine W_nilCheck rfl rfl rfl ?_
    refine W_field (o := 1) rfl rfl Proofs.Try.runUnderlying47 rfl Proofs.Try.sizeOf36 rfl rfl rfl ?_
    refine W_load rfl rfl Proofs.Try.isAgg36 rfl (own_at (List.mem_cons_self ..) rfl) ?_
    refine W_move rfl rfl rfl ?_
    refine W_move rfl rfl rfl ?_
    refine W_bin rfl rfl rfl rfl rfl ?_
    obtain ⟨hz104, hm⟩ := need_some hm
    refine W_perm (List.Perm.swap _ _ _) ?_
    refine W_call Proofs.Try.call21 rfl rfl rfl (fun w ht => by have h := delete21_c h1 hz104 ht; exact h) ?_
    rintro _ _ _ ⟨rfl, v105, xs106, rfl, rfl, hr107⟩
    have hr107 := hr107 H
    refine W_nilCheck rfl rfl rfl ?_
    refine W_field (o := 1) rfl rfl Proofs.Try.runUnderlying47 rfl Proofs.Try.sizeOf36 rfl rfl rfl ?_
    refine W_perm (List.Perm.swap _ _ _) ?_
    refine W_store (cs := [v105]) (out := [v0, v105, .int .i64 (p0_b.last)]) rfl Proofs.Try.sizeOf36 rfl rfl (Rw.cells hr107) rfl rfl (all_cons (Rw.one hr107) all_nil) rfl ?_
    refine W_end ?_
    refine E_then ?_
    refine C_seq ?_
    refine C_region ?_
    refine W_assign rfl rfl rfl ?_
    refine W_end ?_
    refine E_then ?_
    refine C_ret ?_
    obtain rfl := Option.some.inj hm
    exact end1 rfl rfl ⟨(Hp.le_refl _), v0, v105, xs106, rfl, rfl, h0, hr107⟩

theorem delete11_c {B : Nat} {w0 w : World} {H : Hp} {M : List Res} {l : List ByteArray} {v0 : Value} {xs : List Value} {i j : Int} (h0 : Rw H v0 xs l) (hz : 0 ≤ i ∧ i < j ∧ j ≤ (l.length : Int)) (ht : St B w0 H (.row v0 9 (Rep.sz ByteArray) l.length xs :: M) w) :
    Calls Proofs.Try.prog 11 [v0, .int .i64 i, .int .i64 j].toArray w (Ret B w0 fun H' M' v => H = H' ∧ ∃ (v' : Value) (xs' : List Value), .row v' 9 (Rep.sz ByteArray) (l.take i.toNat ++ l.drop j.toNat).length xs' :: M = M' ∧ v' = v ∧ RwF v' xs' (l.take i.toNat ++ l.drop j.toNat)) := by
  obtain ⟨i, rfl⟩ : ∃ m : Nat, i = m := ⟨i.toNat, by omega⟩
  obtain ⟨j, rfl⟩ : ∃ m : Nat, j = m := ⟨j.toNat, by omega⟩
  have hij : i < j := by omega
  have hj : j ≤ l.length := by omega
  rw [Int.toNat_natCast, Int.toNat_natCast]
  refine enter Proofs.Try.func11 rfl rfl rfl ht ?_
  refine C_rowSome (by omega) (fun gb off cap hv hcap => ?_)
  subst hv
  refine C_seq ?_
  refine C_region ?_
  refine W_assign rfl rfl rfl ?_
  refine W_end (E_then ?_)
  refine C_seq ?_
  refine C_region ?_
  refine W_move rfl rfl rfl ?_
  refine W_move rfl rfl rfl ?_
  refine W_move rfl rfl rfl ?_
  refine W_move rfl rfl rfl ?_
  refine W_lenS rfl rfl Proofs.Try.runUnderlying23 rfl ?_
  refine W_sliceV (m := l.length) (h := j) (l := i) rfl rfl Proofs.Try.runUnderlying23 Proofs.Try.sizeOf9 rfl (.inr ⟨_, rfl⟩) (.inr ⟨_, _, _, rfl, rfl, by omega, by omega, by omega⟩) (.inr ⟨_, _, _, rfl, rfl, by omega, by omega, by omega⟩) (.inr ⟨_, _, _, rfl, rfl, by omega, by omega, by omega⟩) rfl ?_
  refine W_end (E_then ?_)
  refine C_seq ?_
  refine C_seq ?_
  refine C_region ?_
  refine W_move rfl rfl rfl ?_
  refine W_move rfl rfl rfl ?_
  refine W_bin rfl rfl rfl rfl rfl ?_
  refine W_end (E_then ?_)
  refine C_cond (b := decide ((i : Int) = (j : Int))) rfl (fun hb => absurd (of_decide_eq_true hb) (by omega)) (fun _ => ?_)
  refine C_skip (E_then ?_)
  refine C_seq ?_
  refine C_region ?_
  refine W_move rfl rfl rfl ?_
  refine W_lenS rfl rfl Proofs.Try.runUnderlying23 rfl ?_
  refine W_assign rfl rfl rfl ?_
  refine W_end (E_then ?_)
  refine C_seq ?_
  refine C_region_tok0 6 (phiT [(fun H rs v => [] = rs ∧ .slice (some ⟨gb, off, none⟩) l.length cap = v), (fun H rs v => [] = rs ∧ .int .i64 (i : Int) = v), (fun H rs v => [] = rs ∧ .slice (some ⟨gb, off, none⟩) i cap = v), (fun H rs v => [] = rs ∧ .slice (some ⟨gb, off, none⟩) l.length cap = v), (fun H rs v => [] = rs ∧ .int .i64 (j : Int) = v), (fun H rs v => [] = rs ∧ .slice (some (if cap = j then ⟨gb, off, none⟩ else ⟨gb, off + j * Rep.sz ByteArray, none⟩)) (l.length - j) (cap - j) = v)]) [[], [], [], [], [], []] [[], [], [], [], [], []] [] [0, 1, 2, 3, 4, 5] Facts.mixed (by kernel_rfl) rfl rfl rfl (by kernel_rfl) (phiT_mono ⟨eq_monoT _ _, eq_monoT _ _, eq_monoT _ _, eq_monoT _ _, eq_monoT _ _, eq_monoT _ _, trivial⟩) ⟨?_, ?_, ?_, ?_, ?_, ?_, trivial⟩ ?_
  · intro HX hX X Rest hR
    intro hU
    refine W_move rfl rfl rfl ?_
    exact W_end (OneT_end [] (Hp.le_refl _) ⟨rfl, rfl⟩)
  · intro HX hX X Rest hR
    intro hU
    refine W_move rfl rfl rfl ?_
    exact W_end (OneT_end [] (Hp.le_refl _) ⟨rfl, rfl⟩)
  · intro HX hX X Rest hR
    rintro _ _ ⟨rfl, rfl⟩
    rintro _ _ ⟨rfl, rfl⟩
    intro hU
    refine W_sliceV (m := cap) (h := i) (l := 0) rfl rfl Proofs.Try.runUnderlying23 Proofs.Try.sizeOf9 rfl (.inl rfl) (.inl ⟨rfl, rfl⟩) (.inr ⟨_, _, _, rfl, rfl, by omega, by omega, by omega⟩) (.inl ⟨rfl, rfl⟩) (by rw [if_neg (by omega), Nat.sub_zero, Nat.sub_zero, Option.map_some, Addr.add_lit, Nat.zero_mul, Nat.add_zero]) ?_
    exact W_end (OneT_end [] (Hp.le_refl _) ⟨rfl, rfl⟩)
  · intro HX hX X Rest hR
    intro hU
    refine W_move rfl rfl rfl ?_
    exact W_end (OneT_end [] (Hp.le_refl _) ⟨rfl, rfl⟩)
  · intro HX hX X Rest hR
    intro hU
    refine W_move rfl rfl rfl ?_
    exact W_end (OneT_end [] (Hp.le_refl _) ⟨rfl, rfl⟩)
  · intro HX hX X Rest hR
    rintro _ _ ⟨rfl, rfl⟩
    rintro _ _ ⟨rfl, rfl⟩
    intro hU
    refine W_sliceV (m := cap) (h := l.length) (l := j) rfl rfl Proofs.Try.runUnderlying23 Proofs.Try.sizeOf9 rfl (.inl rfl) (.inl ⟨rfl, rfl⟩) (.inl ⟨rfl, rfl⟩) (.inr ⟨_, _, _, rfl, rfl, by omega, by omega, by omega⟩) (v' := .slice (some (if cap = j then ⟨gb, off, none⟩ else ⟨gb, off + j * Rep.sz ByteArray, none⟩)) (l.length - j) (cap - j)) (by
      by_cases h : cap = j
      · rw [if_pos h, if_pos h]
      · rw [if_neg h, if_neg h, Option.map_some, Addr.add_lit] <;> rfl) ?_
    exact W_end (OneT_end [] (Hp.le_refl _) ⟨rfl, rfl⟩)
  intro H1 hle1
  rintro _ _ ⟨rfl, rfl⟩
  rintro _ _ ⟨rfl, rfl⟩
  rintro _ _ ⟨rfl, rfl⟩
  rintro _ _ ⟨rfl, rfl⟩
  rintro _ _ ⟨rfl, rfl⟩
  rintro _ _ ⟨rfl, rfl⟩
  refine W_appendDel (α := ByteArray) (l := l) (i := i) (j := j) (bytes := 16) rfl rfl Proofs.Try.underlying23 ⟨_, rfl, rfl, rfl, rfl⟩ rfl rfl h0 hij hj rfl rfl (fun h => if_neg (by omega)) ?_
  intro gb2 off2 xs2 h2 hcap2
  have hln : (l.take i ++ l.drop j).length = i + (l.length - j) := by simp; omega
  refine W_assign rfl rfl rfl ?_
  refine W_end (E_then ?_)
  refine C_seq ?_
  refine C_region ?_
  refine W_move rfl rfl rfl ?_
  refine W_move rfl rfl rfl ?_
  refine W_lenS rfl rfl Proofs.Try.runUnderlying23 rfl ?_
  refine W_move rfl rfl rfl ?_
  refine W_sliceV (m := cap) (h := l.length) (l := (l.take i ++ l.drop j).length) rfl rfl Proofs.Try.runUnderlying23 Proofs.Try.sizeOf9 rfl (.inl rfl) (.inl ⟨rfl, rfl⟩) (.inr ⟨_, _, _, rfl, rfl, by omega, by omega, by omega⟩) (.inr ⟨_, _, _, rfl, rfl, by omega, by omega, by omega⟩) (by rw [if_neg (by omega), Option.map_some, Addr.add_lit]) ?_
  refine W_clearTail (sz := Rep.sz ByteArray) (n2 := l.length - (l.take i ++ l.drop j).length) rfl Proofs.Try.underlying23 Proofs.Try.zeroValue9 rfl rfl rfl rfl rfl (by omega) ?_
  refine W_end (E_then ?_)
  refine C_seq ?_
  refine C_region ?_
  refine W_move rfl rfl rfl ?_
  refine W_assign rfl rfl rfl ?_
  refine W_end (E_then ?_)
  refine C_ret ?_
  refine E_weak hle1 ?_
  exact end1 rfl rfl ⟨rfl, _, xs2, rfl, rfl, h2.toF⟩

theorem clone29_c {B : Nat} {w0 w : World} {H : Hp} {M : List Res} {s : List S_api_AlarmEntry} {v0 : Value} (h0 : RdS H v0 s) (hz : s.length * 32 ≤ 140737488355328) (ht : St B w0 H M w) :
    Calls Proofs.Try.prog 29 [v0].toArray w (Ret B w0 fun H' M' v => H = H' ∧ ∃ (v' : Value) (xs' : List Value), .row v' 39 (Rep.sz S_api_AlarmEntry) s.length xs' :: M = M' ∧ v' = v ∧ RwF v' xs' s) := by
  refine enter Proofs.Try.func29 rfl rfl rfl ht ?_
  obtain ⟨o, n, c, rfl⟩ := h0.shape
  refine C_seq ?_
  refine C_region ?_
  refine W_assign rfl rfl rfl ?_
  refine W_end (E_then ?_)
  refine C_seq ?_
  refine C_seq ?_
  refine C_region ?_
  refine W_move rfl rfl rfl ?_
  refine W_eqNil rfl rfl Proofs.Try.runUnderlying36 rfl rfl ?_
  refine W_end (E_then ?_)
  cases o with
  | none =>
    refine C_cond (b := true) rfl (fun _ => ?_) (fun hb => Bool.noConfusion hb)
    obtain rfl := h0.isNil
    refine C_seq ?_
    refine C_region ?_
    refine W_assign rfl rfl rfl ?_
    refine W_end (E_then ?_)
    refine C_ret (E_ret_then ?_)
    refine E_nilRow 39 (Rep.sz S_api_AlarmEntry) ?_
    exact end1 rfl rfl ⟨rfl, .slice none 0 0, [], rfl, rfl, (Rw.nil (H := H)).toF⟩
  | some a =>
    refine C_cond (b := false) rfl (fun hb => Bool.noConfusion hb) (fun _ => ?_)
    refine C_skip (E_then ?_)
    refine C_seq ?_
    refine C_region ?_
    refine W_build0 S_api_AlarmEntry rfl rfl Proofs.Try.runUnderlying36 Proofs.Try.sizeOf39 ?_
    intro v1 xs1 h1
    refine W_move rfl rfl rfl ?_
    refine W_appendO (α := S_api_AlarmEntry) (l := []) (ys := s) (bytes := 32) rfl rfl Proofs.Try.underlying36 ⟨_, rfl, rfl, rfl, rfl⟩ rfl rfl rfl rfl rfl h1 h0 (by simpa using hz) ?_
    intro v2 xs2 h2
    refine W_assign rfl rfl rfl ?_
    refine W_end (E_then ?_)
    refine C_ret ?_
    exact end1 rfl rfl ⟨rfl, v2, xs2, rfl, rfl, h2.toF⟩
end Go.Sim
