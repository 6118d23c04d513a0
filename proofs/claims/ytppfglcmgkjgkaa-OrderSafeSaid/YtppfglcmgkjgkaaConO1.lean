/-
  Printed by a program: each Go function computes its model.
-/
import Derived.Test.YtppfglcmgkjgkaaModO
import Derived.Test.YtppfglcmgkjgkaaRows
import Derived.KernelRfl
namespace Go.Sim
open Go
set_option linter.unusedVariables false
set_option linter.unusedSimpArgs false
set_option maxRecDepth 100000
theorem Facts.mixed : Proofs.Try.prog.follows .mixedOrders = true := by kernel_rfl

theorem m_netmodel_Name_c {B : Nat} {w0 w : World} {H : Hp} {M : List Res} {p0_s : ByteArray} {r : Bool} (hm : m_netmodel_Name p0_s = some r) (ht : St B w0 H (M) w) :
    Calls Proofs.Try.prog 31 [.string (p0_s)].toArray w (Ret B w0 fun H' M' v => H = H' ∧ M = M' ∧ .bool (r) = v) := by
  unfold m_netmodel_Name at hm
  refine enter Proofs.Try.func31 rfl rfl rfl ht ?_
  refine C_seq ?_
  refine C_region ?_
  refine W_assign rfl rfl rfl ?_
  refine W_end ?_
  refine E_then ?_
  refine C_seq ?_
  refine C_seq ?_
  refine C_region ?_
  refine W_move rfl rfl rfl ?_
  obtain ⟨hz101, hm⟩ := need_some hm
  refine W_convBytes rfl rfl Proofs.Try.runUnderlying9 Proofs.Try.runUnderlying79 Proofs.Try.runUnderlying5 rfl hz101 ?_
  intro v102 H103 hle104 h105
  refine W_lenR rfl rfl Proofs.Try.runUnderlying79 rfl h105 ?_
  refine W_move rfl rfl rfl ?_
  refine W_end ?_
  refine E_then ?_
  refine C_block ?_
  refine C_keep (L' := [(0, .string (p0_s)), (6, v102), (7, .int .i64 (((bytesL p0_s).length : Int))), (8, .int .i64 (((0 : Nat) : Int)))]) ⟨rfl, rfl, rfl, rfl, trivial⟩ (List.Perm.refl _) ?_
  refine C_loop (fun n H' M' L' => ∃ (k106 : Nat) (zs143' : List U8), (bytesL p0_s).drop k106 = zs143' ∧ zs143'.length = n ∧ forI (fun k y s n => m_netmodel_Name_b1 k y n) (fun _ => some ((decide (1 ≤ (p0_s.size : Int))) && (decide ((p0_s.size : Int) ≤ 8)))) k106 zs143' () = some r ∧ H103.le H' ∧ M = M' ∧ [(0, .string (p0_s)), (6, v102), (7, .int .i64 (((bytesL p0_s).length : Int))), (8, .int .i64 ((k106 : Int)))] = L') _ ⟨0, _, rfl, rfl, hm, (Hp.le_refl _), rfl, rfl⟩ ?_
  rintro _ H137 _ _ ⟨k106, zs143', hd145, rfl, hm, hle138, rfl, rfl⟩
  refine C_seq ?_
  refine C_region ?_
  refine W_bin rfl rfl rfl rfl rfl ?_
  refine W_end (E_then ?_)
  refine C_seq ?_
  refine C_cond (b := decide ((k106 : Int) < ((bytesL p0_s).length : Int))) rfl (fun hb147 => ?_) (fun hb147 => ?_)
  · obtain ⟨y142, zs143, rfl, hy144, hd146⟩ := rng_t hd145 hb147
    have hm : m_netmodel_Name_b1 k106 y142 (forI (fun k y s n => m_netmodel_Name_b1 k y n) (fun _ => some ((decide (1 ≤ (p0_s.size : Int))) && (decide ((p0_s.size : Int) ≤ 8)))) (k106 + 1) zs143) = some r := hm
    generalize hn140 : forI (fun k y s n => m_netmodel_Name_b1 k y n) (fun _ => some ((decide (1 ≤ (p0_s.size : Int))) && (decide ((p0_s.size : Int) ≤ 8)))) (k106 + 1) zs143 = nx139 at hm
    unfold m_netmodel_Name_b1 at hm
    refine C_skip (E_then ?_)
    refine C_seq ?_
    refine C_block ?_
    refine C_seq ?_
    refine C_region ?_
    refine W_move rfl rfl rfl ?_
    obtain ⟨_, rfl, hc148⟩ := (h105).elem hy144
    refine W_indexS rfl rfl Proofs.Try.runUnderlying79 Proofs.Try.sizeOf5 rfl (h105.mono hle138) rfl (Int.natCast_nonneg _) hy144 ?_
    refine W_load rfl rfl Proofs.Try.isAgg5 rfl (HCells.one (hc148.mono hle138) 0 rfl).at ?_
    refine W_assign rfl rfl rfl ?_
    refine W_assign rfl rfl rfl ?_
    refine W_end ?_
    refine E_then ?_
    refine C_seq_join (fun H' M' L' => H137 = H' ∧ M = M' ∧ [(0, .string (p0_s)), (6, v102), (7, .int .i64 (((bytesL p0_s).length : Int))), (8, .int .i64 ((k106 : Int))), (31, .bool (!(((decide (65 ≤ y142.n)) && (decide (y142.n ≤ 90))) || (((decide (0 < (k106 : Int))) && (decide (48 ≤ y142.n))) && (decide (y142.n ≤ 57))))))] = L') ?_ (fun J155 => ?_)
    · rintro _ _ _ ⟨rfl, rfl, rfl⟩
      refine C_cond (b := !(((decide (65 ≤ y142.n)) && (decide (y142.n ≤ 90))) || (((decide (0 < (k106 : Int))) && (decide (48 ≤ y142.n))) && (decide (y142.n ≤ 57))))) rfl (fun hb156 => ?_) (fun hb156 => ?_)
      · have hm := ite_t' hb156 hm
        refine C_seq ?_
        refine C_region ?_
        refine W_assign rfl rfl rfl ?_
        refine W_end ?_
        refine E_then ?_
        refine C_ret ?_
        refine E_ret_block ?_
        refine E_ret_then ?_
        refine E_ret_then ?_
        refine E_ret_block ?_
        refine E_ret_then ?_
        obtain rfl := Option.some.inj hm
        refine E_weak (Hp.le_trans hle104 hle138) ?_
        exact end1 rfl rfl ⟨rfl, rfl, rfl⟩
      · have hm := ite_f' hb156 hm
        refine C_skip ?_
        refine E_normal_block ?_
        refine E_then ?_
        refine C_region ?_
        refine W_bin rfl rfl rfl rfl rfl ?_
        refine W_move rfl rfl rfl ?_
        refine W_end ?_
        exact E_keepJ (E_back (Nat.lt_succ_self _) ⟨k106 + 1, zs143, hd146, rfl, (by rw [hn140]; exact hm), hle138, rfl, rfl⟩) (List.Perm.refl _) ⟨rfl, rfl, rfl, (congrArg (fun z => some (Value.int .i64 z)) (i64_succ hy144 ((h105.mono hle138)).lenMax)), trivial⟩
    · refine C_region ?_
      refine W_move rfl rfl rfl ?_
      refine W_bin rfl rfl rfl rfl rfl ?_
      refine W_move rfl rfl rfl ?_
      cases hb157 : (decide (65 ≤ y142.n))
      · refine W_no rfl rfl rfl ?_
        refine W_no rfl rfl rfl ?_
        refine W_pick rfl rfl rfl rfl ?_
        refine W_move rfl rfl rfl ?_
        refine W_move rfl rfl rfl ?_
        refine W_bin rfl rfl rfl rfl rfl ?_
        refine W_move rfl rfl rfl ?_
        cases hb158 : (decide (0 < (k106 : Int)))
        · refine W_no rfl rfl rfl ?_
          refine W_no rfl rfl rfl ?_
          refine W_pick rfl rfl rfl rfl ?_
          refine W_move rfl rfl rfl ?_
          refine W_no rfl rfl rfl ?_
          refine W_no rfl rfl rfl ?_
          refine W_pick rfl rfl rfl rfl ?_
          refine W_pick rfl rfl rfl rfl ?_
          refine W_un rfl rfl rfl rfl ?_
          refine W_end ?_
          exact E_keepJ (J155 _ _ _ ⟨rfl, rfl, rfl⟩) (List.Perm.refl _) ⟨rfl, rfl, rfl, rfl, (by show some (Value.bool (true)) = some (Value.bool (!(((decide (65 ≤ y142.n)) && (decide (y142.n ≤ 90))) || (((decide (0 < (k106 : Int))) && (decide (48 ≤ y142.n))) && (decide (y142.n ≤ 57)))))); simp only [hb157, hb158, Bool.and_true, Bool.true_and, Bool.false_and, Bool.and_false, Bool.or_true, Bool.true_or, Bool.or_false, Bool.false_or, Bool.not_true, Bool.not_false]), trivial⟩
        · refine W_move rfl rfl rfl ?_
          refine W_bin rfl rfl rfl rfl rfl ?_
          refine W_pick rfl rfl rfl rfl ?_
          refine W_move rfl rfl rfl ?_
          cases hb159 : (decide (48 ≤ y142.n))
          · refine W_no rfl rfl rfl ?_
            refine W_no rfl rfl rfl ?_
            refine W_pick rfl rfl rfl rfl ?_
            refine W_pick rfl rfl rfl rfl ?_
            refine W_un rfl rfl rfl rfl ?_
            refine W_end ?_
            exact E_keepJ (J155 _ _ _ ⟨rfl, rfl, rfl⟩) (List.Perm.refl _) ⟨rfl, rfl, rfl, rfl, (by show some (Value.bool (true)) = some (Value.bool (!(((decide (65 ≤ y142.n)) && (decide (y142.n ≤ 90))) || (((decide (0 < (k106 : Int))) && (decide (48 ≤ y142.n))) && (decide (y142.n ≤ 57)))))); simp only [hb157, hb158, hb159, Bool.and_true, Bool.true_and, Bool.false_and, Bool.and_false, Bool.or_true, Bool.true_or, Bool.or_false, Bool.false_or, Bool.not_true, Bool.not_false]), trivial⟩
          · refine W_move rfl rfl rfl ?_
            refine W_bin rfl rfl rfl rfl rfl ?_
            refine W_pick rfl rfl rfl rfl ?_
            refine W_pick rfl rfl rfl rfl ?_
            refine W_un rfl rfl rfl rfl ?_
            refine W_end ?_
            exact E_keepJ (J155 _ _ _ ⟨rfl, rfl, rfl⟩) (List.Perm.refl _) ⟨rfl, rfl, rfl, rfl, (by show some (Value.bool (!(decide (y142.n ≤ 57)))) = some (Value.bool (!(((decide (65 ≤ y142.n)) && (decide (y142.n ≤ 90))) || (((decide (0 < (k106 : Int))) && (decide (48 ≤ y142.n))) && (decide (y142.n ≤ 57)))))); simp only [hb157, hb158, hb159, Bool.and_true, Bool.true_and, Bool.false_and, Bool.and_false, Bool.or_true, Bool.true_or, Bool.or_false, Bool.false_or, Bool.not_true, Bool.not_false]), trivial⟩
      · refine W_move rfl rfl rfl ?_
        refine W_bin rfl rfl rfl rfl rfl ?_
        refine W_pick rfl rfl rfl rfl ?_
        refine W_move rfl rfl rfl ?_
        cases hb160 : (decide (y142.n ≤ 90))
        · refine W_move rfl rfl rfl ?_
          refine W_bin rfl rfl rfl rfl rfl ?_
          refine W_move rfl rfl rfl ?_
          cases hb161 : (decide (0 < (k106 : Int)))
          · refine W_no rfl rfl rfl ?_
            refine W_no rfl rfl rfl ?_
            refine W_pick rfl rfl rfl rfl ?_
            refine W_move rfl rfl rfl ?_
            refine W_no rfl rfl rfl ?_
            refine W_no rfl rfl rfl ?_
            refine W_pick rfl rfl rfl rfl ?_
            refine W_pick rfl rfl rfl rfl ?_
            refine W_un rfl rfl rfl rfl ?_
            refine W_end ?_
            exact E_keepJ (J155 _ _ _ ⟨rfl, rfl, rfl⟩) (List.Perm.refl _) ⟨rfl, rfl, rfl, rfl, (by show some (Value.bool (true)) = some (Value.bool (!(((decide (65 ≤ y142.n)) && (decide (y142.n ≤ 90))) || (((decide (0 < (k106 : Int))) && (decide (48 ≤ y142.n))) && (decide (y142.n ≤ 57)))))); simp only [hb157, hb160, hb161, Bool.and_true, Bool.true_and, Bool.false_and, Bool.and_false, Bool.or_true, Bool.true_or, Bool.or_false, Bool.false_or, Bool.not_true, Bool.not_false]), trivial⟩
          · refine W_move rfl rfl rfl ?_
            refine W_bin rfl rfl rfl rfl rfl ?_
            refine W_pick rfl rfl rfl rfl ?_
            refine W_move rfl rfl rfl ?_
            cases hb162 : (decide (48 ≤ y142.n))
            · refine W_no rfl rfl rfl ?_
              refine W_no rfl rfl rfl ?_
              refine W_pick rfl rfl rfl rfl ?_
              refine W_pick rfl rfl rfl rfl ?_
              refine W_un rfl rfl rfl rfl ?_
              refine W_end ?_
              exact E_keepJ (J155 _ _ _ ⟨rfl, rfl, rfl⟩) (List.Perm.refl _) ⟨rfl, rfl, rfl, rfl, (by show some (Value.bool (true)) = some (Value.bool (!(((decide (65 ≤ y142.n)) && (decide (y142.n ≤ 90))) || (((decide (0 < (k106 : Int))) && (decide (48 ≤ y142.n))) && (decide (y142.n ≤ 57)))))); simp only [hb157, hb160, hb161, hb162, Bool.and_true, Bool.true_and, Bool.false_and, Bool.and_false, Bool.or_true, Bool.true_or, Bool.or_false, Bool.false_or, Bool.not_true, Bool.not_false]), trivial⟩
            · refine W_move rfl rfl rfl ?_
              refine W_bin rfl rfl rfl rfl rfl ?_
              refine W_pick rfl rfl rfl rfl ?_
              refine W_pick rfl rfl rfl rfl ?_
              refine W_un rfl rfl rfl rfl ?_
              refine W_end ?_
              exact E_keepJ (J155 _ _ _ ⟨rfl, rfl, rfl⟩) (List.Perm.refl _) ⟨rfl, rfl, rfl, rfl, (by show some (Value.bool (!(decide (y142.n ≤ 57)))) = some (Value.bool (!(((decide (65 ≤ y142.n)) && (decide (y142.n ≤ 90))) || (((decide (0 < (k106 : Int))) && (decide (48 ≤ y142.n))) && (decide (y142.n ≤ 57)))))); simp only [hb157, hb160, hb161, hb162, Bool.and_true, Bool.true_and, Bool.false_and, Bool.and_false, Bool.or_true, Bool.true_or, Bool.or_false, Bool.false_or, Bool.not_true, Bool.not_false]), trivial⟩
        · refine W_no rfl rfl rfl ?_
          refine W_no rfl rfl rfl ?_
          refine W_no rfl rfl rfl ?_
          refine W_no rfl rfl rfl ?_
          refine W_no rfl rfl rfl ?_
          refine W_no rfl rfl rfl ?_
          refine W_no rfl rfl rfl ?_
          refine W_no rfl rfl rfl ?_
          refine W_no rfl rfl rfl ?_
          refine W_no rfl rfl rfl ?_
          refine W_pick rfl rfl rfl rfl ?_
          refine W_un rfl rfl rfl rfl ?_
          refine W_end ?_
          exact E_keepJ (J155 _ _ _ ⟨rfl, rfl, rfl⟩) (List.Perm.refl _) ⟨rfl, rfl, rfl, rfl, (by show some (Value.bool (false)) = some (Value.bool (!(((decide (65 ≤ y142.n)) && (decide (y142.n ≤ 90))) || (((decide (0 < (k106 : Int))) && (decide (48 ≤ y142.n))) && (decide (y142.n ≤ 57)))))); simp only [hb157, hb160, Bool.and_true, Bool.true_and, Bool.false_and, Bool.and_false, Bool.or_true, Bool.true_or, Bool.or_false, Bool.false_or, Bool.not_true, Bool.not_false]), trivial⟩
  · obtain rfl := rng_f hd145 hb147
    have hm : (some ((decide (1 ≤ (p0_s.size : Int))) && (decide ((p0_s.size : Int) ≤ 8)))) = some r := hm
    refine C_exit (E_exit_then ?_)
    refine E_exit_then ?_
    refine E_exit_hit ?_
    refine E_then ?_
    refine C_seq_join (fun H' M' L' => H137 = H' ∧ M = M' ∧ [(2, .bool ((decide (1 ≤ (p0_s.size : Int))) && (decide ((p0_s.size : Int) ≤ 8))))] = L') ?_ (fun J164 => ?_)
    · rintro _ _ _ ⟨rfl, rfl, rfl⟩
      refine C_ret ?_
      obtain rfl := Option.some.inj hm
      refine E_weak (Hp.le_trans hle104 hle138) ?_
      exact end1 rfl rfl ⟨rfl, rfl, rfl⟩
    · refine C_region ?_
      refine W_move rfl rfl rfl ?_
      refine W_lenStr rfl rfl Proofs.Try.runUnderlying9 rfl ?_
      refine W_bin rfl rfl rfl rfl rfl ?_
      refine W_move rfl rfl rfl ?_
      cases hb165 : (decide (1 ≤ (p0_s.size : Int)))
      · refine W_no rfl rfl rfl ?_
        refine W_no rfl rfl rfl ?_
        refine W_no rfl rfl rfl ?_
        refine W_pick rfl rfl rfl rfl ?_
        refine W_assign rfl rfl rfl ?_
        refine W_end ?_
        exact E_keepJ (J164 _ _ _ ⟨rfl, rfl, rfl⟩) (List.Perm.refl _) ⟨(by show some (Value.bool (false)) = some (Value.bool ((decide (1 ≤ (p0_s.size : Int))) && (decide ((p0_s.size : Int) ≤ 8)))); simp only [hb165, Bool.and_true, Bool.true_and, Bool.false_and, Bool.and_false, Bool.or_true, Bool.true_or, Bool.or_false, Bool.false_or, Bool.not_true, Bool.not_false]), trivial⟩
      · refine W_move rfl rfl rfl ?_
        refine W_lenStr rfl rfl Proofs.Try.runUnderlying9 rfl ?_
        refine W_bin rfl rfl rfl rfl rfl ?_
        refine W_pick rfl rfl rfl rfl ?_
        refine W_assign rfl rfl rfl ?_
        refine W_end ?_
        exact E_keepJ (J164 _ _ _ ⟨rfl, rfl, rfl⟩) (List.Perm.refl _) ⟨(by show some (Value.bool (decide ((p0_s.size : Int) ≤ 8))) = some (Value.bool ((decide (1 ≤ (p0_s.size : Int))) && (decide ((p0_s.size : Int) ≤ 8)))); simp only [hb165, Bool.and_true, Bool.true_and, Bool.false_and, Bool.and_false, Bool.or_true, Bool.true_or, Bool.or_false, Bool.false_or, Bool.not_true, Bool.not_false]), trivial⟩

theorem m_interlock_condition_c {B : Nat} {w0 w : World} {H : Hp} {M : List Res} {p0_l : (List S_api_InterlockNode)} {v0 : Value} {r : Int} (hm : m_interlock_condition p0_l = some r) (h0 : RdS H v0 p0_l) (ht : St B w0 H (M) w) :
    Calls Proofs.Try.prog 32 [v0].toArray w (Ret B w0 fun H' M' v => H = H' ∧ M = M' ∧ .int .i64 (r) = v) := by
  unfold m_interlock_condition at hm
  refine enter Proofs.Try.func32 rfl rfl rfl ht ?_
  refine C_seq ?_
  refine C_region ?_
  refine W_assign rfl rfl rfl ?_
  refine W_end ?_
  refine E_then ?_
  refine C_seq ?_
  refine C_block ?_
  refine C_seq ?_
  refine C_region ?_
  refine W_move rfl rfl rfl ?_
  refine W_lenR rfl rfl Proofs.Try.runUnderlying44 rfl h0 ?_
  refine W_bin rfl rfl rfl rfl rfl ?_
  refine W_assign rfl rfl rfl ?_
  refine W_end ?_
  refine E_then ?_
  refine C_cond (b := decide (40 < (p0_l.length : Int))) rfl (fun hb101 => ?_) (fun hb101 => ?_)
  · have hm := ite_t' hb101 hm
    refine C_seq ?_
    refine C_region ?_
    refine W_assign rfl rfl rfl ?_
    refine W_end ?_
    refine E_then ?_
    refine C_ret ?_
    refine E_ret_block ?_
    refine E_ret_then ?_
    obtain rfl := Option.some.inj hm
    refine E_weak (Hp.le_refl _) ?_
    exact end1 rfl rfl ⟨rfl, rfl, rfl⟩
  · have hm := ite_f' hb101 hm
    refine C_seq ?_
    refine C_region ?_
    refine W_move rfl rfl rfl ?_
    refine W_lenR rfl rfl Proofs.Try.runUnderlying44 rfl h0 ?_
    refine W_bin rfl rfl rfl rfl rfl ?_
    refine W_assign rfl rfl rfl ?_
    refine W_end ?_
    refine E_then ?_
    refine C_cond (b := decide ((p0_l.length : Int) = 0)) rfl (fun hb102 => ?_) (fun hb102 => ?_)
    · have hm := ite_t' hb102 hm
      refine C_seq ?_
      refine C_region ?_
      refine W_assign rfl rfl rfl ?_
      refine W_end ?_
      refine E_then ?_
      refine C_ret ?_
      refine E_ret_block ?_
      refine E_ret_then ?_
      obtain rfl := Option.some.inj hm
      refine E_weak (Hp.le_refl _) ?_
      exact end1 rfl rfl ⟨rfl, rfl, rfl⟩
    · have hm := ite_f' hb102 hm
      refine C_skip ?_
      refine E_normal_block ?_
      refine E_then ?_
      refine C_seq ?_
      refine C_region ?_
      refine W_move rfl rfl rfl ?_
      refine W_lenR rfl rfl Proofs.Try.runUnderlying44 rfl h0 ?_
      obtain ⟨hz103, hm⟩ := need_some hm
      refine W_makeSlice (α := Int) (zs := [.int .i64 (0)]) (ze := 0) rfl rfl Proofs.Try.underlying76 ⟨_, rfl, rfl, rfl, rfl⟩ rfl rfl rfl rfl rfl rfl hz103.1 hz103.2 ?_
      intro v104 xs105 hr106
      refine W_assign rfl rfl rfl ?_
      refine W_end ?_
      refine E_then ?_
      refine C_seq ?_
      refine C_seq ?_
      refine C_region ?_
      refine W_move rfl rfl rfl ?_
      refine W_lenR rfl rfl Proofs.Try.runUnderlying44 rfl h0 ?_
      refine W_move rfl rfl rfl ?_
      refine W_end ?_
      refine E_then ?_
      refine C_block ?_
      refine C_keep (L' := [(0, v0), (3, v104), (18, v0), (19, .int .i64 ((p0_l.length : Int))), (20, .int .i64 (((0 : Nat) : Int)))]) ⟨rfl, rfl, rfl, rfl, rfl, trivial⟩ (List.Perm.refl _) ?_
      refine C_loop (fun n H' M' L' => ∃ (k107 : Nat) (zs752' : List S_api_InterlockNode), ∃ l744 : List Int, ∃ xs743 : List Value, (p0_l).drop k107 = zs752' ∧ zs752'.length = n ∧ forI (fun k y s n => m_interlock_condition_b11 k y s n) (fun s => idx s (IntKind.i64.wrap ((p0_l.length : Int) - 1)) fun y1068 => if !decide (y1068 = 0) then (some 3) else (some 0)) k107 zs752' l744 = some r ∧ Rw H' v104 xs743 l744 ∧ H.le H' ∧ .row v104 3 (Rep.sz Int) l744.length xs743 :: M = M' ∧ [(0, v0), (3, v104), (18, v0), (19, .int .i64 ((p0_l.length : Int))), (20, .int .i64 ((k107 : Int)))] = L') _ ⟨0, _, (List.replicate ((p0_l.length : Int) : Int).toNat (0 : Int)), xs105, rfl, rfl, hm, hr106, (Hp.le_refl _), rfl, rfl⟩ ?_
      rintro _ H746 _ _ ⟨k107, zs752', l744, xs743, hd754, rfl, hm, hr745, hle747, rfl, rfl⟩
      refine C_seq ?_
      refine C_region ?_
      refine W_bin rfl rfl rfl rfl rfl ?_
      refine W_end (E_then ?_)
      refine C_seq ?_
      refine C_cond (b := decide ((k107 : Int) < (p0_l.length : Int))) rfl (fun hb756 => ?_) (fun hb756 => ?_)
      · obtain ⟨y751, zs752, rfl, hy753, hd755⟩ := rng_t hd754 hb756
        have hm : m_interlock_condition_b11 k107 y751 l744 (forI (fun k y s n => m_interlock_condition_b11 k y s n) (fun s => idx s (IntKind.i64.wrap ((p0_l.length : Int) - 1)) fun y1068 => if !decide (y1068 = 0) then (some 3) else (some 0)) (k107 + 1) zs752) = some r := hm
        generalize hn749 : forI (fun k y s n => m_interlock_condition_b11 k y s n) (fun s => idx s (IntKind.i64.wrap ((p0_l.length : Int) - 1)) fun y1068 => if !decide (y1068 = 0) then (some 3) else (some 0)) (k107 + 1) zs752 = nx748 at hm
        unfold m_interlock_condition_b11 at hm
        refine C_skip (E_then ?_)
        refine C_seq_join (fun H' M' L' => ∃ l911 : List Int, ∃ xs910 : List Value, m_interlock_condition_b14 nx748 l911 = some r ∧ Rw H' v104 xs910 l911 ∧ H746.le H' ∧ .row v104 3 (Rep.sz Int) l911.length xs910 :: M = M' ∧ [(0, v0), (3, v104), (18, v0), (19, .int .i64 ((p0_l.length : Int))), (20, .int .i64 ((k107 : Int)))] = L') ?_ (fun J915 => ?_)
        · rintro H913 _ _ ⟨l911, xs910, hm, hr912, hle914, rfl, rfl⟩
          unfold m_interlock_condition_b14 at hm
          refine C_region ?_
          refine W_bin rfl rfl rfl rfl rfl ?_
          refine W_move rfl rfl rfl ?_
          refine W_end ?_
          exact E_keepJ (E_back (Nat.lt_succ_self _) ⟨k107 + 1, zs752, l911, xs910, hd755, rfl, (by rw [hn749]; exact hm), hr912, (Hp.le_trans hle747 hle914), rfl, rfl⟩) (List.Perm.refl _) ⟨rfl, rfl, rfl, rfl, (congrArg (fun z => some (Value.int .i64 z)) (i64_succ hy753 ((h0.mono hle747)).lenMax)), trivial⟩
        · refine C_block ?_
          refine C_seq ?_
          refine C_region ?_
          refine W_move rfl rfl rfl ?_
          obtain ⟨_, ⟨rfl⟩, hc916⟩ := (h0).elem hy753
          refine W_indexS rfl rfl Proofs.Try.runUnderlying44 Proofs.Try.sizeOf58 rfl (h0.mono hle747) rfl (Int.natCast_nonneg _) hy753 ?_
          refine W_loadAgg rfl rfl Proofs.Try.isAgg58 Proofs.Try.sizeOf58 rfl (hc916.mono hle747).at rfl ?_
          refine W_alloc (cs := [.int .i64 (0), .string (⟨#[]⟩), .int .i64 (0), .int .i64 (0)]) rfl rfl Proofs.Try.zeroValue58 rfl (fun b917 => ?_)
          refine W_assign rfl rfl rfl ?_
          refine W_store (cs := [.int .i64 (y751.Kind), .string (y751.Name), .int .i64 (y751.A), .int .i64 (y751.B_)]) (out := [.int .i64 (y751.Kind), .string (y751.Name), .int .i64 (y751.A), .int .i64 (y751.B_)]) rfl Proofs.Try.sizeOf58 rfl rfl rfl rfl rfl (all_cons rfl (all_cons rfl (all_cons rfl (all_cons rfl all_nil)))) (over_all rfl) ?_
          refine W_end ?_
          refine E_then ?_
          refine C_seq_join (fun H' M' L' => H746 = H' ∧ .obj b917 (.cells [.int .i64 (y751.Kind), .string (y751.Name), .int .i64 (y751.A), .int .i64 (y751.B_)].toArray 58 (0, 0)) :: .row v104 3 (Rep.sz Int) l744.length xs743 :: M = M' ∧ [(0, v0), (3, v104), (4, .int .i64 ((k107 : Int))), (5, .pointer (some ⟨b917, 0, none⟩)), (6, .bool ((decide (y751.Kind = 2)) || (decide (y751.Kind = 3)))), (18, v0), (19, .int .i64 ((p0_l.length : Int))), (20, .int .i64 ((k107 : Int)))] = L') ?_ (fun J919 => ?_)
          · rintro _ _ _ ⟨rfl, rfl, rfl⟩
            refine C_seq ?_
            refine C_block ?_
            refine C_seq_join (fun H' M' L' => H746 = H' ∧ .obj b917 (.cells [.int .i64 (y751.Kind), .string (y751.Name), .int .i64 (y751.A), .int .i64 (y751.B_)].toArray 58 (0, 0)) :: .row v104 3 (Rep.sz Int) l744.length xs743 :: M = M' ∧ [(0, v0), (3, v104), (4, .int .i64 ((k107 : Int))), (5, .pointer (some ⟨b917, 0, none⟩)), (6, .bool ((decide (y751.Kind = 2)) || (decide (y751.Kind = 3)))), (18, v0), (19, .int .i64 ((p0_l.length : Int))), (20, .int .i64 ((k107 : Int))), (33, .bool ((decide (y751.Kind < 0)) || (decide (6 < y751.Kind))))] = L') ?_ (fun J921 => ?_)
            · rintro _ _ _ ⟨rfl, rfl, rfl⟩
              refine C_cond (b := (decide (y751.Kind < 0)) || (decide (6 < y751.Kind))) rfl (fun hb922 => ?_) (fun hb922 => ?_)
              · have hm := ite_t' hb922 hm
                refine C_seq ?_
                refine C_region ?_
                refine W_assign rfl rfl rfl ?_
                refine W_end ?_
                refine E_then ?_
                refine C_ret ?_
                refine E_ret_block ?_
                refine E_ret_then ?_
                refine E_ret_block ?_
                refine E_ret_then ?_
                refine E_ret_then ?_
                refine E_ret_block ?_
                refine E_ret_then ?_
                obtain rfl := Option.some.inj hm
                refine E_drop (List.Sublist.cons _ (List.Sublist.cons _ (List.Sublist.refl _))) ?_
                refine E_weak hle747 ?_
                exact end1 rfl rfl ⟨rfl, rfl, rfl⟩
              · have hm := ite_f' hb922 hm
                refine C_seq ?_
                refine C_region ?_
                refine W_move rfl rfl rfl ?_
                refine W_move rfl rfl rfl ?_
                cases hb923 : ((decide (y751.Kind = 2)) || (decide (y751.Kind = 3)))
                · have hm := ite_f' hb923 hm
                  refine W_no rfl rfl rfl ?_
                  refine W_no rfl rfl rfl ?_
                  refine W_no rfl rfl rfl ?_
                  refine W_no rfl rfl rfl ?_
                  refine W_pick rfl rfl rfl rfl ?_
                  refine W_assign rfl rfl rfl ?_
                  refine W_end ?_
                  refine E_then ?_
                  refine C_cond (b := false) rfl (fun hb => Bool.noConfusion hb) (fun _ => ?_)
                  refine C_seq_join (fun H' M' L' => H746 = H' ∧ .obj b917 (.cells [.int .i64 (y751.Kind), .string (y751.Name), .int .i64 (y751.A), .int .i64 (y751.B_)].toArray 58 (0, 0)) :: .row v104 3 (Rep.sz Int) l744.length xs743 :: M = M' ∧ [(0, v0), (3, v104), (4, .int .i64 ((k107 : Int))), (5, .pointer (some ⟨b917, 0, none⟩)), (18, v0), (19, .int .i64 ((p0_l.length : Int))), (20, .int .i64 ((k107 : Int))), (50, .bool (!decide (y751.Name = (⟨#[]⟩))))] = L') ?_ (fun J924 => ?_)
                  · rintro _ _ _ ⟨rfl, rfl, rfl⟩
                    refine C_cond (b := !decide (y751.Name = (⟨#[]⟩))) rfl (fun hb925 => ?_) (fun hb925 => ?_)
                    · have hm := ite_t' hb925 hm
                      refine C_seq ?_
                      refine C_region ?_
                      refine W_assign rfl rfl rfl ?_
                      refine W_end ?_
                      refine E_then ?_
                      refine C_ret ?_
                      refine E_ret_block ?_
                      refine E_ret_then ?_
                      refine E_ret_block ?_
                      refine E_ret_then ?_
                      refine E_ret_then ?_
                      refine E_ret_block ?_
                      refine E_ret_then ?_
                      obtain rfl := Option.some.inj hm
                      refine E_drop (List.Sublist.cons _ (List.Sublist.cons _ (List.Sublist.refl _))) ?_
                      refine E_weak hle747 ?_
                      exact end1 rfl rfl ⟨rfl, rfl, rfl⟩
                    · have hm := ite_f' hb925 hm
                      refine C_skip ?_
                      refine E_normal_block ?_
                      refine E_then ?_
                      refine C_seq ?_
                      refine C_region ?_
                      refine W_move rfl rfl rfl ?_
                      refine W_move rfl rfl rfl ?_
                      refine W_move rfl rfl rfl ?_
                      obtain ⟨y926, h927, he928, hm⟩ := idx_some hm
                      refine W_indexO (List.mem_cons_of_mem _ (List.mem_cons_self ..)) rfl rfl Proofs.Try.runUnderlying76 Proofs.Try.sizeOf3 rfl rfl h927 (List.getElem?_eq_some_iff.1 he928).1 ?_
                      obtain ⟨_, rfl, hg929⟩ := (hr745).elem he928
                      refine W_perm (List.Perm.swap _ _ _) ?_
                      obtain ⟨hr930, he931, hg932⟩ := Rw.put (cs := [.int .i64 ((k107 : Int))]) (o := 0) (c := [.int .i64 (y926)]) (out := [.int .i64 ((k107 : Int))]) (e2 := ((k107 : Int))) hr745 he928 rfl hg929 rfl rfl rfl
                      refine W_storeO2 (i := ((k107 : Int) : Int).toNat * Rep.sz Int + 0) (cs := [.int .i64 ((k107 : Int))]) rfl Proofs.Try.sizeOf3 rfl (row_ad0 _ _) rfl rfl rfl (Rw.room hr745 he928 rfl) rfl (all_cons rfl all_nil) (n' := (l744.set (((k107 : Int) : Int).toNat) ((k107 : Int))).length) List.length_set ?_
                      generalize over xs743 (((k107 : Int) : Int).toNat * Rep.sz Int + 0) [.int .i64 ((k107 : Int))] = xs933 at hr930 hg932 ⊢
                      refine W_end ?_
                      refine E_then ?_
                      refine C_seq ?_
                      refine C_region ?_
                      refine W_field (o := 0) rfl rfl Proofs.Try.runUnderlying58 rfl Proofs.Try.sizeOf3 rfl rfl rfl ?_
                      refine W_load rfl rfl Proofs.Try.isAgg3 rfl (own_at (List.mem_cons_of_mem _ (List.mem_cons_self ..)) rfl) ?_
                      refine W_end ?_
                      refine E_then ?_
                      refine C_block ?_
                      refine C_seq ?_
                      refine C_region ?_
                      refine W_bin rfl rfl rfl rfl rfl ?_
                      refine W_assign rfl rfl rfl ?_
                      refine W_end ?_
                      refine E_then ?_
                      refine C_cond (b := decide (y751.Kind = 4)) rfl (fun hb934 => ?_) (fun hb934 => ?_)
                      · have hm := ite_t' hb934 hm
                        refine C_seq ?_
                        refine C_seq_join (fun H' M' L' => H746 = H' ∧ .row v104 3 (Rep.sz Int) (l744.set (((k107 : Int) : Int).toNat) ((k107 : Int))).length xs933 :: .obj b917 (.cells [.int .i64 (y751.Kind), .string (y751.Name), .int .i64 (y751.A), .int .i64 (y751.B_)].toArray 58 (0, 0)) :: M = M' ∧ [(0, v0), (3, v104), (4, .int .i64 ((k107 : Int))), (5, .pointer (some ⟨b917, 0, none⟩)), (18, v0), (19, .int .i64 ((p0_l.length : Int))), (20, .int .i64 ((k107 : Int))), (87, .bool (((decide ((k107 : Int) = 0)) || (!decide (y751.A = (IntKind.i64.wrap ((k107 : Int) - 1))))) || (!decide (y751.B_ = 0))))] = L') ?_ (fun J937 => ?_)
                        · rintro _ _ _ ⟨rfl, rfl, rfl⟩
                          refine C_cond (b := ((decide ((k107 : Int) = 0)) || (!decide (y751.A = (IntKind.i64.wrap ((k107 : Int) - 1))))) || (!decide (y751.B_ = 0))) rfl (fun hb938 => ?_) (fun hb938 => ?_)
                          · have hm := ite_t' hb938 hm
                            refine C_seq ?_
                            refine C_region ?_
                            refine W_assign rfl rfl rfl ?_
                            refine W_end ?_
                            refine E_then ?_
                            refine C_ret ?_
                            refine E_ret_then ?_
                            refine E_ret_block ?_
                            refine E_ret_block ?_
                            refine E_ret_then ?_
                            refine E_ret_then ?_
                            refine E_ret_block ?_
                            refine E_ret_then ?_
                            obtain rfl := Option.some.inj hm
                            refine E_drop (List.Sublist.cons _ (List.Sublist.cons _ (List.Sublist.refl _))) ?_
                            refine E_weak hle747 ?_
                            exact end1 rfl rfl ⟨rfl, rfl, rfl⟩
                          · have hm := ite_f' hb938 hm
                            refine C_skip ?_
                            refine E_then ?_
                            refine C_region ?_
                            refine W_move rfl rfl rfl ?_
                            refine W_move rfl rfl rfl ?_
                            refine W_move rfl rfl rfl ?_
                            refine W_field (o := 2) rfl rfl Proofs.Try.runUnderlying58 rfl Proofs.Try.sizeOf3 rfl rfl rfl ?_
                            refine W_load rfl rfl Proofs.Try.isAgg3 rfl (own_at (List.mem_cons_of_mem _ (List.mem_cons_self ..)) rfl) ?_
                            obtain ⟨y939, h940, he941, hm⟩ := idx_some hm
                            refine W_indexO (List.mem_cons_self ..) rfl rfl Proofs.Try.runUnderlying76 Proofs.Try.sizeOf3 rfl rfl h940 (List.getElem?_eq_some_iff.1 he941).1 ?_
                            obtain ⟨_, rfl, hg942⟩ := (hr930).elem he941
                            refine W_load rfl rfl Proofs.Try.isAgg3 rfl (row_one0 (List.mem_cons_self ..) hg942 rfl) ?_
                            obtain ⟨y943, h944, he945, hm⟩ := idx_some hm
                            refine W_indexO (List.mem_cons_self ..) rfl rfl Proofs.Try.runUnderlying76 Proofs.Try.sizeOf3 rfl rfl h944 (List.getElem?_eq_some_iff.1 he945).1 ?_
                            obtain ⟨_, rfl, hg946⟩ := (hr930).elem he945
                            obtain ⟨hr947, he948, hg949⟩ := Rw.put (cs := [.int .i64 (y939)]) (o := 0) (c := [.int .i64 (y943)]) (out := [.int .i64 (y939)]) (e2 := y939) hr930 he945 rfl hg946 rfl rfl rfl
                            refine W_storeO2 (i := ((k107 : Int) : Int).toNat * Rep.sz Int + 0) (cs := [.int .i64 (y939)]) rfl Proofs.Try.sizeOf3 rfl (row_ad0 _ _) rfl rfl rfl (Rw.room hr930 he945 rfl) rfl (all_cons rfl all_nil) (n' := ((l744.set (((k107 : Int) : Int).toNat) ((k107 : Int))).set (((k107 : Int) : Int).toNat) y939).length) List.length_set ?_
                            generalize over xs933 (((k107 : Int) : Int).toNat * Rep.sz Int + 0) [.int .i64 (y939)] = xs950 at hr947 hg949 ⊢
                            refine W_end ?_
                            refine E_normal_block ?_
                            refine E_normal_block ?_
                            refine E_drop (List.Sublist.cons_cons _ (List.Sublist.cons _ (List.Sublist.refl _))) ?_
                            exact E_keepJ (J915 _ _ _ ⟨((l744.set (((k107 : Int) : Int).toNat) ((k107 : Int))).set (((k107 : Int) : Int).toNat) y939), xs950, hm, hr947, (Hp.le_refl _), rfl, rfl⟩) (List.Perm.refl _) ⟨rfl, rfl, rfl, rfl, rfl, trivial⟩
                        · refine C_region ?_
                          refine W_move rfl rfl rfl ?_
                          refine W_bin rfl rfl rfl rfl rfl ?_
                          refine W_move rfl rfl rfl ?_
                          cases hb951 : (decide ((k107 : Int) = 0))
                          · refine W_field (o := 2) rfl rfl Proofs.Try.runUnderlying58 rfl Proofs.Try.sizeOf3 rfl rfl rfl ?_
                            refine W_load rfl rfl Proofs.Try.isAgg3 rfl (own_at (List.mem_cons_of_mem _ (List.mem_cons_self ..)) rfl) ?_
                            refine W_move rfl rfl rfl ?_
                            refine W_bin rfl rfl rfl rfl rfl ?_
                            refine W_bin rfl rfl rfl rfl rfl ?_
                            refine W_pick rfl rfl rfl rfl ?_
                            refine W_move rfl rfl rfl ?_
                            cases hb952 : (decide (y751.A = (IntKind.i64.wrap ((k107 : Int) - 1))))
                            · refine W_no rfl rfl rfl ?_
                              refine W_no rfl rfl rfl ?_
                              refine W_no rfl rfl rfl ?_
                              refine W_pick rfl rfl rfl rfl ?_
                              refine W_end ?_
                              exact E_keepJ (J937 _ _ _ ⟨rfl, rfl, rfl⟩) (List.Perm.refl _) ⟨rfl, rfl, rfl, rfl, rfl, rfl, rfl, (by show some (Value.bool (true)) = some (Value.bool (((decide ((k107 : Int) = 0)) || (!decide (y751.A = (IntKind.i64.wrap ((k107 : Int) - 1))))) || (!decide (y751.B_ = 0)))); simp only [hb101, hb102, hb922, hb923, hb925, hb934, hb951, hb952, Bool.and_true, Bool.true_and, Bool.false_and, Bool.and_false, Bool.or_true, Bool.true_or, Bool.or_false, Bool.false_or, Bool.not_true, Bool.not_false]), trivial⟩
                            · refine W_field (o := 3) rfl rfl Proofs.Try.runUnderlying58 rfl Proofs.Try.sizeOf3 rfl rfl rfl ?_
                              refine W_load rfl rfl Proofs.Try.isAgg3 rfl (own_at (List.mem_cons_of_mem _ (List.mem_cons_self ..)) rfl) ?_
                              refine W_bin rfl rfl rfl rfl rfl ?_
                              refine W_pick rfl rfl rfl rfl ?_
                              refine W_end ?_
                              exact E_keepJ (J937 _ _ _ ⟨rfl, rfl, rfl⟩) (List.Perm.refl _) ⟨rfl, rfl, rfl, rfl, rfl, rfl, rfl, (by show some (Value.bool (!decide (y751.B_ = 0))) = some (Value.bool (((decide ((k107 : Int) = 0)) || (!decide (y751.A = (IntKind.i64.wrap ((k107 : Int) - 1))))) || (!decide (y751.B_ = 0)))); simp only [hb101, hb102, hb922, hb923, hb925, hb934, hb951, hb952, Bool.and_true, Bool.true_and, Bool.false_and, Bool.and_false, Bool.or_true, Bool.true_or, Bool.or_false, Bool.false_or, Bool.not_true, Bool.not_false]), trivial⟩
                          · refine W_no rfl rfl rfl ?_
                            refine W_no rfl rfl rfl ?_
                            refine W_no rfl rfl rfl ?_
                            refine W_no rfl rfl rfl ?_
                            refine W_no rfl rfl rfl ?_
                            refine W_pick rfl rfl rfl rfl ?_
                            refine W_move rfl rfl rfl ?_
                            refine W_no rfl rfl rfl ?_
                            refine W_no rfl rfl rfl ?_
                            refine W_no rfl rfl rfl ?_
                            refine W_pick rfl rfl rfl rfl ?_
                            refine W_end ?_
                            exact E_keepJ (J937 _ _ _ ⟨rfl, rfl, rfl⟩) (List.Perm.refl _) ⟨rfl, rfl, rfl, rfl, rfl, rfl, rfl, (by show some (Value.bool (true)) = some (Value.bool (((decide ((k107 : Int) = 0)) || (!decide (y751.A = (IntKind.i64.wrap ((k107 : Int) - 1))))) || (!decide (y751.B_ = 0)))); simp only [hb101, hb102, hb922, hb923, hb925, hb934, hb951, Bool.and_true, Bool.true_and, Bool.false_and, Bool.and_false, Bool.or_true, Bool.true_or, Bool.or_false, Bool.false_or, Bool.not_true, Bool.not_false]), trivial⟩
                      · have hm := ite_f' hb934 hm
                        refine C_seq_join (fun H' M' L' => ∃ c954 : Bool, m_interlock_condition_b15 l744 nx748 y751 k107 c954 = some r ∧ H746 = H' ∧ .row v104 3 (Rep.sz Int) (l744.set (((k107 : Int) : Int).toNat) ((k107 : Int))).length xs933 :: .obj b917 (.cells [.int .i64 (y751.Kind), .string (y751.Name), .int .i64 (y751.A), .int .i64 (y751.B_)].toArray 58 (0, 0)) :: M = M' ∧ [(0, v0), (3, v104), (4, .int .i64 ((k107 : Int))), (5, .pointer (some ⟨b917, 0, none⟩)), (18, v0), (19, .int .i64 ((p0_l.length : Int))), (20, .int .i64 ((k107 : Int))), (96, .bool (c954))] = L') ?_ (fun J955 => ?_)
                        · rintro _ _ _ ⟨c954, hm, rfl, rfl, rfl⟩
                          unfold m_interlock_condition_b15 at hm
                          refine C_cond (b := c954) rfl (fun hb956 => ?_) (fun hb956 => ?_)
                          · have hm := ite_t' hb956 hm
                            refine C_seq ?_
                            refine C_seq ?_
                            cases hb957 : (decide ((k107 : Int) = 0))
                            · have hm := ite_f' hb957 hm
                              cases hb958 : (decide (y751.B_ = (IntKind.i64.wrap ((k107 : Int) - 1))))
                              · have hm := ite_f' hb958 hm
                                refine C_region_tok0 26 (phiT [(fun H rs v => [] = rs ∧ .int .i64 ((k107 : Int)) = v), (fun H rs v => [] = rs ∧ .bool (false) = v), (fun H rs v => [] = rs ∧ .bool (false) = v), (fun H rs v => [] = rs ∧ .pointer (some ⟨b917, 3, none⟩) = v), (fun H rs v => [] = rs ∧ .int .i64 (y751.B_) = v), (fun H rs v => [] = rs ∧ .int .i64 ((k107 : Int)) = v), (fun H rs v => [] = rs ∧ .int .i64 (IntKind.i64.wrap ((k107 : Int) - 1)) = v), (fun H rs v => [] = rs ∧ .bool (true) = v), (fun H rs v => [] = rs ∧ .bool (true) = v), (fun H rs v => [] = rs ∧ .bool (true) = v), (fun H rs v => [] = rs ∧ undef = v), (fun H rs v => [] = rs ∧ undef = v), (fun H rs v => [] = rs ∧ undef = v), (fun H rs v => [] = rs ∧ undef = v), (fun H rs v => [] = rs ∧ undef = v), (fun H rs v => [] = rs ∧ undef = v), (fun H rs v => [] = rs ∧ .bool (true) = v), (fun H rs v => [] = rs ∧ .bool (true) = v), (fun H rs v => [] = rs ∧ undef = v), (fun H rs v => [] = rs ∧ undef = v), (fun H rs v => [] = rs ∧ undef = v), (fun H rs v => [] = rs ∧ undef = v), (fun H rs v => [] = rs ∧ undef = v), (fun H rs v => [] = rs ∧ undef = v), (fun H rs v => [] = rs ∧ undef = v), (fun H rs v => [] = rs ∧ undef = v)]) [[], [], [], [], [], [], [], [], [], [], [], [], [], [], [], [], [], [], [], [], [], [], [], [], [], []] [[], [], [], [], [], [], [], [], [], [], [], [], [], [], [], [], [], [], [], [], [], [], [], [], [], []] [] [0, 1, 2, 3, 4, 5, 6, 7, 8, 9, 10, 11, 12, 13, 14, 15, 16, 17, 18, 19, 20, 21, 22, 23, 24, 25] Facts.mixed (by kernel_rfl) rfl rfl rfl (by kernel_rfl) (phiT_mono ⟨eq_monoT _ _, eq_monoT _ _, eq_monoT _ _, eq_monoT _ _, eq_monoT _ _, eq_monoT _ _, eq_monoT _ _, eq_monoT _ _, eq_monoT _ _, eq_monoT _ _, eq_monoT _ _, eq_monoT _ _, eq_monoT _ _, eq_monoT _ _, eq_monoT _ _, eq_monoT _ _, eq_monoT _ _, eq_monoT _ _, eq_monoT _ _, eq_monoT _ _, eq_monoT _ _, eq_monoT _ _, eq_monoT _ _, eq_monoT _ _, eq_monoT _ _, eq_monoT _ _, trivial⟩) ⟨?_, ?_, ?_, ?_, ?_, ?_, ?_, ?_, ?_, ?_, ?_, ?_, ?_, ?_, ?_, ?_, ?_, ?_, ?_, ?_, ?_, ?_, ?_, ?_, ?_, ?_, trivial⟩ ?_
                                · intro HX hX X Rest hR
                                  intro hU
                                  refine W_move rfl rfl rfl ?_
                                  exact W_end (OneT_end [] (Hp.le_refl _) ⟨rfl, rfl⟩)
                                · intro HX hX X Rest hR
                                  rintro _ _ ⟨rfl, rfl⟩
                                  intro hU
                                  refine W_bin rfl rfl rfl rfl rfl ?_
                                  exact W_end (OneT_end [] (Hp.le_refl _) ⟨rfl, (by rw [hb957]; try rfl)⟩)
                                · intro HX hX X Rest hR
                                  rintro _ _ ⟨rfl, rfl⟩
                                  intro hU
                                  refine W_move rfl rfl rfl ?_
                                  exact W_end (OneT_end [] (Hp.le_refl _) ⟨rfl, rfl⟩)
                                · intro HX hX X Rest hR
                                  rintro _ _ ⟨rfl, rfl⟩
                                  intro hU
                                  refine W_field (o := 3) rfl rfl Proofs.Try.runUnderlying58 rfl Proofs.Try.sizeOf3 rfl rfl rfl ?_
                                  exact W_end (OneT_end [] (Hp.le_refl _) ⟨rfl, rfl⟩)
                                · intro HX hX X Rest hR
                                  rintro _ _ ⟨rfl, rfl⟩
                                  rintro _ _ ⟨rfl, rfl⟩
                                  intro hU
                                  refine W_load rfl rfl Proofs.Try.isAgg3 rfl (own_at (hR _ (List.mem_cons_of_mem _ (List.mem_cons_self ..))) rfl) ?_
                                  exact W_end (OneT_end [] (Hp.le_refl _) ⟨rfl, rfl⟩)
                                · intro HX hX X Rest hR
                                  rintro _ _ ⟨rfl, rfl⟩
                                  intro hU
                                  refine W_move rfl rfl rfl ?_
                                  exact W_end (OneT_end [] (Hp.le_refl _) ⟨rfl, rfl⟩)
                                · intro HX hX X Rest hR
                                  rintro _ _ ⟨rfl, rfl⟩
                                  rintro _ _ ⟨rfl, rfl⟩
                                  intro hU
                                  refine W_bin rfl rfl rfl rfl rfl ?_
                                  exact W_end (OneT_end [] (Hp.le_refl _) ⟨rfl, rfl⟩)
                                · intro HX hX X Rest hR
                                  rintro _ _ ⟨rfl, rfl⟩
                                  rintro _ _ ⟨rfl, rfl⟩
                                  rintro _ _ ⟨rfl, rfl⟩
                                  intro hU
                                  refine W_bin rfl rfl rfl rfl rfl ?_
                                  exact W_end (OneT_end [] (Hp.le_refl _) ⟨rfl, (by rw [hb958]; try rfl)⟩)
                                · intro HX hX X Rest hR
                                  rintro _ _ ⟨rfl, rfl⟩
                                  rintro _ _ ⟨rfl, rfl⟩
                                  intro hU
                                  refine W_pick rfl rfl rfl rfl ?_
                                  exact W_end (OneT_end [] (Hp.le_refl _) ⟨rfl, rfl⟩)
                                · intro HX hX X Rest hR
                                  rintro _ _ ⟨rfl, rfl⟩
                                  rintro _ _ ⟨rfl, rfl⟩
                                  intro hU
                                  refine W_move rfl rfl rfl ?_
                                  exact W_end (OneT_end [] (Hp.le_refl _) ⟨rfl, rfl⟩)
                                · intro HX hX X Rest hR
                                  rintro _ _ ⟨rfl, rfl⟩
                                  intro hU
                                  refine W_no rfl rfl rfl ?_
                                  exact W_end (OneT_end [] (Hp.le_refl _) ⟨rfl, rfl⟩)
                                · intro HX hX X Rest hR
                                  rintro _ _ ⟨rfl, rfl⟩
                                  intro hU
                                  refine W_no rfl rfl rfl ?_
                                  exact W_end (OneT_end [] (Hp.le_refl _) ⟨rfl, rfl⟩)
                                · intro HX hX X Rest hR
                                  rintro _ _ ⟨rfl, rfl⟩
                                  rintro _ _ ⟨rfl, rfl⟩
                                  intro hU
                                  refine W_no rfl rfl rfl ?_
                                  exact W_end (OneT_end [] (Hp.le_refl _) ⟨rfl, rfl⟩)
                                · intro HX hX X Rest hR
                                  rintro _ _ ⟨rfl, rfl⟩
                                  rintro _ _ ⟨rfl, rfl⟩
                                  rintro _ _ ⟨rfl, rfl⟩
                                  intro hU
                                  refine W_no rfl rfl rfl ?_
                                  exact W_end (OneT_end [] (Hp.le_refl _) ⟨rfl, rfl⟩)
                                · intro HX hX X Rest hR
                                  rintro _ _ ⟨rfl, rfl⟩
                                  rintro _ _ ⟨rfl, rfl⟩
                                  intro hU
                                  refine W_no rfl rfl rfl ?_
                                  exact W_end (OneT_end [] (Hp.le_refl _) ⟨rfl, rfl⟩)
                                · intro HX hX X Rest hR
                                  rintro _ _ ⟨rfl, rfl⟩
                                  rintro _ _ ⟨rfl, rfl⟩
                                  intro hU
                                  refine W_no rfl rfl rfl ?_
                                  exact W_end (OneT_end [] (Hp.le_refl _) ⟨rfl, rfl⟩)
                                · intro HX hX X Rest hR
                                  rintro _ _ ⟨rfl, rfl⟩
                                  rintro _ _ ⟨rfl, rfl⟩
                                  intro hU
                                  refine W_pick rfl rfl rfl rfl ?_
                                  exact W_end (OneT_end [] (Hp.le_refl _) ⟨rfl, rfl⟩)
                                · intro HX hX X Rest hR
                                  rintro _ _ ⟨rfl, rfl⟩
                                  rintro _ _ ⟨rfl, rfl⟩
                                  intro hU
                                  refine W_move rfl rfl rfl ?_
                                  exact W_end (OneT_end [] (Hp.le_refl _) ⟨rfl, rfl⟩)
                                · intro HX hX X Rest hR
                                  rintro _ _ ⟨rfl, rfl⟩
                                  intro hU
                                  refine W_no rfl rfl rfl ?_
                                  exact W_end (OneT_end [] (Hp.le_refl _) ⟨rfl, rfl⟩)
                                · intro HX hX X Rest hR
                                  rintro _ _ ⟨rfl, rfl⟩
                                  rintro _ _ ⟨rfl, rfl⟩
                                  intro hU
                                  refine W_no rfl rfl rfl ?_
                                  exact W_end (OneT_end [] (Hp.le_refl _) ⟨rfl, rfl⟩)
                                · intro HX hX X Rest hR
                                  rintro _ _ ⟨rfl, rfl⟩
                                  intro hU
                                  refine W_no rfl rfl rfl ?_
                                  exact W_end (OneT_end [] (Hp.le_refl _) ⟨rfl, rfl⟩)
                                · intro HX hX X Rest hR
                                  rintro _ _ ⟨rfl, rfl⟩
                                  intro hU
                                  refine W_no rfl rfl rfl ?_
                                  exact W_end (OneT_end [] (Hp.le_refl _) ⟨rfl, rfl⟩)
                                · intro HX hX X Rest hR
                                  rintro _ _ ⟨rfl, rfl⟩
                                  rintro _ _ ⟨rfl, rfl⟩
                                  intro hU
                                  refine W_no rfl rfl rfl ?_
                                  exact W_end (OneT_end [] (Hp.le_refl _) ⟨rfl, rfl⟩)
                                · intro HX hX X Rest hR
                                  rintro _ _ ⟨rfl, rfl⟩
                                  rintro _ _ ⟨rfl, rfl⟩
                                  rintro _ _ ⟨rfl, rfl⟩
                                  intro hU
                                  refine W_no rfl rfl rfl ?_
                                  exact W_end (OneT_end [] (Hp.le_refl _) ⟨rfl, rfl⟩)
                                · intro HX hX X Rest hR
                                  rintro _ _ ⟨rfl, rfl⟩
                                  rintro _ _ ⟨rfl, rfl⟩
                                  intro hU
                                  refine W_no rfl rfl rfl ?_
                                  exact W_end (OneT_end [] (Hp.le_refl _) ⟨rfl, rfl⟩)
                                · intro HX hX X Rest hR
                                  rintro _ _ ⟨rfl, rfl⟩
                                  rintro _ _ ⟨rfl, rfl⟩
                                  intro hU
                                  refine W_no rfl rfl rfl ?_
                                  exact W_end (OneT_end [] (Hp.le_refl _) ⟨rfl, rfl⟩)
                                intro H959 hle960
                                rintro _ _ ⟨rfl, rfl⟩
                                rintro _ _ ⟨rfl, rfl⟩
                                rintro _ _ ⟨rfl, rfl⟩
                                rintro _ _ ⟨rfl, rfl⟩
                                rintro _ _ ⟨rfl, rfl⟩
                                rintro _ _ ⟨rfl, rfl⟩
                                rintro _ _ ⟨rfl, rfl⟩
                                rintro _ _ ⟨rfl, rfl⟩
                                rintro _ _ ⟨rfl, rfl⟩
                                rintro _ _ ⟨rfl, rfl⟩
                                rintro _ _ ⟨rfl, rfl⟩
                                rintro _ _ ⟨rfl, rfl⟩
                                rintro _ _ ⟨rfl, rfl⟩
                                rintro _ _ ⟨rfl, rfl⟩
                                rintro _ _ ⟨rfl, rfl⟩
                                rintro _ _ ⟨rfl, rfl⟩
                                rintro _ _ ⟨rfl, rfl⟩
                                rintro _ _ ⟨rfl, rfl⟩
                                rintro _ _ ⟨rfl, rfl⟩
                                rintro _ _ ⟨rfl, rfl⟩
                                rintro _ _ ⟨rfl, rfl⟩
                                rintro _ _ ⟨rfl, rfl⟩
                                rintro _ _ ⟨rfl, rfl⟩
                                rintro _ _ ⟨rfl, rfl⟩
                                rintro _ _ ⟨rfl, rfl⟩
                                rintro _ _ ⟨rfl, rfl⟩
                                refine W_no rfl rfl rfl ?_
                                refine W_pick rfl rfl rfl rfl ?_
                                refine W_end ?_
                                refine E_then ?_
                                refine C_cond (b := true) rfl (fun _ => ?_) (fun hb => Bool.noConfusion hb)
                                refine C_seq ?_
                                refine C_region ?_
                                refine W_assign rfl rfl rfl ?_
                                refine W_end ?_
                                refine E_then ?_
                                refine C_ret ?_
                                refine E_ret_then ?_
                                refine E_ret_block ?_
                                refine E_ret_block ?_
                                refine E_ret_then ?_
                                refine E_ret_then ?_
                                refine E_ret_block ?_
                                refine E_ret_then ?_
                                obtain rfl := Option.some.inj hm
                                refine E_drop (List.Sublist.cons _ (List.Sublist.cons _ (List.Sublist.refl _))) ?_
                                refine E_weak (Hp.le_trans hle747 hle960) ?_
                                exact end1 rfl rfl ⟨rfl, rfl, rfl⟩
                              · have hm := ite_t' hb958 hm
                                obtain ⟨y961, h962, he963, hm⟩ := idx_some hm
                                obtain ⟨_, rfl, hg964⟩ := (hr930).elem he963
                                cases hb965 : (decide (y961 = 0))
                                · have hm := ite_f' hb965 hm
                                  obtain ⟨y966, h967, he968, hm⟩ := idx_some hm
                                  obtain ⟨_, rfl, hg969⟩ := (hr930).elem he968
                                  refine C_region_tok0 26 (phiT [(fun H rs v => [] = rs ∧ .int .i64 ((k107 : Int)) = v), (fun H rs v => [] = rs ∧ .bool (false) = v), (fun H rs v => [] = rs ∧ .bool (false) = v), (fun H rs v => [] = rs ∧ .pointer (some ⟨b917, 3, none⟩) = v), (fun H rs v => [] = rs ∧ .int .i64 (y751.B_) = v), (fun H rs v => [] = rs ∧ .int .i64 ((k107 : Int)) = v), (fun H rs v => [] = rs ∧ .int .i64 (IntKind.i64.wrap ((k107 : Int) - 1)) = v), (fun H rs v => [] = rs ∧ .bool (false) = v), (fun H rs v => [] = rs ∧ .bool (false) = v), (fun H rs v => [] = rs ∧ .bool (false) = v), (fun H rs v => [] = rs ∧ v104 = v), (fun H rs v => [] = rs ∧ .int .i64 ((k107 : Int)) = v), (fun H rs v => [] = rs ∧ .int .i64 (IntKind.i64.wrap ((k107 : Int) - 1)) = v), (fun H rs v => [] = rs ∧ .pointer (some ((Value.base (v104)).add ((IntKind.i64.wrap ((k107 : Int) - 1) : Int).toNat * Rep.sz Int))) = v), (fun H rs v => [] = rs ∧ .int .i64 (y961) = v), (fun H rs v => [] = rs ∧ .bool (false) = v), (fun H rs v => [] = rs ∧ .bool (false) = v), (fun H rs v => [] = rs ∧ .bool (false) = v), (fun H rs v => [] = rs ∧ .pointer (some ⟨b917, 2, none⟩) = v), (fun H rs v => [] = rs ∧ .int .i64 (y751.A) = v), (fun H rs v => [] = rs ∧ v104 = v), (fun H rs v => [] = rs ∧ .int .i64 ((k107 : Int)) = v), (fun H rs v => [] = rs ∧ .int .i64 (IntKind.i64.wrap ((k107 : Int) - 1)) = v), (fun H rs v => [] = rs ∧ .pointer (some ((Value.base (v104)).add ((IntKind.i64.wrap ((k107 : Int) - 1) : Int).toNat * Rep.sz Int))) = v), (fun H rs v => [] = rs ∧ .int .i64 (y966) = v), (fun H rs v => [] = rs ∧ .int .i64 (IntKind.i64.wrap (y966 - 1)) = v)]) [[], [], [], [], [], [], [], [], [], [], [], [], [], [], [], [], [], [], [], [], [], [], [], [], [], []] [[], [], [], [], [], [], [], [], [], [], [], [], [], [], [], [], [], [], [], [], [], [], [], [], [], []] [] [0, 1, 2, 3, 4, 5, 6, 7, 8, 9, 10, 11, 12, 13, 14, 15, 16, 17, 18, 19, 20, 21, 22, 23, 24, 25] Facts.mixed (by kernel_rfl) rfl rfl rfl (by kernel_rfl) (phiT_mono ⟨eq_monoT _ _, eq_monoT _ _, eq_monoT _ _, eq_monoT _ _, eq_monoT _ _, eq_monoT _ _, eq_monoT _ _, eq_monoT _ _, eq_monoT _ _, eq_monoT _ _, eq_monoT _ _, eq_monoT _ _, eq_monoT _ _, eq_monoT _ _, eq_monoT _ _, eq_monoT _ _, eq_monoT _ _, eq_monoT _ _, eq_monoT _ _, eq_monoT _ _, eq_monoT _ _, eq_monoT _ _, eq_monoT _ _, eq_monoT _ _, eq_monoT _ _, eq_monoT _ _, trivial⟩) ⟨?_, ?_, ?_, ?_, ?_, ?_, ?_, ?_, ?_, ?_, ?_, ?_, ?_, ?_, ?_, ?_, ?_, ?_, ?_, ?_, ?_, ?_, ?_, ?_, ?_, ?_, trivial⟩ ?_
                                  · intro HX hX X Rest hR
                                    intro hU
                                    refine W_move rfl rfl rfl ?_
                                    exact W_end (OneT_end [] (Hp.le_refl _) ⟨rfl, rfl⟩)
                                  · intro HX hX X Rest hR
                                    rintro _ _ ⟨rfl, rfl⟩
                                    intro hU
                                    refine W_bin rfl rfl rfl rfl rfl ?_
                                    exact W_end (OneT_end [] (Hp.le_refl _) ⟨rfl, (by rw [hb957]; try rfl)⟩)
                                  · intro HX hX X Rest hR
                                    rintro _ _ ⟨rfl, rfl⟩
                                    intro hU
                                    refine W_move rfl rfl rfl ?_
                                    exact W_end (OneT_end [] (Hp.le_refl _) ⟨rfl, rfl⟩)
                                  · intro HX hX X Rest hR
                                    rintro _ _ ⟨rfl, rfl⟩
                                    intro hU
                                    refine W_field (o := 3) rfl rfl Proofs.Try.runUnderlying58 rfl Proofs.Try.sizeOf3 rfl rfl rfl ?_
                                    exact W_end (OneT_end [] (Hp.le_refl _) ⟨rfl, rfl⟩)
                                  · intro HX hX X Rest hR
                                    rintro _ _ ⟨rfl, rfl⟩
                                    rintro _ _ ⟨rfl, rfl⟩
                                    intro hU
                                    refine W_load rfl rfl Proofs.Try.isAgg3 rfl (own_at (hR _ (List.mem_cons_of_mem _ (List.mem_cons_self ..))) rfl) ?_
                                    exact W_end (OneT_end [] (Hp.le_refl _) ⟨rfl, rfl⟩)
                                  · intro HX hX X Rest hR
                                    rintro _ _ ⟨rfl, rfl⟩
                                    intro hU
                                    refine W_move rfl rfl rfl ?_
                                    exact W_end (OneT_end [] (Hp.le_refl _) ⟨rfl, rfl⟩)
                                  · intro HX hX X Rest hR
                                    rintro _ _ ⟨rfl, rfl⟩
                                    rintro _ _ ⟨rfl, rfl⟩
                                    intro hU
                                    refine W_bin rfl rfl rfl rfl rfl ?_
                                    exact W_end (OneT_end [] (Hp.le_refl _) ⟨rfl, rfl⟩)
                                  · intro HX hX X Rest hR
                                    rintro _ _ ⟨rfl, rfl⟩
                                    rintro _ _ ⟨rfl, rfl⟩
                                    rintro _ _ ⟨rfl, rfl⟩
                                    intro hU
                                    refine W_bin rfl rfl rfl rfl rfl ?_
                                    exact W_end (OneT_end [] (Hp.le_refl _) ⟨rfl, (by rw [hb958]; try rfl)⟩)
                                  · intro HX hX X Rest hR
                                    rintro _ _ ⟨rfl, rfl⟩
                                    rintro _ _ ⟨rfl, rfl⟩
                                    intro hU
                                    refine W_pick rfl rfl rfl rfl ?_
                                    exact W_end (OneT_end [] (Hp.le_refl _) ⟨rfl, rfl⟩)
                                  · intro HX hX X Rest hR
                                    rintro _ _ ⟨rfl, rfl⟩
                                    rintro _ _ ⟨rfl, rfl⟩
                                    intro hU
                                    refine W_move rfl rfl rfl ?_
                                    exact W_end (OneT_end [] (Hp.le_refl _) ⟨rfl, rfl⟩)
                                  · intro HX hX X Rest hR
                                    rintro _ _ ⟨rfl, rfl⟩
                                    intro hU
                                    refine W_move rfl rfl rfl ?_
                                    exact W_end (OneT_end [] (Hp.le_refl _) ⟨rfl, rfl⟩)
                                  · intro HX hX X Rest hR
                                    rintro _ _ ⟨rfl, rfl⟩
                                    intro hU
                                    refine W_move rfl rfl rfl ?_
                                    exact W_end (OneT_end [] (Hp.le_refl _) ⟨rfl, rfl⟩)
                                  · intro HX hX X Rest hR
                                    rintro _ _ ⟨rfl, rfl⟩
                                    rintro _ _ ⟨rfl, rfl⟩
                                    intro hU
                                    refine W_bin rfl rfl rfl rfl rfl ?_
                                    exact W_end (OneT_end [] (Hp.le_refl _) ⟨rfl, rfl⟩)
                                  · intro HX hX X Rest hR
                                    rintro _ _ ⟨rfl, rfl⟩
                                    rintro _ _ ⟨rfl, rfl⟩
                                    rintro _ _ ⟨rfl, rfl⟩
                                    intro hU
                                    refine W_indexO (hR _ (List.mem_cons_self ..)) rfl rfl Proofs.Try.runUnderlying76 Proofs.Try.sizeOf3 rfl rfl h962 (List.getElem?_eq_some_iff.1 he963).1 ?_
                                    exact W_end (OneT_end [] (Hp.le_refl _) ⟨rfl, rfl⟩)
                                  · intro HX hX X Rest hR
                                    rintro _ _ ⟨rfl, rfl⟩
                                    rintro _ _ ⟨rfl, rfl⟩
                                    intro hU
                                    refine W_load rfl rfl Proofs.Try.isAgg3 rfl (row_one0 (hR _ (List.mem_cons_self ..)) hg964 rfl) ?_
                                    exact W_end (OneT_end [] (Hp.le_refl _) ⟨rfl, rfl⟩)
                                  · intro HX hX X Rest hR
                                    rintro _ _ ⟨rfl, rfl⟩
                                    rintro _ _ ⟨rfl, rfl⟩
                                    intro hU
                                    refine W_bin rfl rfl rfl rfl rfl ?_
                                    exact W_end (OneT_end [] (Hp.le_refl _) ⟨rfl, (by rw [hb965]; try rfl)⟩)
                                  · intro HX hX X Rest hR
                                    rintro _ _ ⟨rfl, rfl⟩
                                    rintro _ _ ⟨rfl, rfl⟩
                                    intro hU
                                    refine W_pick rfl rfl rfl rfl ?_
                                    exact W_end (OneT_end [] (Hp.le_refl _) ⟨rfl, rfl⟩)
                                  · intro HX hX X Rest hR
                                    rintro _ _ ⟨rfl, rfl⟩
                                    rintro _ _ ⟨rfl, rfl⟩
                                    intro hU
                                    refine W_move rfl rfl rfl ?_
                                    exact W_end (OneT_end [] (Hp.le_refl _) ⟨rfl, rfl⟩)
                                  · intro HX hX X Rest hR
                                    rintro _ _ ⟨rfl, rfl⟩
                                    intro hU
                                    refine W_field (o := 2) rfl rfl Proofs.Try.runUnderlying58 rfl Proofs.Try.sizeOf3 rfl rfl rfl ?_
                                    exact W_end (OneT_end [] (Hp.le_refl _) ⟨rfl, rfl⟩)
                                  · intro HX hX X Rest hR
                                    rintro _ _ ⟨rfl, rfl⟩
                                    rintro _ _ ⟨rfl, rfl⟩
                                    intro hU
                                    refine W_load rfl rfl Proofs.Try.isAgg3 rfl (own_at (hR _ (List.mem_cons_of_mem _ (List.mem_cons_self ..))) rfl) ?_
                                    exact W_end (OneT_end [] (Hp.le_refl _) ⟨rfl, rfl⟩)
                                  · intro HX hX X Rest hR
                                    rintro _ _ ⟨rfl, rfl⟩
                                    intro hU
                                    refine W_move rfl rfl rfl ?_
                                    exact W_end (OneT_end [] (Hp.le_refl _) ⟨rfl, rfl⟩)
                                  · intro HX hX X Rest hR
                                    rintro _ _ ⟨rfl, rfl⟩
                                    intro hU
                                    refine W_move rfl rfl rfl ?_
                                    exact W_end (OneT_end [] (Hp.le_refl _) ⟨rfl, rfl⟩)
                                  · intro HX hX X Rest hR
                                    rintro _ _ ⟨rfl, rfl⟩
                                    rintro _ _ ⟨rfl, rfl⟩
                                    intro hU
                                    refine W_bin rfl rfl rfl rfl rfl ?_
                                    exact W_end (OneT_end [] (Hp.le_refl _) ⟨rfl, rfl⟩)
                                  · intro HX hX X Rest hR
                                    rintro _ _ ⟨rfl, rfl⟩
                                    rintro _ _ ⟨rfl, rfl⟩
                                    rintro _ _ ⟨rfl, rfl⟩
                                    intro hU
                                    refine W_indexO (hR _ (List.mem_cons_self ..)) rfl rfl Proofs.Try.runUnderlying76 Proofs.Try.sizeOf3 rfl rfl h967 (List.getElem?_eq_some_iff.1 he968).1 ?_
                                    exact W_end (OneT_end [] (Hp.le_refl _) ⟨rfl, rfl⟩)
                                  · intro HX hX X Rest hR
                                    rintro _ _ ⟨rfl, rfl⟩
                                    rintro _ _ ⟨rfl, rfl⟩
                                    intro hU
                                    refine W_load rfl rfl Proofs.Try.isAgg3 rfl (row_one0 (hR _ (List.mem_cons_self ..)) hg969 rfl) ?_
                                    exact W_end (OneT_end [] (Hp.le_refl _) ⟨rfl, rfl⟩)
                                  · intro HX hX X Rest hR
                                    rintro _ _ ⟨rfl, rfl⟩
                                    rintro _ _ ⟨rfl, rfl⟩
                                    intro hU
                                    refine W_bin rfl rfl rfl rfl rfl ?_
                                    exact W_end (OneT_end [] (Hp.le_refl _) ⟨rfl, rfl⟩)
                                  intro H970 hle971
                                  rintro _ _ ⟨rfl, rfl⟩
                                  rintro _ _ ⟨rfl, rfl⟩
                                  rintro _ _ ⟨rfl, rfl⟩
                                  rintro _ _ ⟨rfl, rfl⟩
                                  rintro _ _ ⟨rfl, rfl⟩
                                  rintro _ _ ⟨rfl, rfl⟩
                                  rintro _ _ ⟨rfl, rfl⟩
                                  rintro _ _ ⟨rfl, rfl⟩
                                  rintro _ _ ⟨rfl, rfl⟩
                                  rintro _ _ ⟨rfl, rfl⟩
                                  rintro _ _ ⟨rfl, rfl⟩
                                  rintro _ _ ⟨rfl, rfl⟩
                                  rintro _ _ ⟨rfl, rfl⟩
                                  rintro _ _ ⟨rfl, rfl⟩
                                  rintro _ _ ⟨rfl, rfl⟩
                                  rintro _ _ ⟨rfl, rfl⟩
                                  rintro _ _ ⟨rfl, rfl⟩
                                  rintro _ _ ⟨rfl, rfl⟩
                                  rintro _ _ ⟨rfl, rfl⟩
                                  rintro _ _ ⟨rfl, rfl⟩
                                  rintro _ _ ⟨rfl, rfl⟩
                                  rintro _ _ ⟨rfl, rfl⟩
                                  rintro _ _ ⟨rfl, rfl⟩
                                  rintro _ _ ⟨rfl, rfl⟩
                                  rintro _ _ ⟨rfl, rfl⟩
                                  rintro _ _ ⟨rfl, rfl⟩
                                  refine W_bin rfl rfl rfl rfl rfl ?_
                                  refine W_pick rfl rfl rfl rfl ?_
                                  refine W_end ?_
                                  refine E_then ?_
                                  refine C_cond (b := !decide (y751.A = (IntKind.i64.wrap (y966 - 1)))) rfl (fun hb972 => ?_) (fun hb972 => ?_)
                                  · have hm := ite_t' hb972 hm
                                    refine C_seq ?_
                                    refine C_region ?_
                                    refine W_assign rfl rfl rfl ?_
                                    refine W_end ?_
                                    refine E_then ?_
                                    refine C_ret ?_
                                    refine E_ret_then ?_
                                    refine E_ret_block ?_
                                    refine E_ret_block ?_
                                    refine E_ret_then ?_
                                    refine E_ret_then ?_
                                    refine E_ret_block ?_
                                    refine E_ret_then ?_
                                    obtain rfl := Option.some.inj hm
                                    refine E_drop (List.Sublist.cons _ (List.Sublist.cons _ (List.Sublist.refl _))) ?_
                                    refine E_weak (Hp.le_trans hle747 hle971) ?_
                                    exact end1 rfl rfl ⟨rfl, rfl, rfl⟩
                                  · have hm := ite_f' hb972 hm
                                    refine C_skip ?_
                                    refine E_then ?_
                                    refine C_region ?_
                                    refine W_move rfl rfl rfl ?_
                                    refine W_move rfl rfl rfl ?_
                                    refine W_move rfl rfl rfl ?_
                                    refine W_field (o := 2) rfl rfl Proofs.Try.runUnderlying58 rfl Proofs.Try.sizeOf3 rfl rfl rfl ?_
                                    refine W_load rfl rfl Proofs.Try.isAgg3 rfl (own_at (List.mem_cons_of_mem _ (List.mem_cons_self ..)) rfl) ?_
                                    obtain ⟨y973, h974, he975, hm⟩ := idx_some hm
                                    refine W_indexO (List.mem_cons_self ..) rfl rfl Proofs.Try.runUnderlying76 Proofs.Try.sizeOf3 rfl rfl h974 (List.getElem?_eq_some_iff.1 he975).1 ?_
                                    obtain ⟨_, rfl, hg976⟩ := (hr930).elem he975
                                    refine W_load rfl rfl Proofs.Try.isAgg3 rfl (row_one0 (List.mem_cons_self ..) hg976 rfl) ?_
                                    obtain ⟨y977, h978, he979, hm⟩ := idx_some hm
                                    refine W_indexO (List.mem_cons_self ..) rfl rfl Proofs.Try.runUnderlying76 Proofs.Try.sizeOf3 rfl rfl h978 (List.getElem?_eq_some_iff.1 he979).1 ?_
                                    obtain ⟨_, rfl, hg980⟩ := (hr930).elem he979
                                    obtain ⟨hr981, he982, hg983⟩ := Rw.put (cs := [.int .i64 (y973)]) (o := 0) (c := [.int .i64 (y977)]) (out := [.int .i64 (y973)]) (e2 := y973) (hr930.mono hle971) he979 rfl hg980 rfl rfl rfl
                                    refine W_storeO2 (i := ((k107 : Int) : Int).toNat * Rep.sz Int + 0) (cs := [.int .i64 (y973)]) rfl Proofs.Try.sizeOf3 rfl (row_ad0 _ _) rfl rfl rfl (Rw.room (hr930.mono hle971) he979 rfl) rfl (all_cons rfl all_nil) (n' := ((l744.set (((k107 : Int) : Int).toNat) ((k107 : Int))).set (((k107 : Int) : Int).toNat) y973).length) List.length_set ?_
                                    generalize over xs933 (((k107 : Int) : Int).toNat * Rep.sz Int + 0) [.int .i64 (y973)] = xs984 at hr981 hg983 ⊢
                                    refine W_end ?_
                                    refine E_normal_block ?_
                                    refine E_normal_block ?_
                                    refine E_drop (List.Sublist.cons_cons _ (List.Sublist.cons _ (List.Sublist.refl _))) ?_
                                    exact E_keepJ (J915 _ _ _ ⟨((l744.set (((k107 : Int) : Int).toNat) ((k107 : Int))).set (((k107 : Int) : Int).toNat) y973), xs984, hm, hr981, hle971, rfl, rfl⟩) (List.Perm.refl _) ⟨rfl, rfl, rfl, rfl, rfl, trivial⟩
                                · have hm := ite_t' hb965 hm
                                  refine C_region_tok0 26 (phiT [(fun H rs v => [] = rs ∧ .int .i64 ((k107 : Int)) = v), (fun H rs v => [] = rs ∧ .bool (false) = v), (fun H rs v => [] = rs ∧ .bool (false) = v), (fun H rs v => [] = rs ∧ .pointer (some ⟨b917, 3, none⟩) = v), (fun H rs v => [] = rs ∧ .int .i64 (y751.B_) = v), (fun H rs v => [] = rs ∧ .int .i64 ((k107 : Int)) = v), (fun H rs v => [] = rs ∧ .int .i64 (IntKind.i64.wrap ((k107 : Int) - 1)) = v), (fun H rs v => [] = rs ∧ .bool (false) = v), (fun H rs v => [] = rs ∧ .bool (false) = v), (fun H rs v => [] = rs ∧ .bool (false) = v), (fun H rs v => [] = rs ∧ v104 = v), (fun H rs v => [] = rs ∧ .int .i64 ((k107 : Int)) = v), (fun H rs v => [] = rs ∧ .int .i64 (IntKind.i64.wrap ((k107 : Int) - 1)) = v), (fun H rs v => [] = rs ∧ .pointer (some ((Value.base (v104)).add ((IntKind.i64.wrap ((k107 : Int) - 1) : Int).toNat * Rep.sz Int))) = v), (fun H rs v => [] = rs ∧ .int .i64 (y961) = v), (fun H rs v => [] = rs ∧ .bool (true) = v), (fun H rs v => [] = rs ∧ .bool (true) = v), (fun H rs v => [] = rs ∧ .bool (true) = v), (fun H rs v => [] = rs ∧ undef = v), (fun H rs v => [] = rs ∧ undef = v), (fun H rs v => [] = rs ∧ undef = v), (fun H rs v => [] = rs ∧ undef = v), (fun H rs v => [] = rs ∧ undef = v), (fun H rs v => [] = rs ∧ undef = v), (fun H rs v => [] = rs ∧ undef = v), (fun H rs v => [] = rs ∧ undef = v)]) [[], [], [], [], [], [], [], [], [], [], [], [], [], [], [], [], [], [], [], [], [], [], [], [], [], []] [[], [], [], [], [], [], [], [], [], [], [], [], [], [], [], [], [], [], [], [], [], [], [], [], [], []] [] [0, 1, 2, 3, 4, 5, 6, 7, 8, 9, 10, 11, 12, 13, 14, 15, 16, 17, 18, 19, 20, 21, 22, 23, 24, 25] Facts.mixed (by kernel_rfl) rfl rfl rfl (by kernel_rfl) (phiT_mono ⟨eq_monoT _ _, eq_monoT _ _, eq_monoT _ _, eq_monoT _ _, eq_monoT _ _, eq_monoT _ _, eq_monoT _ _, eq_monoT _ _, eq_monoT _ _, eq_monoT _ _, eq_monoT _ _, eq_monoT _ _, eq_monoT _ _, eq_monoT _ _, eq_monoT _ _, eq_monoT _ _, eq_monoT _ _, eq_monoT _ _, eq_monoT _ _, eq_monoT _ _, eq_monoT _ _, eq_monoT _ _, eq_monoT _ _, eq_monoT _ _, eq_monoT _ _, eq_monoT _ _, trivial⟩) ⟨?_, ?_, ?_, ?_, ?_, ?_, ?_, ?_, ?_, ?_, ?_, ?_, ?_, ?_, ?_, ?_, ?_, ?_, ?_, ?_, ?_, ?_, ?_, ?_, ?_, ?_, trivial⟩ ?_
                                  · intro HX hX X Rest hR
                                    intro hU
                                    refine W_move rfl rfl rfl ?_
                                    exact W_end (OneT_end [] (Hp.le_refl _) ⟨rfl, rfl⟩)
                                  · intro HX hX X Rest hR
                                    rintro _ _ ⟨rfl, rfl⟩
                                    intro hU
                                    refine W_bin rfl rfl rfl rfl rfl ?_
                                    exact W_end (OneT_end [] (Hp.le_refl _) ⟨rfl, (by rw [hb957]; try rfl)⟩)
                                  · intro HX hX X Rest hR
                                    rintro _ _ ⟨rfl, rfl⟩
                                    intro hU
                                    refine W_move rfl rfl rfl ?_
                                    exact W_end (OneT_end [] (Hp.le_refl _) ⟨rfl, rfl⟩)
                                  · intro HX hX X Rest hR
                                    rintro _ _ ⟨rfl, rfl⟩
                                    intro hU
                                    refine W_field (o := 3) rfl rfl Proofs.Try.runUnderlying58 rfl Proofs.Try.sizeOf3 rfl rfl rfl ?_
                                    exact W_end (OneT_end [] (Hp.le_refl _) ⟨rfl, rfl⟩)
                                  · intro HX hX X Rest hR
                                    rintro _ _ ⟨rfl, rfl⟩
                                    rintro _ _ ⟨rfl, rfl⟩
                                    intro hU
                                    refine W_load rfl rfl Proofs.Try.isAgg3 rfl (own_at (hR _ (List.mem_cons_of_mem _ (List.mem_cons_self ..))) rfl) ?_
                                    exact W_end (OneT_end [] (Hp.le_refl _) ⟨rfl, rfl⟩)
                                  · intro HX hX X Rest hR
                                    rintro _ _ ⟨rfl, rfl⟩
                                    intro hU
                                    refine W_move rfl rfl rfl ?_
                                    exact W_end (OneT_end [] (Hp.le_refl _) ⟨rfl, rfl⟩)
                                  · intro HX hX X Rest hR
                                    rintro _ _ ⟨rfl, rfl⟩
                                    rintro _ _ ⟨rfl, rfl⟩
                                    intro hU
                                    refine W_bin rfl rfl rfl rfl rfl ?_
                                    exact W_end (OneT_end [] (Hp.le_refl _) ⟨rfl, rfl⟩)
                                  · intro HX hX X Rest hR
                                    rintro _ _ ⟨rfl, rfl⟩
                                    rintro _ _ ⟨rfl, rfl⟩
                                    rintro _ _ ⟨rfl, rfl⟩
                                    intro hU
                                    refine W_bin rfl rfl rfl rfl rfl ?_
                                    exact W_end (OneT_end [] (Hp.le_refl _) ⟨rfl, (by rw [hb958]; try rfl)⟩)
                                  · intro HX hX X Rest hR
                                    rintro _ _ ⟨rfl, rfl⟩
                                    rintro _ _ ⟨rfl, rfl⟩
                                    intro hU
                                    refine W_pick rfl rfl rfl rfl ?_
                                    exact W_end (OneT_end [] (Hp.le_refl _) ⟨rfl, rfl⟩)
                                  · intro HX hX X Rest hR
                                    rintro _ _ ⟨rfl, rfl⟩
                                    rintro _ _ ⟨rfl, rfl⟩
                                    intro hU
                                    refine W_move rfl rfl rfl ?_
                                    exact W_end (OneT_end [] (Hp.le_refl _) ⟨rfl, rfl⟩)
                                  · intro HX hX X Rest hR
                                    rintro _ _ ⟨rfl, rfl⟩
                                    intro hU
                                    refine W_move rfl rfl rfl ?_
                                    exact W_end (OneT_end [] (Hp.le_refl _) ⟨rfl, rfl⟩)
                                  · intro HX hX X Rest hR
                                    rintro _ _ ⟨rfl, rfl⟩
                                    intro hU
                                    refine W_move rfl rfl rfl ?_
                                    exact W_end (OneT_end [] (Hp.le_refl _) ⟨rfl, rfl⟩)
                                  · intro HX hX X Rest hR
                                    rintro _ _ ⟨rfl, rfl⟩
                                    rintro _ _ ⟨rfl, rfl⟩
                                    intro hU
                                    refine W_bin rfl rfl rfl rfl rfl ?_
                                    exact W_end (OneT_end [] (Hp.le_refl _) ⟨rfl, rfl⟩)
                                  · intro HX hX X Rest hR
                                    rintro _ _ ⟨rfl, rfl⟩
                                    rintro _ _ ⟨rfl, rfl⟩
                                    rintro _ _ ⟨rfl, rfl⟩
                                    intro hU
                                    refine W_indexO (hR _ (List.mem_cons_self ..)) rfl rfl Proofs.Try.runUnderlying76 Proofs.Try.sizeOf3 rfl rfl h962 (List.getElem?_eq_some_iff.1 he963).1 ?_
                                    exact W_end (OneT_end [] (Hp.le_refl _) ⟨rfl, rfl⟩)
                                  · intro HX hX X Rest hR
                                    rintro _ _ ⟨rfl, rfl⟩
                                    rintro _ _ ⟨rfl, rfl⟩
                                    intro hU
                                    refine W_load rfl rfl Proofs.Try.isAgg3 rfl (row_one0 (hR _ (List.mem_cons_self ..)) hg964 rfl) ?_
                                    exact W_end (OneT_end [] (Hp.le_refl _) ⟨rfl, rfl⟩)
                                  · intro HX hX X Rest hR
                                    rintro _ _ ⟨rfl, rfl⟩
                                    rintro _ _ ⟨rfl, rfl⟩
                                    intro hU
                                    refine W_bin rfl rfl rfl rfl rfl ?_
                                    exact W_end (OneT_end [] (Hp.le_refl _) ⟨rfl, (by rw [hb965]; try rfl)⟩)
                                  · intro HX hX X Rest hR
                                    rintro _ _ ⟨rfl, rfl⟩
                                    rintro _ _ ⟨rfl, rfl⟩
                                    intro hU
                                    refine W_pick rfl rfl rfl rfl ?_
                                    exact W_end (OneT_end [] (Hp.le_refl _) ⟨rfl, rfl⟩)
                                  · intro HX hX X Rest hR
                                    rintro _ _ ⟨rfl, rfl⟩
                                    rintro _ _ ⟨rfl, rfl⟩
                                    intro hU
                                    refine W_move rfl rfl rfl ?_
                                    exact W_end (OneT_end [] (Hp.le_refl _) ⟨rfl, rfl⟩)
                                  · intro HX hX X Rest hR
                                    rintro _ _ ⟨rfl, rfl⟩
                                    intro hU
                                    refine W_no rfl rfl rfl ?_
                                    exact W_end (OneT_end [] (Hp.le_refl _) ⟨rfl, rfl⟩)
                                  · intro HX hX X Rest hR
                                    rintro _ _ ⟨rfl, rfl⟩
                                    rintro _ _ ⟨rfl, rfl⟩
                                    intro hU
                                    refine W_no rfl rfl rfl ?_
                                    exact W_end (OneT_end [] (Hp.le_refl _) ⟨rfl, rfl⟩)
                                  · intro HX hX X Rest hR
                                    rintro _ _ ⟨rfl, rfl⟩
                                    intro hU
                                    refine W_no rfl rfl rfl ?_
                                    exact W_end (OneT_end [] (Hp.le_refl _) ⟨rfl, rfl⟩)
                                  · intro HX hX X Rest hR
                                    rintro _ _ ⟨rfl, rfl⟩
                                    intro hU
                                    refine W_no rfl rfl rfl ?_
                                    exact W_end (OneT_end [] (Hp.le_refl _) ⟨rfl, rfl⟩)
                                  · intro HX hX X Rest hR
                                    rintro _ _ ⟨rfl, rfl⟩
                                    rintro _ _ ⟨rfl, rfl⟩
                                    intro hU
                                    refine W_no rfl rfl rfl ?_
                                    exact W_end (OneT_end [] (Hp.le_refl _) ⟨rfl, rfl⟩)
                                  · intro HX hX X Rest hR
                                    rintro _ _ ⟨rfl, rfl⟩
                                    rintro _ _ ⟨rfl, rfl⟩
                                    rintro _ _ ⟨rfl, rfl⟩
                                    intro hU
                                    refine W_no rfl rfl rfl ?_
                                    exact W_end (OneT_end [] (Hp.le_refl _) ⟨rfl, rfl⟩)
                                  · intro HX hX X Rest hR
                                    rintro _ _ ⟨rfl, rfl⟩
                                    rintro _ _ ⟨rfl, rfl⟩
                                    intro hU
                                    refine W_no rfl rfl rfl ?_
                                    exact W_end (OneT_end [] (Hp.le_refl _) ⟨rfl, rfl⟩)
                                  · intro HX hX X Rest hR
                                    rintro _ _ ⟨rfl, rfl⟩
                                    rintro _ _ ⟨rfl, rfl⟩
                                    intro hU
                                    refine W_no rfl rfl rfl ?_
                                    exact W_end (OneT_end [] (Hp.le_refl _) ⟨rfl, rfl⟩)
                                  intro H985 hle986
                                  rintro _ _ ⟨rfl, rfl⟩
                                  rintro _ _ ⟨rfl, rfl⟩
                                  rintro _ _ ⟨rfl, rfl⟩
                                  rintro _ _ ⟨rfl, rfl⟩
                                  rintro _ _ ⟨rfl, rfl⟩
                                  rintro _ _ ⟨rfl, rfl⟩
                                  rintro _ _ ⟨rfl, rfl⟩
                                  rintro _ _ ⟨rfl, rfl⟩
                                  rintro _ _ ⟨rfl, rfl⟩
                                  rintro _ _ ⟨rfl, rfl⟩
                                  rintro _ _ ⟨rfl, rfl⟩
                                  rintro _ _ ⟨rfl, rfl⟩
                                  rintro _ _ ⟨rfl, rfl⟩
                                  rintro _ _ ⟨rfl, rfl⟩
                                  rintro _ _ ⟨rfl, rfl⟩
                                  rintro _ _ ⟨rfl, rfl⟩
                                  rintro _ _ ⟨rfl, rfl⟩
                                  rintro _ _ ⟨rfl, rfl⟩
                                  rintro _ _ ⟨rfl, rfl⟩
                                  rintro _ _ ⟨rfl, rfl⟩
                                  rintro _ _ ⟨rfl, rfl⟩
                                  rintro _ _ ⟨rfl, rfl⟩
                                  rintro _ _ ⟨rfl, rfl⟩
                                  rintro _ _ ⟨rfl, rfl⟩
                                  rintro _ _ ⟨rfl, rfl⟩
                                  rintro _ _ ⟨rfl, rfl⟩
                                  refine W_no rfl rfl rfl ?_
                                  refine W_pick rfl rfl rfl rfl ?_
                                  refine W_end ?_
                                  refine E_then ?_
                                  refine C_cond (b := true) rfl (fun _ => ?_) (fun hb => Bool.noConfusion hb)
                                  refine C_seq ?_
                                  refine C_region ?_
                                  refine W_assign rfl rfl rfl ?_
                                  refine W_end ?_
                                  refine E_then ?_
                                  refine C_ret ?_
                                  refine E_ret_then ?_
                                  refine E_ret_block ?_
                                  refine E_ret_block ?_
                                  refine E_ret_then ?_
                                  refine E_ret_then ?_
                                  refine E_ret_block ?_
                                  refine E_ret_then ?_
                                  obtain rfl := Option.some.inj hm
                                  refine E_drop (List.Sublist.cons _ (List.Sublist.cons _ (List.Sublist.refl _))) ?_
                                  refine E_weak (Hp.le_trans hle747 hle986) ?_
                                  exact end1 rfl rfl ⟨rfl, rfl, rfl⟩
                            · have hm := ite_t' hb957 hm
                              refine C_region_tok0 26 (phiT [(fun H rs v => [] = rs ∧ .int .i64 ((k107 : Int)) = v), (fun H rs v => [] = rs ∧ .bool (true) = v), (fun H rs v => [] = rs ∧ .bool (true) = v), (fun H rs v => [] = rs ∧ undef = v), (fun H rs v => [] = rs ∧ undef = v), (fun H rs v => [] = rs ∧ undef = v), (fun H rs v => [] = rs ∧ undef = v), (fun H rs v => [] = rs ∧ undef = v), (fun H rs v => [] = rs ∧ .bool (true) = v), (fun H rs v => [] = rs ∧ .bool (true) = v), (fun H rs v => [] = rs ∧ undef = v), (fun H rs v => [] = rs ∧ undef = v), (fun H rs v => [] = rs ∧ undef = v), (fun H rs v => [] = rs ∧ undef = v), (fun H rs v => [] = rs ∧ undef = v), (fun H rs v => [] = rs ∧ undef = v), (fun H rs v => [] = rs ∧ .bool (true) = v), (fun H rs v => [] = rs ∧ .bool (true) = v), (fun H rs v => [] = rs ∧ undef = v), (fun H rs v => [] = rs ∧ undef = v), (fun H rs v => [] = rs ∧ undef = v), (fun H rs v => [] = rs ∧ undef = v), (fun H rs v => [] = rs ∧ undef = v), (fun H rs v => [] = rs ∧ undef = v), (fun H rs v => [] = rs ∧ undef = v), (fun H rs v => [] = rs ∧ undef = v)]) [[], [], [], [], [], [], [], [], [], [], [], [], [], [], [], [], [], [], [], [], [], [], [], [], [], []] [[], [], [], [], [], [], [], [], [], [], [], [], [], [], [], [], [], [], [], [], [], [], [], [], [], []] [] [0, 1, 2, 3, 4, 5, 6, 7, 8, 9, 10, 11, 12, 13, 14, 15, 16, 17, 18, 19, 20, 21, 22, 23, 24, 25] Facts.mixed (by kernel_rfl) rfl rfl rfl (by kernel_rfl) (phiT_mono ⟨eq_monoT _ _, eq_monoT _ _, eq_monoT _ _, eq_monoT _ _, eq_monoT _ _, eq_monoT _ _, eq_monoT _ _, eq_monoT _ _, eq_monoT _ _, eq_monoT _ _, eq_monoT _ _, eq_monoT _ _, eq_monoT _ _, eq_monoT _ _, eq_monoT _ _, eq_monoT _ _, eq_monoT _ _, eq_monoT _ _, eq_monoT _ _, eq_monoT _ _, eq_monoT _ _, eq_monoT _ _, eq_monoT _ _, eq_monoT _ _, eq_monoT _ _, eq_monoT _ _, trivial⟩) ⟨?_, ?_, ?_, ?_, ?_, ?_, ?_, ?_, ?_, ?_, ?_, ?_, ?_, ?_, ?_, ?_, ?_, ?_, ?_, ?_, ?_, ?_, ?_, ?_, ?_, ?_, trivial⟩ ?_
                              · intro HX hX X Rest hR
                                intro hU
                                refine W_move rfl rfl rfl ?_
                                exact W_end (OneT_end [] (Hp.le_refl _) ⟨rfl, rfl⟩)
                              · intro HX hX X Rest hR
                                rintro _ _ ⟨rfl, rfl⟩
                                intro hU
                                refine W_bin rfl rfl rfl rfl rfl ?_
                                exact W_end (OneT_end [] (Hp.le_refl _) ⟨rfl, (by rw [hb957]; try rfl)⟩)
                              · intro HX hX X Rest hR
                                rintro _ _ ⟨rfl, rfl⟩
                                intro hU
                                refine W_move rfl rfl rfl ?_
                                exact W_end (OneT_end [] (Hp.le_refl _) ⟨rfl, rfl⟩)
                              · intro HX hX X Rest hR
                                rintro _ _ ⟨rfl, rfl⟩
                                intro hU
                                refine W_no rfl rfl rfl ?_
                                exact W_end (OneT_end [] (Hp.le_refl _) ⟨rfl, rfl⟩)
                              · intro HX hX X Rest hR
                                rintro _ _ ⟨rfl, rfl⟩
                                rintro _ _ ⟨rfl, rfl⟩
                                intro hU
                                refine W_no rfl rfl rfl ?_
                                exact W_end (OneT_end [] (Hp.le_refl _) ⟨rfl, rfl⟩)
                              · intro HX hX X Rest hR
                                rintro _ _ ⟨rfl, rfl⟩
                                intro hU
                                refine W_no rfl rfl rfl ?_
                                exact W_end (OneT_end [] (Hp.le_refl _) ⟨rfl, rfl⟩)
                              · intro HX hX X Rest hR
                                rintro _ _ ⟨rfl, rfl⟩
                                rintro _ _ ⟨rfl, rfl⟩
                                intro hU
                                refine W_no rfl rfl rfl ?_
                                exact W_end (OneT_end [] (Hp.le_refl _) ⟨rfl, rfl⟩)
                              · intro HX hX X Rest hR
                                rintro _ _ ⟨rfl, rfl⟩
                                rintro _ _ ⟨rfl, rfl⟩
                                rintro _ _ ⟨rfl, rfl⟩
                                intro hU
                                refine W_no rfl rfl rfl ?_
                                exact W_end (OneT_end [] (Hp.le_refl _) ⟨rfl, rfl⟩)
                              · intro HX hX X Rest hR
                                rintro _ _ ⟨rfl, rfl⟩
                                rintro _ _ ⟨rfl, rfl⟩
                                intro hU
                                refine W_pick rfl rfl rfl rfl ?_
                                exact W_end (OneT_end [] (Hp.le_refl _) ⟨rfl, rfl⟩)
                              · intro HX hX X Rest hR
                                rintro _ _ ⟨rfl, rfl⟩
                                rintro _ _ ⟨rfl, rfl⟩
                                intro hU
                                refine W_move rfl rfl rfl ?_
                                exact W_end (OneT_end [] (Hp.le_refl _) ⟨rfl, rfl⟩)
                              · intro HX hX X Rest hR
                                rintro _ _ ⟨rfl, rfl⟩
                                intro hU
                                refine W_no rfl rfl rfl ?_
                                exact W_end (OneT_end [] (Hp.le_refl _) ⟨rfl, rfl⟩)
                              · intro HX hX X Rest hR
                                rintro _ _ ⟨rfl, rfl⟩
                                intro hU
                                refine W_no rfl rfl rfl ?_
                                exact W_end (OneT_end [] (Hp.le_refl _) ⟨rfl, rfl⟩)
                              · intro HX hX X Rest hR
                                rintro _ _ ⟨rfl, rfl⟩
                                rintro _ _ ⟨rfl, rfl⟩
                                intro hU
                                refine W_no rfl rfl rfl ?_
                                exact W_end (OneT_end [] (Hp.le_refl _) ⟨rfl, rfl⟩)
                              · intro HX hX X Rest hR
                                rintro _ _ ⟨rfl, rfl⟩
                                rintro _ _ ⟨rfl, rfl⟩
                                rintro _ _ ⟨rfl, rfl⟩
                                intro hU
                                refine W_no rfl rfl rfl ?_
                                exact W_end (OneT_end [] (Hp.le_refl _) ⟨rfl, rfl⟩)
                              · intro HX hX X Rest hR
                                rintro _ _ ⟨rfl, rfl⟩
                                rintro _ _ ⟨rfl, rfl⟩
                                intro hU
                                refine W_no rfl rfl rfl ?_
                                exact W_end (OneT_end [] (Hp.le_refl _) ⟨rfl, rfl⟩)
                              · intro HX hX X Rest hR
                                rintro _ _ ⟨rfl, rfl⟩
                                rintro _ _ ⟨rfl, rfl⟩
                                intro hU
                                refine W_no rfl rfl rfl ?_
                                exact W_end (OneT_end [] (Hp.le_refl _) ⟨rfl, rfl⟩)
                              · intro HX hX X Rest hR
                                rintro _ _ ⟨rfl, rfl⟩
                                rintro _ _ ⟨rfl, rfl⟩
                                intro hU
                                refine W_pick rfl rfl rfl rfl ?_
                                exact W_end (OneT_end [] (Hp.le_refl _) ⟨rfl, rfl⟩)
                              · intro HX hX X Rest hR
                                rintro _ _ ⟨rfl, rfl⟩
                                rintro _ _ ⟨rfl, rfl⟩
                                intro hU
                                refine W_move rfl rfl rfl ?_
                                exact W_end (OneT_end [] (Hp.le_refl _) ⟨rfl, rfl⟩)
                              · intro HX hX X Rest hR
                                rintro _ _ ⟨rfl, rfl⟩
                                intro hU
                                refine W_no rfl rfl rfl ?_
                                exact W_end (OneT_end [] (Hp.le_refl _) ⟨rfl, rfl⟩)
                              · intro HX hX X Rest hR
                                rintro _ _ ⟨rfl, rfl⟩
                                rintro _ _ ⟨rfl, rfl⟩
                                intro hU
                                refine W_no rfl rfl rfl ?_
                                exact W_end (OneT_end [] (Hp.le_refl _) ⟨rfl, rfl⟩)
                              · intro HX hX X Rest hR
                                rintro _ _ ⟨rfl, rfl⟩
                                intro hU
                                refine W_no rfl rfl rfl ?_
                                exact W_end (OneT_end [] (Hp.le_refl _) ⟨rfl, rfl⟩)
                              · intro HX hX X Rest hR
                                rintro _ _ ⟨rfl, rfl⟩
                                intro hU
                                refine W_no rfl rfl rfl ?_
                                exact W_end (OneT_end [] (Hp.le_refl _) ⟨rfl, rfl⟩)
                              · intro HX hX X Rest hR
                                rintro _ _ ⟨rfl, rfl⟩
                                rintro _ _ ⟨rfl, rfl⟩
                                intro hU
                                refine W_no rfl rfl rfl ?_
                                exact W_end (OneT_end [] (Hp.le_refl _) ⟨rfl, rfl⟩)
                              · intro HX hX X Rest hR
                                rintro _ _ ⟨rfl, rfl⟩
                                rintro _ _ ⟨rfl, rfl⟩
                                rintro _ _ ⟨rfl, rfl⟩
                                intro hU
                                refine W_no rfl rfl rfl ?_
                                exact W_end (OneT_end [] (Hp.le_refl _) ⟨rfl, rfl⟩)
                              · intro HX hX X Rest hR
                                rintro _ _ ⟨rfl, rfl⟩
                                rintro _ _ ⟨rfl, rfl⟩
                                intro hU
                                refine W_no rfl rfl rfl ?_
                                exact W_end (OneT_end [] (Hp.le_refl _) ⟨rfl, rfl⟩)
                              · intro HX hX X Rest hR
                                rintro _ _ ⟨rfl, rfl⟩
                                rintro _ _ ⟨rfl, rfl⟩
                                intro hU
                                refine W_no rfl rfl rfl ?_
                                exact W_end (OneT_end [] (Hp.le_refl _) ⟨rfl, rfl⟩)
                              intro H987 hle988
                              rintro _ _ ⟨rfl, rfl⟩
                              rintro _ _ ⟨rfl, rfl⟩
                              rintro _ _ ⟨rfl, rfl⟩
                              rintro _ _ ⟨rfl, rfl⟩
                              rintro _ _ ⟨rfl, rfl⟩
                              rintro _ _ ⟨rfl, rfl⟩
                              rintro _ _ ⟨rfl, rfl⟩
                              rintro _ _ ⟨rfl, rfl⟩
                              rintro _ _ ⟨rfl, rfl⟩
                              rintro _ _ ⟨rfl, rfl⟩
                              rintro _ _ ⟨rfl, rfl⟩
                              rintro _ _ ⟨rfl, rfl⟩
                              rintro _ _ ⟨rfl, rfl⟩
                              rintro _ _ ⟨rfl, rfl⟩
                              rintro _ _ ⟨rfl, rfl⟩
                              rintro _ _ ⟨rfl, rfl⟩
                              rintro _ _ ⟨rfl, rfl⟩
                              rintro _ _ ⟨rfl, rfl⟩
                              rintro _ _ ⟨rfl, rfl⟩
                              rintro _ _ ⟨rfl, rfl⟩
                              rintro _ _ ⟨rfl, rfl⟩
                              rintro _ _ ⟨rfl, rfl⟩
                              rintro _ _ ⟨rfl, rfl⟩
                              rintro _ _ ⟨rfl, rfl⟩
                              rintro _ _ ⟨rfl, rfl⟩
                              rintro _ _ ⟨rfl, rfl⟩
                              refine W_no rfl rfl rfl ?_
                              refine W_pick rfl rfl rfl rfl ?_
                              refine W_end ?_
                              refine E_then ?_
                              refine C_cond (b := true) rfl (fun _ => ?_) (fun hb => Bool.noConfusion hb)
                              refine C_seq ?_
                              refine C_region ?_
                              refine W_assign rfl rfl rfl ?_
                              refine W_end ?_
                              refine E_then ?_
                              refine C_ret ?_
                              refine E_ret_then ?_
                              refine E_ret_block ?_
                              refine E_ret_block ?_
                              refine E_ret_then ?_
                              refine E_ret_then ?_
                              refine E_ret_block ?_
                              refine E_ret_then ?_
                              obtain rfl := Option.some.inj hm
                              refine E_drop (List.Sublist.cons _ (List.Sublist.cons _ (List.Sublist.refl _))) ?_
                              refine E_weak (Hp.le_trans hle747 hle988) ?_
                              exact end1 rfl rfl ⟨rfl, rfl, rfl⟩
                          · have hm := ite_f' hb956 hm
                            refine C_seq_join (fun H' M' L' => H746 = H' ∧ .row v104 3 (Rep.sz Int) (l744.set (((k107 : Int) : Int).toNat) ((k107 : Int))).length xs933 :: M = M' ∧ [(0, v0), (3, v104), (18, v0), (19, .int .i64 ((p0_l.length : Int))), (20, .int .i64 ((k107 : Int))), (71, .bool ((!decide (y751.A = 0)) || (!decide (y751.B_ = 0))))] = L') ?_ (fun J990 => ?_)
                            · rintro _ _ _ ⟨rfl, rfl, rfl⟩
                              refine C_cond (b := (!decide (y751.A = 0)) || (!decide (y751.B_ = 0))) rfl (fun hb991 => ?_) (fun hb991 => ?_)
                              · have hm := ite_t' hb991 hm
                                refine C_seq ?_
                                refine C_region ?_
                                refine W_assign rfl rfl rfl ?_
                                refine W_end ?_
                                refine E_then ?_
                                refine C_ret ?_
                                refine E_ret_block ?_
                                refine E_ret_block ?_
                                refine E_ret_then ?_
                                refine E_ret_then ?_
                                refine E_ret_block ?_
                                refine E_ret_then ?_
                                obtain rfl := Option.some.inj hm
                                refine E_drop (List.Sublist.cons _ (List.Sublist.refl _)) ?_
                                refine E_weak hle747 ?_
                                exact end1 rfl rfl ⟨rfl, rfl, rfl⟩
                              · have hm := ite_f' hb991 hm
                                refine C_skip ?_
                                refine E_normal_block ?_
                                refine E_normal_block ?_
                                exact E_keepJ (J915 _ _ _ ⟨(l744.set (((k107 : Int) : Int).toNat) ((k107 : Int))), xs933, hm, hr930, (Hp.le_refl _), rfl, rfl⟩) (List.Perm.refl _) ⟨rfl, rfl, rfl, rfl, rfl, trivial⟩
                            · refine C_region ?_
                              refine W_field (o := 2) rfl rfl Proofs.Try.runUnderlying58 rfl Proofs.Try.sizeOf3 rfl rfl rfl ?_
                              refine W_load rfl rfl Proofs.Try.isAgg3 rfl (own_at (List.mem_cons_of_mem _ (List.mem_cons_self ..)) rfl) ?_
                              refine W_bin rfl rfl rfl rfl rfl ?_
                              refine W_move rfl rfl rfl ?_
                              cases hb992 : (decide (y751.A = 0))
                              · refine W_no rfl rfl rfl ?_
                                refine W_no rfl rfl rfl ?_
                                refine W_no rfl rfl rfl ?_
                                refine W_pick rfl rfl rfl rfl ?_
                                refine W_end ?_
                                refine E_drop (List.Sublist.cons_cons _ (List.Sublist.cons _ (List.Sublist.refl _))) ?_
                                exact E_keepJ (J990 _ _ _ ⟨rfl, rfl, rfl⟩) (List.Perm.refl _) ⟨rfl, rfl, rfl, rfl, rfl, (by show some (Value.bool (true)) = some (Value.bool ((!decide (y751.A = 0)) || (!decide (y751.B_ = 0)))); simp only [hb101, hb102, hb922, hb923, hb925, hb934, hb956, hb992, Bool.and_true, Bool.true_and, Bool.false_and, Bool.and_false, Bool.or_true, Bool.true_or, Bool.or_false, Bool.false_or, Bool.not_true, Bool.not_false]), trivial⟩
                              · refine W_field (o := 3) rfl rfl Proofs.Try.runUnderlying58 rfl Proofs.Try.sizeOf3 rfl rfl rfl ?_
                                refine W_load rfl rfl Proofs.Try.isAgg3 rfl (own_at (List.mem_cons_of_mem _ (List.mem_cons_self ..)) rfl) ?_
                                refine W_bin rfl rfl rfl rfl rfl ?_
                                refine W_pick rfl rfl rfl rfl ?_
                                refine W_end ?_
                                refine E_drop (List.Sublist.cons_cons _ (List.Sublist.cons _ (List.Sublist.refl _))) ?_
                                exact E_keepJ (J990 _ _ _ ⟨rfl, rfl, rfl⟩) (List.Perm.refl _) ⟨rfl, rfl, rfl, rfl, rfl, (by show some (Value.bool (!decide (y751.B_ = 0))) = some (Value.bool ((!decide (y751.A = 0)) || (!decide (y751.B_ = 0)))); simp only [hb101, hb102, hb922, hb923, hb925, hb934, hb956, hb992, Bool.and_true, Bool.true_and, Bool.false_and, Bool.and_false, Bool.or_true, Bool.true_or, Bool.or_false, Bool.false_or, Bool.not_true, Bool.not_false]), trivial⟩
                        · refine C_seq ?_
                          refine C_region ?_
                          refine W_bin rfl rfl rfl rfl rfl ?_
                          refine W_assign rfl rfl rfl ?_
                          refine W_end ?_
                          refine E_then ?_
                          refine C_cond (b := decide (y751.Kind = 5)) rfl (fun hb993 => ?_) (fun hb993 => ?_)
                          · have hm := ite_t' hb993 hm
                            refine C_skip ?_
                            exact E_keepJ (J955 _ _ _ ⟨decide (y751.Kind = 5), hm, rfl, rfl, rfl⟩) (List.Perm.refl _) ⟨rfl, rfl, rfl, rfl, rfl, rfl, rfl, rfl, trivial⟩
                          · have hm := ite_f' hb993 hm
                            refine C_region ?_
                            refine W_bin rfl rfl rfl rfl rfl ?_
                            refine W_assign rfl rfl rfl ?_
                            refine W_end ?_
                            exact E_keepJ (J955 _ _ _ ⟨decide (y751.Kind = 6), hm, rfl, rfl, rfl⟩) (List.Perm.refl _) ⟨rfl, rfl, rfl, rfl, rfl, rfl, rfl, rfl, trivial⟩
                  · refine C_region ?_
                    refine W_move rfl rfl rfl ?_
                    refine W_un rfl rfl rfl rfl ?_
                    refine W_move rfl rfl rfl ?_
                    refine W_field (o := 1) rfl rfl Proofs.Try.runUnderlying58 rfl Proofs.Try.sizeOf9 rfl rfl rfl ?_
                    refine W_load rfl rfl Proofs.Try.isAgg9 rfl (own_at (List.mem_cons_self ..) rfl) ?_
                    refine W_bin rfl rfl rfl rfl rfl ?_
                    refine W_pick rfl rfl rfl rfl ?_
                    refine W_assign rfl rfl rfl ?_
                    refine W_end ?_
                    exact E_keepJ (J924 _ _ _ ⟨rfl, rfl, rfl⟩) (List.Perm.refl _) ⟨rfl, rfl, rfl, rfl, rfl, rfl, rfl, rfl, trivial⟩
                · have hm := ite_t' hb923 hm
                  refine W_field (o := 1) rfl rfl Proofs.Try.runUnderlying58 rfl Proofs.Try.sizeOf9 rfl rfl rfl ?_
                  refine W_load rfl rfl Proofs.Try.isAgg9 rfl (own_at (List.mem_cons_self ..) rfl) ?_
                  obtain ⟨r994, hc995, hm⟩ := bind_some hm
                  refine W_call Proofs.Try.call31 rfl rfl rfl (fun w ht => by have h := m_netmodel_Name_c (hm := hc995)  ht; exact h) ?_
                  rintro _ _ _ ⟨rfl, rfl, rfl⟩
                  refine W_un rfl rfl rfl rfl ?_
                  refine W_pick rfl rfl rfl rfl ?_
                  refine W_assign rfl rfl rfl ?_
                  refine W_end ?_
                  refine E_then ?_
                  refine C_cond (b := !r994) rfl (fun hb996 => ?_) (fun hb996 => ?_)
                  · have hm := ite_t' hb996 hm
                    refine C_seq ?_
                    refine C_region ?_
                    refine W_assign rfl rfl rfl ?_
                    refine W_end ?_
                    refine E_then ?_
                    refine C_ret ?_
                    refine E_ret_block ?_
                    refine E_ret_then ?_
                    refine E_ret_block ?_
                    refine E_ret_then ?_
                    refine E_ret_then ?_
                    refine E_ret_block ?_
                    refine E_ret_then ?_
                    obtain rfl := Option.some.inj hm
                    refine E_drop (List.Sublist.cons _ (List.Sublist.cons _ (List.Sublist.refl _))) ?_
                    refine E_weak hle747 ?_
                    exact end1 rfl rfl ⟨rfl, rfl, rfl⟩
                  · have hm := ite_f' hb996 hm
                    refine C_seq_join (fun H' M' L' => H746 = H' ∧ .obj b917 (.cells [.int .i64 (y751.Kind), .string (y751.Name), .int .i64 (y751.A), .int .i64 (y751.B_)].toArray 58 (0, 0)) :: .row v104 3 (Rep.sz Int) l744.length xs743 :: M = M' ∧ [(0, v0), (3, v104), (4, .int .i64 ((k107 : Int))), (5, .pointer (some ⟨b917, 0, none⟩)), (18, v0), (19, .int .i64 ((p0_l.length : Int))), (20, .int .i64 ((k107 : Int))), (50, .bool (false))] = L') ?_ (fun J997 => ?_)
                    · rintro _ _ _ ⟨rfl, rfl, rfl⟩
                      refine C_cond (b := false) rfl (fun hb => Bool.noConfusion hb) (fun _ => ?_)
                      refine C_skip ?_
                      refine E_normal_block ?_
                      refine E_then ?_
                      refine C_seq ?_
                      refine C_region ?_
                      refine W_move rfl rfl rfl ?_
                      refine W_move rfl rfl rfl ?_
                      refine W_move rfl rfl rfl ?_
                      obtain ⟨y998, h999, he1000, hm⟩ := idx_some hm
                      refine W_indexO (List.mem_cons_of_mem _ (List.mem_cons_self ..)) rfl rfl Proofs.Try.runUnderlying76 Proofs.Try.sizeOf3 rfl rfl h999 (List.getElem?_eq_some_iff.1 he1000).1 ?_
                      obtain ⟨_, rfl, hg1001⟩ := (hr745).elem he1000
                      refine W_perm (List.Perm.swap _ _ _) ?_
                      obtain ⟨hr1002, he1003, hg1004⟩ := Rw.put (cs := [.int .i64 ((k107 : Int))]) (o := 0) (c := [.int .i64 (y998)]) (out := [.int .i64 ((k107 : Int))]) (e2 := ((k107 : Int))) hr745 he1000 rfl hg1001 rfl rfl rfl
                      refine W_storeO2 (i := ((k107 : Int) : Int).toNat * Rep.sz Int + 0) (cs := [.int .i64 ((k107 : Int))]) rfl Proofs.Try.sizeOf3 rfl (row_ad0 _ _) rfl rfl rfl (Rw.room hr745 he1000 rfl) rfl (all_cons rfl all_nil) (n' := (l744.set (((k107 : Int) : Int).toNat) ((k107 : Int))).length) List.length_set ?_
                      generalize over xs743 (((k107 : Int) : Int).toNat * Rep.sz Int + 0) [.int .i64 ((k107 : Int))] = xs1005 at hr1002 hg1004 ⊢
                      refine W_end ?_
                      refine E_then ?_
                      refine C_seq ?_
                      refine C_region ?_
                      refine W_field (o := 0) rfl rfl Proofs.Try.runUnderlying58 rfl Proofs.Try.sizeOf3 rfl rfl rfl ?_
                      refine W_load rfl rfl Proofs.Try.isAgg3 rfl (own_at (List.mem_cons_of_mem _ (List.mem_cons_self ..)) rfl) ?_
                      refine W_end ?_
                      refine E_then ?_
                      refine C_block ?_
                      refine C_seq ?_
                      refine C_region ?_
                      refine W_bin rfl rfl rfl rfl rfl ?_
                      refine W_assign rfl rfl rfl ?_
                      refine W_end ?_
                      refine E_then ?_
                      refine C_cond (b := decide (y751.Kind = 4)) rfl (fun hb1006 => ?_) (fun hb1006 => ?_)
                      · have hm := ite_t' hb1006 hm
                        refine C_seq ?_
                        refine C_seq_join (fun H' M' L' => H746 = H' ∧ .row v104 3 (Rep.sz Int) (l744.set (((k107 : Int) : Int).toNat) ((k107 : Int))).length xs1005 :: .obj b917 (.cells [.int .i64 (y751.Kind), .string (y751.Name), .int .i64 (y751.A), .int .i64 (y751.B_)].toArray 58 (0, 0)) :: M = M' ∧ [(0, v0), (3, v104), (4, .int .i64 ((k107 : Int))), (5, .pointer (some ⟨b917, 0, none⟩)), (18, v0), (19, .int .i64 ((p0_l.length : Int))), (20, .int .i64 ((k107 : Int))), (87, .bool (((decide ((k107 : Int) = 0)) || (!decide (y751.A = (IntKind.i64.wrap ((k107 : Int) - 1))))) || (!decide (y751.B_ = 0))))] = L') ?_ (fun J1009 => ?_)
                        · rintro _ _ _ ⟨rfl, rfl, rfl⟩
                          refine C_cond (b := ((decide ((k107 : Int) = 0)) || (!decide (y751.A = (IntKind.i64.wrap ((k107 : Int) - 1))))) || (!decide (y751.B_ = 0))) rfl (fun hb1010 => ?_) (fun hb1010 => ?_)
                          · have hm := ite_t' hb1010 hm
                            refine C_seq ?_
                            refine C_region ?_
                            refine W_assign rfl rfl rfl ?_
                            refine W_end ?_
                            refine E_then ?_
                            refine C_ret ?_
                            refine E_ret_then ?_
                            refine E_ret_block ?_
                            refine E_ret_block ?_
                            refine E_ret_then ?_
                            refine E_ret_then ?_
                            refine E_ret_block ?_
                            refine E_ret_then ?_
                            obtain rfl := Option.some.inj hm
                            refine E_drop (List.Sublist.cons _ (List.Sublist.cons _ (List.Sublist.refl _))) ?_
                            refine E_weak hle747 ?_
                            exact end1 rfl rfl ⟨rfl, rfl, rfl⟩
                          · have hm := ite_f' hb1010 hm
                            refine C_skip ?_
                            refine E_then ?_
                            refine C_region ?_
                            refine W_move rfl rfl rfl ?_
                            refine W_move rfl rfl rfl ?_
                            refine W_move rfl rfl rfl ?_
                            refine W_field (o := 2) rfl rfl Proofs.Try.runUnderlying58 rfl Proofs.Try.sizeOf3 rfl rfl rfl ?_
                            refine W_load rfl rfl Proofs.Try.isAgg3 rfl (own_at (List.mem_cons_of_mem _ (List.mem_cons_self ..)) rfl) ?_
                            obtain ⟨y1011, h1012, he1013, hm⟩ := idx_some hm
                            refine W_indexO (List.mem_cons_self ..) rfl rfl Proofs.Try.runUnderlying76 Proofs.Try.sizeOf3 rfl rfl h1012 (List.getElem?_eq_some_iff.1 he1013).1 ?_
                            obtain ⟨_, rfl, hg1014⟩ := (hr1002).elem he1013
                            refine W_load rfl rfl Proofs.Try.isAgg3 rfl (row_one0 (List.mem_cons_self ..) hg1014 rfl) ?_
                            obtain ⟨y1015, h1016, he1017, hm⟩ := idx_some hm
                            refine W_indexO (List.mem_cons_self ..) rfl rfl Proofs.Try.runUnderlying76 Proofs.Try.sizeOf3 rfl rfl h1016 (List.getElem?_eq_some_iff.1 he1017).1 ?_
                            obtain ⟨_, rfl, hg1018⟩ := (hr1002).elem he1017
                            obtain ⟨hr1019, he1020, hg1021⟩ := Rw.put (cs := [.int .i64 (y1011)]) (o := 0) (c := [.int .i64 (y1015)]) (out := [.int .i64 (y1011)]) (e2 := y1011) hr1002 he1017 rfl hg1018 rfl rfl rfl
                            refine W_storeO2 (i := ((k107 : Int) : Int).toNat * Rep.sz Int + 0) (cs := [.int .i64 (y1011)]) rfl Proofs.Try.sizeOf3 rfl (row_ad0 _ _) rfl rfl rfl (Rw.room hr1002 he1017 rfl) rfl (all_cons rfl all_nil) (n' := ((l744.set (((k107 : Int) : Int).toNat) ((k107 : Int))).set (((k107 : Int) : Int).toNat) y1011).length) List.length_set ?_
                            generalize over xs1005 (((k107 : Int) : Int).toNat * Rep.sz Int + 0) [.int .i64 (y1011)] = xs1022 at hr1019 hg1021 ⊢
                            refine W_end ?_
                            refine E_normal_block ?_
                            refine E_normal_block ?_
                            refine E_drop (List.Sublist.cons_cons _ (List.Sublist.cons _ (List.Sublist.refl _))) ?_
                            exact E_keepJ (J915 _ _ _ ⟨((l744.set (((k107 : Int) : Int).toNat) ((k107 : Int))).set (((k107 : Int) : Int).toNat) y1011), xs1022, hm, hr1019, (Hp.le_refl _), rfl, rfl⟩) (List.Perm.refl _) ⟨rfl, rfl, rfl, rfl, rfl, trivial⟩
                        · refine C_region ?_
                          refine W_move rfl rfl rfl ?_
                          refine W_bin rfl rfl rfl rfl rfl ?_
                          refine W_move rfl rfl rfl ?_
                          cases hb1023 : (decide ((k107 : Int) = 0))
                          · refine W_field (o := 2) rfl rfl Proofs.Try.runUnderlying58 rfl Proofs.Try.sizeOf3 rfl rfl rfl ?_
                            refine W_load rfl rfl Proofs.Try.isAgg3 rfl (own_at (List.mem_cons_of_mem _ (List.mem_cons_self ..)) rfl) ?_
                            refine W_move rfl rfl rfl ?_
                            refine W_bin rfl rfl rfl rfl rfl ?_
                            refine W_bin rfl rfl rfl rfl rfl ?_
                            refine W_pick rfl rfl rfl rfl ?_
                            refine W_move rfl rfl rfl ?_
                            cases hb1024 : (decide (y751.A = (IntKind.i64.wrap ((k107 : Int) - 1))))
                            · refine W_no rfl rfl rfl ?_
                              refine W_no rfl rfl rfl ?_
                              refine W_no rfl rfl rfl ?_
                              refine W_pick rfl rfl rfl rfl ?_
                              refine W_end ?_
                              exact E_keepJ (J1009 _ _ _ ⟨rfl, rfl, rfl⟩) (List.Perm.refl _) ⟨rfl, rfl, rfl, rfl, rfl, rfl, rfl, (by show some (Value.bool (true)) = some (Value.bool (((decide ((k107 : Int) = 0)) || (!decide (y751.A = (IntKind.i64.wrap ((k107 : Int) - 1))))) || (!decide (y751.B_ = 0)))); simp only [hb101, hb102, hb922, hb923, hb996, hb1006, hb1023, hb1024, Bool.and_true, Bool.true_and, Bool.false_and, Bool.and_false, Bool.or_true, Bool.true_or, Bool.or_false, Bool.false_or, Bool.not_true, Bool.not_false]), trivial⟩
                            · refine W_field (o := 3) rfl rfl Proofs.Try.runUnderlying58 rfl Proofs.Try.sizeOf3 rfl rfl rfl ?_
                              refine W_load rfl rfl Proofs.Try.isAgg3 rfl (own_at (List.mem_cons_of_mem _ (List.mem_cons_self ..)) rfl) ?_
                              refine W_bin rfl rfl rfl rfl rfl ?_
                              refine W_pick rfl rfl rfl rfl ?_
                              refine W_end ?_
                              exact E_keepJ (J1009 _ _ _ ⟨rfl, rfl, rfl⟩) (List.Perm.refl _) ⟨rfl, rfl, rfl, rfl, rfl, rfl, rfl, (by show some (Value.bool (!decide (y751.B_ = 0))) = some (Value.bool (((decide ((k107 : Int) = 0)) || (!decide (y751.A = (IntKind.i64.wrap ((k107 : Int) - 1))))) || (!decide (y751.B_ = 0)))); simp only [hb101, hb102, hb922, hb923, hb996, hb1006, hb1023, hb1024, Bool.and_true, Bool.true_and, Bool.false_and, Bool.and_false, Bool.or_true, Bool.true_or, Bool.or_false, Bool.false_or, Bool.not_true, Bool.not_false]), trivial⟩
                          · refine W_no rfl rfl rfl ?_
                            refine W_no rfl rfl rfl ?_
                            refine W_no rfl rfl rfl ?_
                            refine W_no rfl rfl rfl ?_
                            refine W_no rfl rfl rfl ?_
                            refine W_pick rfl rfl rfl rfl ?_
                            refine W_move rfl rfl rfl ?_
                            refine W_no rfl rfl rfl ?_
                            refine W_no rfl rfl rfl ?_
                            refine W_no rfl rfl rfl ?_
                            refine W_pick rfl rfl rfl rfl ?_
                            refine W_end ?_
                            exact E_keepJ (J1009 _ _ _ ⟨rfl, rfl, rfl⟩) (List.Perm.refl _) ⟨rfl, rfl, rfl, rfl, rfl, rfl, rfl, (by show some (Value.bool (true)) = some (Value.bool (((decide ((k107 : Int) = 0)) || (!decide (y751.A = (IntKind.i64.wrap ((k107 : Int) - 1))))) || (!decide (y751.B_ = 0)))); simp only [hb101, hb102, hb922, hb923, hb996, hb1006, hb1023, Bool.and_true, Bool.true_and, Bool.false_and, Bool.and_false, Bool.or_true, Bool.true_or, Bool.or_false, Bool.false_or, Bool.not_true, Bool.not_false]), trivial⟩
                      · have hm := ite_f' hb1006 hm
                        refine C_seq_join (fun H' M' L' => ∃ c1026 : Bool, m_interlock_condition_b16 l744 nx748 y751 k107 c1026 = some r ∧ H746 = H' ∧ .row v104 3 (Rep.sz Int) (l744.set (((k107 : Int) : Int).toNat) ((k107 : Int))).length xs1005 :: .obj b917 (.cells [.int .i64 (y751.Kind), .string (y751.Name), .int .i64 (y751.A), .int .i64 (y751.B_)].toArray 58 (0, 0)) :: M = M' ∧ [(0, v0), (3, v104), (4, .int .i64 ((k107 : Int))), (5, .pointer (some ⟨b917, 0, none⟩)), (18, v0), (19, .int .i64 ((p0_l.length : Int))), (20, .int .i64 ((k107 : Int))), (96, .bool (c1026))] = L') ?_ (fun J1027 => ?_)
                        · rintro _ _ _ ⟨c1026, hm, rfl, rfl, rfl⟩
                          unfold m_interlock_condition_b16 at hm
                          refine C_cond (b := c1026) rfl (fun hb1028 => ?_) (fun hb1028 => ?_)
                          · have hm := ite_t' hb1028 hm
                            refine C_seq ?_
                            refine C_seq ?_
                            cases hb1029 : (decide ((k107 : Int) = 0))
                            · have hm := ite_f' hb1029 hm
                              cases hb1030 : (decide (y751.B_ = (IntKind.i64.wrap ((k107 : Int) - 1))))
                              · have hm := ite_f' hb1030 hm
                                refine C_region_tok0 26 (phiT [(fun H rs v => [] = rs ∧ .int .i64 ((k107 : Int)) = v), (fun H rs v => [] = rs ∧ .bool (false) = v), (fun H rs v => [] = rs ∧ .bool (false) = v), (fun H rs v => [] = rs ∧ .pointer (some ⟨b917, 3, none⟩) = v), (fun H rs v => [] = rs ∧ .int .i64 (y751.B_) = v), (fun H rs v => [] = rs ∧ .int .i64 ((k107 : Int)) = v), (fun H rs v => [] = rs ∧ .int .i64 (IntKind.i64.wrap ((k107 : Int) - 1)) = v), (fun H rs v => [] = rs ∧ .bool (true) = v), (fun H rs v => [] = rs ∧ .bool (true) = v), (fun H rs v => [] = rs ∧ .bool (true) = v), (fun H rs v => [] = rs ∧ undef = v), (fun H rs v => [] = rs ∧ undef = v), (fun H rs v => [] = rs ∧ undef = v), (fun H rs v => [] = rs ∧ undef = v), (fun H rs v => [] = rs ∧ undef = v), (fun H rs v => [] = rs ∧ undef = v), (fun H rs v => [] = rs ∧ .bool (true) = v), (fun H rs v => [] = rs ∧ .bool (true) = v), (fun H rs v => [] = rs ∧ undef = v), (fun H rs v => [] = rs ∧ undef = v), (fun H rs v => [] = rs ∧ undef = v), (fun H rs v => [] = rs ∧ undef = v), (fun H rs v => [] = rs ∧ undef = v), (fun H rs v => [] = rs ∧ undef = v), (fun H rs v => [] = rs ∧ undef = v), (fun H rs v => [] = rs ∧ undef = v)]) [[], [], [], [], [], [], [], [], [], [], [], [], [], [], [], [], [], [], [], [], [], [], [], [], [], []] [[], [], [], [], [], [], [], [], [], [], [], [], [], [], [], [], [], [], [], [], [], [], [], [], [], []] [] [0, 1, 2, 3, 4, 5, 6, 7, 8, 9, 10, 11, 12, 13, 14, 15, 16, 17, 18, 19, 20, 21, 22, 23, 24, 25] Facts.mixed (by kernel_rfl) rfl rfl rfl (by kernel_rfl) (phiT_mono ⟨eq_monoT _ _, eq_monoT _ _, eq_monoT _ _, eq_monoT _ _, eq_monoT _ _, eq_monoT _ _, eq_monoT _ _, eq_monoT _ _, eq_monoT _ _, eq_monoT _ _, eq_monoT _ _, eq_monoT _ _, eq_monoT _ _, eq_monoT _ _, eq_monoT _ _, eq_monoT _ _, eq_monoT _ _, eq_monoT _ _, eq_monoT _ _, eq_monoT _ _, eq_monoT _ _, eq_monoT _ _, eq_monoT _ _, eq_monoT _ _, eq_monoT _ _, eq_monoT _ _, trivial⟩) ⟨?_, ?_, ?_, ?_, ?_, ?_, ?_, ?_, ?_, ?_, ?_, ?_, ?_, ?_, ?_, ?_, ?_, ?_, ?_, ?_, ?_, ?_, ?_, ?_, ?_, ?_, trivial⟩ ?_
                                · intro HX hX X Rest hR
                                  intro hU
                                  refine W_move rfl rfl rfl ?_
                                  exact W_end (OneT_end [] (Hp.le_refl _) ⟨rfl, rfl⟩)
                                · intro HX hX X Rest hR
                                  rintro _ _ ⟨rfl, rfl⟩
                                  intro hU
                                  refine W_bin rfl rfl rfl rfl rfl ?_
                                  exact W_end (OneT_end [] (Hp.le_refl _) ⟨rfl, (by rw [hb1029]; try rfl)⟩)
                                · intro HX hX X Rest hR
                                  rintro _ _ ⟨rfl, rfl⟩
                                  intro hU
                                  refine W_move rfl rfl rfl ?_
                                  exact W_end (OneT_end [] (Hp.le_refl _) ⟨rfl, rfl⟩)
                                · intro HX hX X Rest hR
                                  rintro _ _ ⟨rfl, rfl⟩
                                  intro hU
                                  refine W_field (o := 3) rfl rfl Proofs.Try.runUnderlying58 rfl Proofs.Try.sizeOf3 rfl rfl rfl ?_
                                  exact W_end (OneT_end [] (Hp.le_refl _) ⟨rfl, rfl⟩)
                                · intro HX hX X Rest hR
                                  rintro _ _ ⟨rfl, rfl⟩
                                  rintro _ _ ⟨rfl, rfl⟩
                                  intro hU
                                  refine W_load rfl rfl Proofs.Try.isAgg3 rfl (own_at (hR _ (List.mem_cons_of_mem _ (List.mem_cons_self ..))) rfl) ?_
                                  exact W_end (OneT_end [] (Hp.le_refl _) ⟨rfl, rfl⟩)
                                · intro HX hX X Rest hR
                                  rintro _ _ ⟨rfl, rfl⟩
                                  intro hU
                                  refine W_move rfl rfl rfl ?_
                                  exact W_end (OneT_end [] (Hp.le_refl _) ⟨rfl, rfl⟩)
                                · intro HX hX X Rest hR
                                  rintro _ _ ⟨rfl, rfl⟩
                                  rintro _ _ ⟨rfl, rfl⟩
                                  intro hU
                                  refine W_bin rfl rfl rfl rfl rfl ?_
                                  exact W_end (OneT_end [] (Hp.le_refl _) ⟨rfl, rfl⟩)
                                · intro HX hX X Rest hR
                                  rintro _ _ ⟨rfl, rfl⟩
                                  rintro _ _ ⟨rfl, rfl⟩
                                  rintro _ _ ⟨rfl, rfl⟩
                                  intro hU
                                  refine W_bin rfl rfl rfl rfl rfl ?_
                                  exact W_end (OneT_end [] (Hp.le_refl _) ⟨rfl, (by rw [hb1030]; try rfl)⟩)
                                · intro HX hX X Rest hR
                                  rintro _ _ ⟨rfl, rfl⟩
                                  rintro _ _ ⟨rfl, rfl⟩
                                  intro hU
                                  refine W_pick rfl rfl rfl rfl ?_
                                  exact W_end (OneT_end [] (Hp.le_refl _) ⟨rfl, rfl⟩)
                                · intro HX hX X Rest hR
                                  rintro _ _ ⟨rfl, rfl⟩
                                  rintro _ _ ⟨rfl, rfl⟩
                                  intro hU
                                  refine W_move rfl rfl rfl ?_
                                  exact W_end (OneT_end [] (Hp.le_refl _) ⟨rfl, rfl⟩)
                                · intro HX hX X Rest hR
                                  rintro _ _ ⟨rfl, rfl⟩
                                  intro hU
                                  refine W_no rfl rfl rfl ?_
                                  exact W_end (OneT_end [] (Hp.le_refl _) ⟨rfl, rfl⟩)
                                · intro HX hX X Rest hR
                                  rintro _ _ ⟨rfl, rfl⟩
                                  intro hU
                                  refine W_no rfl rfl rfl ?_
                                  exact W_end (OneT_end [] (Hp.le_refl _) ⟨rfl, rfl⟩)
                                · intro HX hX X Rest hR
                                  rintro _ _ ⟨rfl, rfl⟩
                                  rintro _ _ ⟨rfl, rfl⟩
                                  intro hU
                                  refine W_no rfl rfl rfl ?_
                                  exact W_end (OneT_end [] (Hp.le_refl _) ⟨rfl, rfl⟩)
                                · intro HX hX X Rest hR
                                  rintro _ _ ⟨rfl, rfl⟩
                                  rintro _ _ ⟨rfl, rfl⟩
                                  rintro _ _ ⟨rfl, rfl⟩
                                  intro hU
                                  refine W_no rfl rfl rfl ?_
                                  exact W_end (OneT_end [] (Hp.le_refl _) ⟨rfl, rfl⟩)
                                · intro HX hX X Rest hR
                                  rintro _ _ ⟨rfl, rfl⟩
                                  rintro _ _ ⟨rfl, rfl⟩
                                  intro hU
                                  refine W_no rfl rfl rfl ?_
                                  exact W_end (OneT_end [] (Hp.le_refl _) ⟨rfl, rfl⟩)
                                · intro HX hX X Rest hR
                                  rintro _ _ ⟨rfl, rfl⟩
                                  rintro _ _ ⟨rfl, rfl⟩
                                  intro hU
                                  refine W_no rfl rfl rfl ?_
                                  exact W_end (OneT_end [] (Hp.le_refl _) ⟨rfl, rfl⟩)
                                · intro HX hX X Rest hR
                                  rintro _ _ ⟨rfl, rfl⟩
                                  rintro _ _ ⟨rfl, rfl⟩
                                  intro hU
                                  refine W_pick rfl rfl rfl rfl ?_
                                  exact W_end (OneT_end [] (Hp.le_refl _) ⟨rfl, rfl⟩)
                                · intro HX hX X Rest hR
                                  rintro _ _ ⟨rfl, rfl⟩
                                  rintro _ _ ⟨rfl, rfl⟩
                                  intro hU
                                  refine W_move rfl rfl rfl ?_
                                  exact W_end (OneT_end [] (Hp.le_refl _) ⟨rfl, rfl⟩)
                                · intro HX hX X Rest hR
                                  rintro _ _ ⟨rfl, rfl⟩
                                  intro hU
                                  refine W_no rfl rfl rfl ?_
                                  exact W_end (OneT_end [] (Hp.le_refl _) ⟨rfl, rfl⟩)
                                · intro HX hX X Rest hR
                                  rintro _ _ ⟨rfl, rfl⟩
                                  rintro _ _ ⟨rfl, rfl⟩
                                  intro hU
                                  refine W_no rfl rfl rfl ?_
                                  exact W_end (OneT_end [] (Hp.le_refl _) ⟨rfl, rfl⟩)
                                · intro HX hX X Rest hR
                                  rintro _ _ ⟨rfl, rfl⟩
                                  intro hU
                                  refine W_no rfl rfl rfl ?_
                                  exact W_end (OneT_end [] (Hp.le_refl _) ⟨rfl, rfl⟩)
                                · intro HX hX X Rest hR
                                  rintro _ _ ⟨rfl, rfl⟩
                                  intro hU
                                  refine W_no rfl rfl rfl ?_
                                  exact W_end (OneT_end [] (Hp.le_refl _) ⟨rfl, rfl⟩)
                                · intro HX hX X Rest hR
                                  rintro _ _ ⟨rfl, rfl⟩
                                  rintro _ _ ⟨rfl, rfl⟩
                                  intro hU
                                  refine W_no rfl rfl rfl ?_
                                  exact W_end (OneT_end [] (Hp.le_refl _) ⟨rfl, rfl⟩)
                                · intro HX hX X Rest hR
                                  rintro _ _ ⟨rfl, rfl⟩
                                  rintro _ _ ⟨rfl, rfl⟩
                                  rintro _ _ ⟨rfl, rfl⟩
                                  intro hU
                                  refine W_no rfl rfl rfl ?_
                                  exact W_end (OneT_end [] (Hp.le_refl _) ⟨rfl, rfl⟩)
                                · intro HX hX X Rest hR
                                  rintro _ _ ⟨rfl, rfl⟩
                                  rintro _ _ ⟨rfl, rfl⟩
                                  intro hU
                                  refine W_no rfl rfl rfl ?_
                                  exact W_end (OneT_end [] (Hp.le_refl _) ⟨rfl, rfl⟩)
                                · intro HX hX X Rest hR
                                  rintro _ _ ⟨rfl, rfl⟩
                                  rintro _ _ ⟨rfl, rfl⟩
                                  intro hU
                                  refine W_no rfl rfl rfl ?_
                                  exact W_end (OneT_end [] (Hp.le_refl _) ⟨rfl, rfl⟩)
                                intro H1031 hle1032
                                rintro _ _ ⟨rfl, rfl⟩
                                rintro _ _ ⟨rfl, rfl⟩
                                rintro _ _ ⟨rfl, rfl⟩
                                rintro _ _ ⟨rfl, rfl⟩
                                rintro _ _ ⟨rfl, rfl⟩
                                rintro _ _ ⟨rfl, rfl⟩
                                rintro _ _ ⟨rfl, rfl⟩
                                rintro _ _ ⟨rfl, rfl⟩
                                rintro _ _ ⟨rfl, rfl⟩
                                rintro _ _ ⟨rfl, rfl⟩
                                rintro _ _ ⟨rfl, rfl⟩
                                rintro _ _ ⟨rfl, rfl⟩
                                rintro _ _ ⟨rfl, rfl⟩
                                rintro _ _ ⟨rfl, rfl⟩
                                rintro _ _ ⟨rfl, rfl⟩
                                rintro _ _ ⟨rfl, rfl⟩
                                rintro _ _ ⟨rfl, rfl⟩
                                rintro _ _ ⟨rfl, rfl⟩
                                rintro _ _ ⟨rfl, rfl⟩
                                rintro _ _ ⟨rfl, rfl⟩
                                rintro _ _ ⟨rfl, rfl⟩
                                rintro _ _ ⟨rfl, rfl⟩
                                rintro _ _ ⟨rfl, rfl⟩
                                rintro _ _ ⟨rfl, rfl⟩
                                rintro _ _ ⟨rfl, rfl⟩
                                rintro _ _ ⟨rfl, rfl⟩
                                refine W_no rfl rfl rfl ?_
                                refine W_pick rfl rfl rfl rfl ?_
                                refine W_end ?_
                                refine E_then ?_
                                refine C_cond (b := true) rfl (fun _ => ?_) (fun hb => Bool.noConfusion hb)
                                refine C_seq ?_
                                refine C_region ?_
                                refine W_assign rfl rfl rfl ?_
                                refine W_end ?_
                                refine E_then ?_
                                refine C_ret ?_
                                refine E_ret_then ?_
                                refine E_ret_block ?_
                                refine E_ret_block ?_
                                refine E_ret_then ?_
                                refine E_ret_then ?_
                                refine E_ret_block ?_
                                refine E_ret_then ?_
                                obtain rfl := Option.some.inj hm
                                refine E_drop (List.Sublist.cons _ (List.Sublist.cons _ (List.Sublist.refl _))) ?_
                                refine E_weak (Hp.le_trans hle747 hle1032) ?_
                                exact end1 rfl rfl ⟨rfl, rfl, rfl⟩
                              · have hm := ite_t' hb1030 hm
                                obtain ⟨y1033, h1034, he1035, hm⟩ := idx_some hm
                                obtain ⟨_, rfl, hg1036⟩ := (hr1002).elem he1035
                                cases hb1037 : (decide (y1033 = 0))
                                · have hm := ite_f' hb1037 hm
                                  obtain ⟨y1038, h1039, he1040, hm⟩ := idx_some hm
                                  obtain ⟨_, rfl, hg1041⟩ := (hr1002).elem he1040
                                  refine C_region_tok0 26 (phiT [(fun H rs v => [] = rs ∧ .int .i64 ((k107 : Int)) = v), (fun H rs v => [] = rs ∧ .bool (false) = v), (fun H rs v => [] = rs ∧ .bool (false) = v), (fun H rs v => [] = rs ∧ .pointer (some ⟨b917, 3, none⟩) = v), (fun H rs v => [] = rs ∧ .int .i64 (y751.B_) = v), (fun H rs v => [] = rs ∧ .int .i64 ((k107 : Int)) = v), (fun H rs v => [] = rs ∧ .int .i64 (IntKind.i64.wrap ((k107 : Int) - 1)) = v), (fun H rs v => [] = rs ∧ .bool (false) = v), (fun H rs v => [] = rs ∧ .bool (false) = v), (fun H rs v => [] = rs ∧ .bool (false) = v), (fun H rs v => [] = rs ∧ v104 = v), (fun H rs v => [] = rs ∧ .int .i64 ((k107 : Int)) = v), (fun H rs v => [] = rs ∧ .int .i64 (IntKind.i64.wrap ((k107 : Int) - 1)) = v), (fun H rs v => [] = rs ∧ .pointer (some ((Value.base (v104)).add ((IntKind.i64.wrap ((k107 : Int) - 1) : Int).toNat * Rep.sz Int))) = v), (fun H rs v => [] = rs ∧ .int .i64 (y1033) = v), (fun H rs v => [] = rs ∧ .bool (false) = v), (fun H rs v => [] = rs ∧ .bool (false) = v), (fun H rs v => [] = rs ∧ .bool (false) = v), (fun H rs v => [] = rs ∧ .pointer (some ⟨b917, 2, none⟩) = v), (fun H rs v => [] = rs ∧ .int .i64 (y751.A) = v), (fun H rs v => [] = rs ∧ v104 = v), (fun H rs v => [] = rs ∧ .int .i64 ((k107 : Int)) = v), (fun H rs v => [] = rs ∧ .int .i64 (IntKind.i64.wrap ((k107 : Int) - 1)) = v), (fun H rs v => [] = rs ∧ .pointer (some ((Value.base (v104)).add ((IntKind.i64.wrap ((k107 : Int) - 1) : Int).toNat * Rep.sz Int))) = v), (fun H rs v => [] = rs ∧ .int .i64 (y1038) = v), (fun H rs v => [] = rs ∧ .int .i64 (IntKind.i64.wrap (y1038 - 1)) = v)]) [[], [], [], [], [], [], [], [], [], [], [], [], [], [], [], [], [], [], [], [], [], [], [], [], [], []] [[], [], [], [], [], [], [], [], [], [], [], [], [], [], [], [], [], [], [], [], [], [], [], [], [], []] [] [0, 1, 2, 3, 4, 5, 6, 7, 8, 9, 10, 11, 12, 13, 14, 15, 16, 17, 18, 19, 20, 21, 22, 23, 24, 25] Facts.mixed (by kernel_rfl) rfl rfl rfl (by kernel_rfl) (phiT_mono ⟨eq_monoT _ _, eq_monoT _ _, eq_monoT _ _, eq_monoT _ _, eq_monoT _ _, eq_monoT _ _, eq_monoT _ _, eq_monoT _ _, eq_monoT _ _, eq_monoT _ _, eq_monoT _ _, eq_monoT _ _, eq_monoT _ _, eq_monoT _ _, eq_monoT _ _, eq_monoT _ _, eq_monoT _ _, eq_monoT _ _, eq_monoT _ _, eq_monoT _ _, eq_monoT _ _, eq_monoT _ _, eq_monoT _ _, eq_monoT _ _, eq_monoT _ _, eq_monoT _ _, trivial⟩) ⟨?_, ?_, ?_, ?_, ?_, ?_, ?_, ?_, ?_, ?_, ?_, ?_, ?_, ?_, ?_, ?_, ?_, ?_, ?_, ?_, ?_, ?_, ?_, ?_, ?_, ?_, trivial⟩ ?_
                                  · intro HX hX X Rest hR
                                    intro hU
                                    refine W_move rfl rfl rfl ?_
                                    exact W_end (OneT_end [] (Hp.le_refl _) ⟨rfl, rfl⟩)
                                  · intro HX hX X Rest hR
                                    rintro _ _ ⟨rfl, rfl⟩
                                    intro hU
                                    refine W_bin rfl rfl rfl rfl rfl ?_
                                    exact W_end (OneT_end [] (Hp.le_refl _) ⟨rfl, (by rw [hb1029]; try rfl)⟩)
                                  · intro HX hX X Rest hR
                                    rintro _ _ ⟨rfl, rfl⟩
                                    intro hU
                                    refine W_move rfl rfl rfl ?_
                                    exact W_end (OneT_end [] (Hp.le_refl _) ⟨rfl, rfl⟩)
                                  · intro HX hX X Rest hR
                                    rintro _ _ ⟨rfl, rfl⟩
                                    intro hU
                                    refine W_field (o := 3) rfl rfl Proofs.Try.runUnderlying58 rfl Proofs.Try.sizeOf3 rfl rfl rfl ?_
                                    exact W_end (OneT_end [] (Hp.le_refl _) ⟨rfl, rfl⟩)
                                  · intro HX hX X Rest hR
                                    rintro _ _ ⟨rfl, rfl⟩
                                    rintro _ _ ⟨rfl, rfl⟩
                                    intro hU
                                    refine W_load rfl rfl Proofs.Try.isAgg3 rfl (own_at (hR _ (List.mem_cons_of_mem _ (List.mem_cons_self ..))) rfl) ?_
                                    exact W_end (OneT_end [] (Hp.le_refl _) ⟨rfl, rfl⟩)
                                  · intro HX hX X Rest hR
                                    rintro _ _ ⟨rfl, rfl⟩
                                    intro hU
                                    refine W_move rfl rfl rfl ?_
                                    exact W_end (OneT_end [] (Hp.le_refl _) ⟨rfl, rfl⟩)
                                  · intro HX hX X Rest hR
                                    rintro _ _ ⟨rfl, rfl⟩
                                    rintro _ _ ⟨rfl, rfl⟩
                                    intro hU
                                    refine W_bin rfl rfl rfl rfl rfl ?_
                                    exact W_end (OneT_end [] (Hp.le_refl _) ⟨rfl, rfl⟩)
                                  · intro HX hX X Rest hR
                                    rintro _ _ ⟨rfl, rfl⟩
                                    rintro _ _ ⟨rfl, rfl⟩
                                    rintro _ _ ⟨rfl, rfl⟩
                                    intro hU
                                    refine W_bin rfl rfl rfl rfl rfl ?_
                                    exact W_end (OneT_end [] (Hp.le_refl _) ⟨rfl, (by rw [hb1030]; try rfl)⟩)
                                  · intro HX hX X Rest hR
                                    rintro _ _ ⟨rfl, rfl⟩
                                    rintro _ _ ⟨rfl, rfl⟩
                                    intro hU
                                    refine W_pick rfl rfl rfl rfl ?_
                                    exact W_end (OneT_end [] (Hp.le_refl _) ⟨rfl, rfl⟩)
                                  · intro HX hX X Rest hR
                                    rintro _ _ ⟨rfl, rfl⟩
                                    rintro _ _ ⟨rfl, rfl⟩
                                    intro hU
                                    refine W_move rfl rfl rfl ?_
                                    exact W_end (OneT_end [] (Hp.le_refl _) ⟨rfl, rfl⟩)
                                  · intro HX hX X Rest hR
                                    rintro _ _ ⟨rfl, rfl⟩
                                    intro hU
                                    refine W_move rfl rfl rfl ?_
                                    exact W_end (OneT_end [] (Hp.le_refl _) ⟨rfl, rfl⟩)
                                  · intro HX hX X Rest hR
                                    rintro _ _ ⟨rfl, rfl⟩
                                    intro hU
                                    refine W_move rfl rfl rfl ?_
                                    exact W_end (OneT_end [] (Hp.le_refl _) ⟨rfl, rfl⟩)
                                  · intro HX hX X Rest hR
                                    rintro _ _ ⟨rfl, rfl⟩
                                    rintro _ _ ⟨rfl, rfl⟩
                                    intro hU
                                    refine W_bin rfl rfl rfl rfl rfl ?_
                                    exact W_end (OneT_end [] (Hp.le_refl _) ⟨rfl, rfl⟩)
                                  · intro HX hX X Rest hR
                                    rintro _ _ ⟨rfl, rfl⟩
                                    rintro _ _ ⟨rfl, rfl⟩
                                    rintro _ _ ⟨rfl, rfl⟩
                                    intro hU
                                    refine W_indexO (hR _ (List.mem_cons_self ..)) rfl rfl Proofs.Try.runUnderlying76 Proofs.Try.sizeOf3 rfl rfl h1034 (List.getElem?_eq_some_iff.1 he1035).1 ?_
                                    exact W_end (OneT_end [] (Hp.le_refl _) ⟨rfl, rfl⟩)
                                  · intro HX hX X Rest hR
                                    rintro _ _ ⟨rfl, rfl⟩
                                    rintro _ _ ⟨rfl, rfl⟩
                                    intro hU
                                    refine W_load rfl rfl Proofs.Try.isAgg3 rfl (row_one0 (hR _ (List.mem_cons_self ..)) hg1036 rfl) ?_
                                    exact W_end (OneT_end [] (Hp.le_refl _) ⟨rfl, rfl⟩)
                                  · intro HX hX X Rest hR
                                    rintro _ _ ⟨rfl, rfl⟩
                                    rintro _ _ ⟨rfl, rfl⟩
                                    intro hU
                                    refine W_bin rfl rfl rfl rfl rfl ?_
                                    exact W_end (OneT_end [] (Hp.le_refl _) ⟨rfl, (by rw [hb1037]; try rfl)⟩)
                                  · intro HX hX X Rest hR
                                    rintro _ _ ⟨rfl, rfl⟩
                                    rintro _ _ ⟨rfl, rfl⟩
                                    intro hU
                                    refine W_pick rfl rfl rfl rfl ?_
                                    exact W_end (OneT_end [] (Hp.le_refl _) ⟨rfl, rfl⟩)
                                  · intro HX hX X Rest hR
                                    rintro _ _ ⟨rfl, rfl⟩
                                    rintro _ _ ⟨rfl, rfl⟩
                                    intro hU
                                    refine W_move rfl rfl rfl ?_
                                    exact W_end (OneT_end [] (Hp.le_refl _) ⟨rfl, rfl⟩)
                                  · intro HX hX X Rest hR
                                    rintro _ _ ⟨rfl, rfl⟩
                                    intro hU
                                    refine W_field (o := 2) rfl rfl Proofs.Try.runUnderlying58 rfl Proofs.Try.sizeOf3 rfl rfl rfl ?_
                                    exact W_end (OneT_end [] (Hp.le_refl _) ⟨rfl, rfl⟩)
                                  · intro HX hX X Rest hR
                                    rintro _ _ ⟨rfl, rfl⟩
                                    rintro _ _ ⟨rfl, rfl⟩
                                    intro hU
                                    refine W_load rfl rfl Proofs.Try.isAgg3 rfl (own_at (hR _ (List.mem_cons_of_mem _ (List.mem_cons_self ..))) rfl) ?_
                                    exact W_end (OneT_end [] (Hp.le_refl _) ⟨rfl, rfl⟩)
                                  · intro HX hX X Rest hR
                                    rintro _ _ ⟨rfl, rfl⟩
                                    intro hU
                                    refine W_move rfl rfl rfl ?_
                                    exact W_end (OneT_end [] (Hp.le_refl _) ⟨rfl, rfl⟩)
                                  · intro HX hX X Rest hR
                                    rintro _ _ ⟨rfl, rfl⟩
                                    intro hU
                                    refine W_move rfl rfl rfl ?_
                                    exact W_end (OneT_end [] (Hp.le_refl _) ⟨rfl, rfl⟩)
                                  · intro HX hX X Rest hR
                                    rintro _ _ ⟨rfl, rfl⟩
                                    rintro _ _ ⟨rfl, rfl⟩
                                    intro hU
                                    refine W_bin rfl rfl rfl rfl rfl ?_
                                    exact W_end (OneT_end [] (Hp.le_refl _) ⟨rfl, rfl⟩)
                                  · intro HX hX X Rest hR
                                    rintro _ _ ⟨rfl, rfl⟩
                                    rintro _ _ ⟨rfl, rfl⟩
                                    rintro _ _ ⟨rfl, rfl⟩
                                    intro hU
                                    refine W_indexO (hR _ (List.mem_cons_self ..)) rfl rfl Proofs.Try.runUnderlying76 Proofs.Try.sizeOf3 rfl rfl h1039 (List.getElem?_eq_some_iff.1 he1040).1 ?_
                                    exact W_end (OneT_end [] (Hp.le_refl _) ⟨rfl, rfl⟩)
                                  · intro HX hX X Rest hR
                                    rintro _ _ ⟨rfl, rfl⟩
                                    rintro _ _ ⟨rfl, rfl⟩
                                    intro hU
                                    refine W_load rfl rfl Proofs.Try.isAgg3 rfl (row_one0 (hR _ (List.mem_cons_self ..)) hg1041 rfl) ?_
                                    exact W_end (OneT_end [] (Hp.le_refl _) ⟨rfl, rfl⟩)
                                  · intro HX hX X Rest hR
                                    rintro _ _ ⟨rfl, rfl⟩
                                    rintro _ _ ⟨rfl, rfl⟩
                                    intro hU
                                    refine W_bin rfl rfl rfl rfl rfl ?_
                                    exact W_end (OneT_end [] (Hp.le_refl _) ⟨rfl, rfl⟩)
                                  intro H1042 hle1043
                                  rintro _ _ ⟨rfl, rfl⟩
                                  rintro _ _ ⟨rfl, rfl⟩
                                  rintro _ _ ⟨rfl, rfl⟩
                                  rintro _ _ ⟨rfl, rfl⟩
                                  rintro _ _ ⟨rfl, rfl⟩
                                  rintro _ _ ⟨rfl, rfl⟩
                                  rintro _ _ ⟨rfl, rfl⟩
                                  rintro _ _ ⟨rfl, rfl⟩
                                  rintro _ _ ⟨rfl, rfl⟩
                                  rintro _ _ ⟨rfl, rfl⟩
                                  rintro _ _ ⟨rfl, rfl⟩
                                  rintro _ _ ⟨rfl, rfl⟩
                                  rintro _ _ ⟨rfl, rfl⟩
                                  rintro _ _ ⟨rfl, rfl⟩
                                  rintro _ _ ⟨rfl, rfl⟩
                                  rintro _ _ ⟨rfl, rfl⟩
                                  rintro _ _ ⟨rfl, rfl⟩
                                  rintro _ _ ⟨rfl, rfl⟩
                                  rintro _ _ ⟨rfl, rfl⟩
                                  rintro _ _ ⟨rfl, rfl⟩
                                  rintro _ _ ⟨rfl, rfl⟩
                                  rintro _ _ ⟨rfl, rfl⟩
                                  rintro _ _ ⟨rfl, rfl⟩
                                  rintro _ _ ⟨rfl, rfl⟩
                                  rintro _ _ ⟨rfl, rfl⟩
                                  rintro _ _ ⟨rfl, rfl⟩
                                  refine W_bin rfl rfl rfl rfl rfl ?_
                                  refine W_pick rfl rfl rfl rfl ?_
                                  refine W_end ?_
                                  refine E_then ?_
                                  refine C_cond (b := !decide (y751.A = (IntKind.i64.wrap (y1038 - 1)))) rfl (fun hb1044 => ?_) (fun hb1044 => ?_)
                                  · have hm := ite_t' hb1044 hm
                                    refine C_seq ?_
                                    refine C_region ?_
                                    refine W_assign rfl rfl rfl ?_
                                    refine W_end ?_
                                    refine E_then ?_
                                    refine C_ret ?_
                                    refine E_ret_then ?_
                                    refine E_ret_block ?_
                                    refine E_ret_block ?_
                                    refine E_ret_then ?_
                                    refine E_ret_then ?_
                                    refine E_ret_block ?_
                                    refine E_ret_then ?_
                                    obtain rfl := Option.some.inj hm
                                    refine E_drop (List.Sublist.cons _ (List.Sublist.cons _ (List.Sublist.refl _))) ?_
                                    refine E_weak (Hp.le_trans hle747 hle1043) ?_
                                    exact end1 rfl rfl ⟨rfl, rfl, rfl⟩
                                  · have hm := ite_f' hb1044 hm
                                    refine C_skip ?_
                                    refine E_then ?_
                                    refine C_region ?_
                                    refine W_move rfl rfl rfl ?_
                                    refine W_move rfl rfl rfl ?_
                                    refine W_move rfl rfl rfl ?_
                                    refine W_field (o := 2) rfl rfl Proofs.Try.runUnderlying58 rfl Proofs.Try.sizeOf3 rfl rfl rfl ?_
                                    refine W_load rfl rfl Proofs.Try.isAgg3 rfl (own_at (List.mem_cons_of_mem _ (List.mem_cons_self ..)) rfl) ?_
                                    obtain ⟨y1045, h1046, he1047, hm⟩ := idx_some hm
                                    refine W_indexO (List.mem_cons_self ..) rfl rfl Proofs.Try.runUnderlying76 Proofs.Try.sizeOf3 rfl rfl h1046 (List.getElem?_eq_some_iff.1 he1047).1 ?_
                                    obtain ⟨_, rfl, hg1048⟩ := (hr1002).elem he1047
                                    refine W_load rfl rfl Proofs.Try.isAgg3 rfl (row_one0 (List.mem_cons_self ..) hg1048 rfl) ?_
                                    obtain ⟨y1049, h1050, he1051, hm⟩ := idx_some hm
                                    refine W_indexO (List.mem_cons_self ..) rfl rfl Proofs.Try.runUnderlying76 Proofs.Try.sizeOf3 rfl rfl h1050 (List.getElem?_eq_some_iff.1 he1051).1 ?_
                                    obtain ⟨_, rfl, hg1052⟩ := (hr1002).elem he1051
                                    obtain ⟨hr1053, he1054, hg1055⟩ := Rw.put (cs := [.int .i64 (y1045)]) (o := 0) (c := [.int .i64 (y1049)]) (out := [.int .i64 (y1045)]) (e2 := y1045) (hr1002.mono hle1043) he1051 rfl hg1052 rfl rfl rfl
                                    refine W_storeO2 (i := ((k107 : Int) : Int).toNat * Rep.sz Int + 0) (cs := [.int .i64 (y1045)]) rfl Proofs.Try.sizeOf3 rfl (row_ad0 _ _) rfl rfl rfl (Rw.room (hr1002.mono hle1043) he1051 rfl) rfl (all_cons rfl all_nil) (n' := ((l744.set (((k107 : Int) : Int).toNat) ((k107 : Int))).set (((k107 : Int) : Int).toNat) y1045).length) List.length_set ?_
                                    generalize over xs1005 (((k107 : Int) : Int).toNat * Rep.sz Int + 0) [.int .i64 (y1045)] = xs1056 at hr1053 hg1055 ⊢
                                    refine W_end ?_
                                    refine E_normal_block ?_
                                    refine E_normal_block ?_
                                    refine E_drop (List.Sublist.cons_cons _ (List.Sublist.cons _ (List.Sublist.refl _))) ?_
                                    exact E_keepJ (J915 _ _ _ ⟨((l744.set (((k107 : Int) : Int).toNat) ((k107 : Int))).set (((k107 : Int) : Int).toNat) y1045), xs1056, hm, hr1053, hle1043, rfl, rfl⟩) (List.Perm.refl _) ⟨rfl, rfl, rfl, rfl, rfl, trivial⟩
                                · have hm := ite_t' hb1037 hm
                                  refine C_region_tok0 26 (phiT [(fun H rs v => [] = rs ∧ .int .i64 ((k107 : Int)) = v), (fun H rs v => [] = rs ∧ .bool (false) = v), (fun H rs v => [] = rs ∧ .bool (false) = v), (fun H rs v => [] = rs ∧ .pointer (some ⟨b917, 3, none⟩) = v), (fun H rs v => [] = rs ∧ .int .i64 (y751.B_) = v), (fun H rs v => [] = rs ∧ .int .i64 ((k107 : Int)) = v), (fun H rs v => [] = rs ∧ .int .i64 (IntKind.i64.wrap ((k107 : Int) - 1)) = v), (fun H rs v => [] = rs ∧ .bool (false) = v), (fun H rs v => [] = rs ∧ .bool (false) = v), (fun H rs v => [] = rs ∧ .bool (false) = v), (fun H rs v => [] = rs ∧ v104 = v), (fun H rs v => [] = rs ∧ .int .i64 ((k107 : Int)) = v), (fun H rs v => [] = rs ∧ .int .i64 (IntKind.i64.wrap ((k107 : Int) - 1)) = v), (fun H rs v => [] = rs ∧ .pointer (some ((Value.base (v104)).add ((IntKind.i64.wrap ((k107 : Int) - 1) : Int).toNat * Rep.sz Int))) = v), (fun H rs v => [] = rs ∧ .int .i64 (y1033) = v), (fun H rs v => [] = rs ∧ .bool (true) = v), (fun H rs v => [] = rs ∧ .bool (true) = v), (fun H rs v => [] = rs ∧ .bool (true) = v), (fun H rs v => [] = rs ∧ undef = v), (fun H rs v => [] = rs ∧ undef = v), (fun H rs v => [] = rs ∧ undef = v), (fun H rs v => [] = rs ∧ undef = v), (fun H rs v => [] = rs ∧ undef = v), (fun H rs v => [] = rs ∧ undef = v), (fun H rs v => [] = rs ∧ undef = v), (fun H rs v => [] = rs ∧ undef = v)]) [[], [], [], [], [], [], [], [], [], [], [], [], [], [], [], [], [], [], [], [], [], [], [], [], [], []] [[], [], [], [], [], [], [], [], [], [], [], [], [], [], [], [], [], [], [], [], [], [], [], [], [], []] [] [0, 1, 2, 3, 4, 5, 6, 7, 8, 9, 10, 11, 12, 13, 14, 15, 16, 17, 18, 19, 20, 21, 22, 23, 24, 25] Facts.mixed (by kernel_rfl) rfl rfl rfl (by kernel_rfl) (phiT_mono ⟨eq_monoT _ _, eq_monoT _ _, eq_monoT _ _, eq_monoT _ _, eq_monoT _ _, eq_monoT _ _, eq_monoT _ _, eq_monoT _ _, eq_monoT _ _, eq_monoT _ _, eq_monoT _ _, eq_monoT _ _, eq_monoT _ _, eq_monoT _ _, eq_monoT _ _, eq_monoT _ _, eq_monoT _ _, eq_monoT _ _, eq_monoT _ _, eq_monoT _ _, eq_monoT _ _, eq_monoT _ _, eq_monoT _ _, eq_monoT _ _, eq_monoT _ _, eq_monoT _ _, trivial⟩) ⟨?_, ?_, ?_, ?_, ?_, ?_, ?_, ?_, ?_, ?_, ?_, ?_, ?_, ?_, ?_, ?_, ?_, ?_, ?_, ?_, ?_, ?_, ?_, ?_, ?_, ?_, trivial⟩ ?_
                                  · intro HX hX X Rest hR
                                    intro hU
                                    refine W_move rfl rfl rfl ?_
                                    exact W_end (OneT_end [] (Hp.le_refl _) ⟨rfl, rfl⟩)
                                  · intro HX hX X Rest hR
                                    rintro _ _ ⟨rfl, rfl⟩
                                    intro hU
                                    refine W_bin rfl rfl rfl rfl rfl ?_
                                    exact W_end (OneT_end [] (Hp.le_refl _) ⟨rfl, (by rw [hb1029]; try rfl)⟩)
                                  · intro HX hX X Rest hR
                                    rintro _ _ ⟨rfl, rfl⟩
                                    intro hU
                                    refine W_move rfl rfl rfl ?_
                                    exact W_end (OneT_end [] (Hp.le_refl _) ⟨rfl, rfl⟩)
                                  · intro HX hX X Rest hR
                                    rintro _ _ ⟨rfl, rfl⟩
                                    intro hU
                                    refine W_field (o := 3) rfl rfl Proofs.Try.runUnderlying58 rfl Proofs.Try.sizeOf3 rfl rfl rfl ?_
                                    exact W_end (OneT_end [] (Hp.le_refl _) ⟨rfl, rfl⟩)
                                  · intro HX hX X Rest hR
                                    rintro _ _ ⟨rfl, rfl⟩
                                    rintro _ _ ⟨rfl, rfl⟩
                                    intro hU
                                    refine W_load rfl rfl Proofs.Try.isAgg3 rfl (own_at (hR _ (List.mem_cons_of_mem _ (List.mem_cons_self ..))) rfl) ?_
                                    exact W_end (OneT_end [] (Hp.le_refl _) ⟨rfl, rfl⟩)
                                  · intro HX hX X Rest hR
                                    rintro _ _ ⟨rfl, rfl⟩
                                    intro hU
                                    refine W_move rfl rfl rfl ?_
                                    exact W_end (OneT_end [] (Hp.le_refl _) ⟨rfl, rfl⟩)
                                  · intro HX hX X Rest hR
                                    rintro _ _ ⟨rfl, rfl⟩
                                    rintro _ _ ⟨rfl, rfl⟩
                                    intro hU
                                    refine W_bin rfl rfl rfl rfl rfl ?_
                                    exact W_end (OneT_end [] (Hp.le_refl _) ⟨rfl, rfl⟩)
                                  · intro HX hX X Rest hR
                                    rintro _ _ ⟨rfl, rfl⟩
                                    rintro _ _ ⟨rfl, rfl⟩
                                    rintro _ _ ⟨rfl, rfl⟩
                                    intro hU
                                    refine W_bin rfl rfl rfl rfl rfl ?_
                                    exact W_end (OneT_end [] (Hp.le_refl _) ⟨rfl, (by rw [hb1030]; try rfl)⟩)
                                  · intro HX hX X Rest hR
                                    rintro _ _ ⟨rfl, rfl⟩
                                    rintro _ _ ⟨rfl, rfl⟩
                                    intro hU
                                    refine W_pick rfl rfl rfl rfl ?_
                                    exact W_end (OneT_end [] (Hp.le_refl _) ⟨rfl, rfl⟩)
                                  · intro HX hX X Rest hR
                                    rintro _ _ ⟨rfl, rfl⟩
                                    rintro _ _ ⟨rfl, rfl⟩
                                    intro hU
                                    refine W_move rfl rfl rfl ?_
                                    exact W_end (OneT_end [] (Hp.le_refl _) ⟨rfl, rfl⟩)
                                  · intro HX hX X Rest hR
                                    rintro _ _ ⟨rfl, rfl⟩
                                    intro hU
                                    refine W_move rfl rfl rfl ?_
                                    exact W_end (OneT_end [] (Hp.le_refl _) ⟨rfl, rfl⟩)
                                  · intro HX hX X Rest hR
                                    rintro _ _ ⟨rfl, rfl⟩
                                    intro hU
                                    refine W_move rfl rfl rfl ?_
                                    exact W_end (OneT_end [] (Hp.le_refl _) ⟨rfl, rfl⟩)
                                  · intro HX hX X Rest hR
                                    rintro _ _ ⟨rfl, rfl⟩
                                    rintro _ _ ⟨rfl, rfl⟩
                                    intro hU
                                    refine W_bin rfl rfl rfl rfl rfl ?_
                                    exact W_end (OneT_end [] (Hp.le_refl _) ⟨rfl, rfl⟩)
                                  · intro HX hX X Rest hR
                                    rintro _ _ ⟨rfl, rfl⟩
                                    rintro _ _ ⟨rfl, rfl⟩
                                    rintro _ _ ⟨rfl, rfl⟩
                                    intro hU
                                    refine W_indexO (hR _ (List.mem_cons_self ..)) rfl rfl Proofs.Try.runUnderlying76 Proofs.Try.sizeOf3 rfl rfl h1034 (List.getElem?_eq_some_iff.1 he1035).1 ?_
                                    exact W_end (OneT_end [] (Hp.le_refl _) ⟨rfl, rfl⟩)
                                  · intro HX hX X Rest hR
                                    rintro _ _ ⟨rfl, rfl⟩
                                    rintro _ _ ⟨rfl, rfl⟩
                                    intro hU
                                    refine W_load rfl rfl Proofs.Try.isAgg3 rfl (row_one0 (hR _ (List.mem_cons_self ..)) hg1036 rfl) ?_
                                    exact W_end (OneT_end [] (Hp.le_refl _) ⟨rfl, rfl⟩)
                                  · intro HX hX X Rest hR
                                    rintro _ _ ⟨rfl, rfl⟩
                                    rintro _ _ ⟨rfl, rfl⟩
                                    intro hU
                                    refine W_bin rfl rfl rfl rfl rfl ?_
                                    exact W_end (OneT_end [] (Hp.le_refl _) ⟨rfl, (by rw [hb1037]; try rfl)⟩)
                                  · intro HX hX X Rest hR
                                    rintro _ _ ⟨rfl, rfl⟩
                                    rintro _ _ ⟨rfl, rfl⟩
                                    intro hU
                                    refine W_pick rfl rfl rfl rfl ?_
                                    exact W_end (OneT_end [] (Hp.le_refl _) ⟨rfl, rfl⟩)
                                  · intro HX hX X Rest hR
                                    rintro _ _ ⟨rfl, rfl⟩
                                    rintro _ _ ⟨rfl, rfl⟩
                                    intro hU
                                    refine W_move rfl rfl rfl ?_
                                    exact W_end (OneT_end [] (Hp.le_refl _) ⟨rfl, rfl⟩)
                                  · intro HX hX X Rest hR
                                    rintro _ _ ⟨rfl, rfl⟩
                                    intro hU
                                    refine W_no rfl rfl rfl ?_
                                    exact W_end (OneT_end [] (Hp.le_refl _) ⟨rfl, rfl⟩)
                                  · intro HX hX X Rest hR
                                    rintro _ _ ⟨rfl, rfl⟩
                                    rintro _ _ ⟨rfl, rfl⟩
                                    intro hU
                                    refine W_no rfl rfl rfl ?_
                                    exact W_end (OneT_end [] (Hp.le_refl _) ⟨rfl, rfl⟩)
                                  · intro HX hX X Rest hR
                                    rintro _ _ ⟨rfl, rfl⟩
                                    intro hU
                                    refine W_no rfl rfl rfl ?_
                                    exact W_end (OneT_end [] (Hp.le_refl _) ⟨rfl, rfl⟩)
                                  · intro HX hX X Rest hR
                                    rintro _ _ ⟨rfl, rfl⟩
                                    intro hU
                                    refine W_no rfl rfl rfl ?_
                                    exact W_end (OneT_end [] (Hp.le_refl _) ⟨rfl, rfl⟩)
                                  · intro HX hX X Rest hR
                                    rintro _ _ ⟨rfl, rfl⟩
                                    rintro _ _ ⟨rfl, rfl⟩
                                    intro hU
                                    refine W_no rfl rfl rfl ?_
                                    exact W_end (OneT_end [] (Hp.le_refl _) ⟨rfl, rfl⟩)
                                  · intro HX hX X Rest hR
                                    rintro _ _ ⟨rfl, rfl⟩
                                    rintro _ _ ⟨rfl, rfl⟩
                                    rintro _ _ ⟨rfl, rfl⟩
                                    intro hU
                                    refine W_no rfl rfl rfl ?_
                                    exact W_end (OneT_end [] (Hp.le_refl _) ⟨rfl, rfl⟩)
                                  · intro HX hX X Rest hR
                                    rintro _ _ ⟨rfl, rfl⟩
                                    rintro _ _ ⟨rfl, rfl⟩
                                    intro hU
                                    refine W_no rfl rfl rfl ?_
                                    exact W_end (OneT_end [] (Hp.le_refl _) ⟨rfl, rfl⟩)
                                  · intro HX hX X Rest hR
                                    rintro _ _ ⟨rfl, rfl⟩
                                    rintro _ _ ⟨rfl, rfl⟩
                                    intro hU
                                    refine W_no rfl rfl rfl ?_
                                    exact W_end (OneT_end [] (Hp.le_refl _) ⟨rfl, rfl⟩)
                                  intro H1057 hle1058
                                  rintro _ _ ⟨rfl, rfl⟩
                                  rintro _ _ ⟨rfl, rfl⟩
                                  rintro _ _ ⟨rfl, rfl⟩
                                  rintro _ _ ⟨rfl, rfl⟩
                                  rintro _ _ ⟨rfl, rfl⟩
                                  rintro _ _ ⟨rfl, rfl⟩
                                  rintro _ _ ⟨rfl, rfl⟩
                                  rintro _ _ ⟨rfl, rfl⟩
                                  rintro _ _ ⟨rfl, rfl⟩
                                  rintro _ _ ⟨rfl, rfl⟩
                                  rintro _ _ ⟨rfl, rfl⟩
                                  rintro _ _ ⟨rfl, rfl⟩
                                  rintro _ _ ⟨rfl, rfl⟩
                                  rintro _ _ ⟨rfl, rfl⟩
                                  rintro _ _ ⟨rfl, rfl⟩
                                  rintro _ _ ⟨rfl, rfl⟩
                                  rintro _ _ ⟨rfl, rfl⟩
                                  rintro _ _ ⟨rfl, rfl⟩
                                  rintro _ _ ⟨rfl, rfl⟩
                                  rintro _ _ ⟨rfl, rfl⟩
                                  rintro _ _ ⟨rfl, rfl⟩
                                  rintro _ _ ⟨rfl, rfl⟩
                                  rintro _ _ ⟨rfl, rfl⟩
                                  rintro _ _ ⟨rfl, rfl⟩
                                  rintro _ _ ⟨rfl, rfl⟩
                                  rintro _ _ ⟨rfl, rfl⟩
                                  refine W_no rfl rfl rfl ?_
                                  refine W_pick rfl rfl rfl rfl ?_
                                  refine W_end ?_
                                  refine E_then ?_
                                  refine C_cond (b := true) rfl (fun _ => ?_) (fun hb => Bool.noConfusion hb)
                                  refine C_seq ?_
                                  refine C_region ?_
                                  refine W_assign rfl rfl rfl ?_
                                  refine W_end ?_
                                  refine E_then ?_
                                  refine C_ret ?_
                                  refine E_ret_then ?_
                                  refine E_ret_block ?_
                                  refine E_ret_block ?_
                                  refine E_ret_then ?_
                                  refine E_ret_then ?_
                                  refine E_ret_block ?_
                                  refine E_ret_then ?_
                                  obtain rfl := Option.some.inj hm
                                  refine E_drop (List.Sublist.cons _ (List.Sublist.cons _ (List.Sublist.refl _))) ?_
                                  refine E_weak (Hp.le_trans hle747 hle1058) ?_
                                  exact end1 rfl rfl ⟨rfl, rfl, rfl⟩
                            · have hm := ite_t' hb1029 hm
                              refine C_region_tok0 26 (phiT [(fun H rs v => [] = rs ∧ .int .i64 ((k107 : Int)) = v), (fun H rs v => [] = rs ∧ .bool (true) = v), (fun H rs v => [] = rs ∧ .bool (true) = v), (fun H rs v => [] = rs ∧ undef = v), (fun H rs v => [] = rs ∧ undef = v), (fun H rs v => [] = rs ∧ undef = v), (fun H rs v => [] = rs ∧ undef = v), (fun H rs v => [] = rs ∧ undef = v), (fun H rs v => [] = rs ∧ .bool (true) = v), (fun H rs v => [] = rs ∧ .bool (true) = v), (fun H rs v => [] = rs ∧ undef = v), (fun H rs v => [] = rs ∧ undef = v), (fun H rs v => [] = rs ∧ undef = v), (fun H rs v => [] = rs ∧ undef = v), (fun H rs v => [] = rs ∧ undef = v), (fun H rs v => [] = rs ∧ undef = v), (fun H rs v => [] = rs ∧ .bool (true) = v), (fun H rs v => [] = rs ∧ .bool (true) = v), (fun H rs v => [] = rs ∧ undef = v), (fun H rs v => [] = rs ∧ undef = v), (fun H rs v => [] = rs ∧ undef = v), (fun H rs v => [] = rs ∧ undef = v), (fun H rs v => [] = rs ∧ undef = v), (fun H rs v => [] = rs ∧ undef = v), (fun H rs v => [] = rs ∧ undef = v), (fun H rs v => [] = rs ∧ undef = v)]) [[], [], [], [], [], [], [], [], [], [], [], [], [], [], [], [], [], [], [], [], [], [], [], [], [], []] [[], [], [], [], [], [], [], [], [], [], [], [], [], [], [], [], [], [], [], [], [], [], [], [], [], []] [] [0, 1, 2, 3, 4, 5, 6, 7, 8, 9, 10, 11, 12, 13, 14, 15, 16, 17, 18, 19, 20, 21, 22, 23, 24, 25] Facts.mixed (by kernel_rfl) rfl rfl rfl (by kernel_rfl) (phiT_mono ⟨eq_monoT _ _, eq_monoT _ _, eq_monoT _ _, eq_monoT _ _, eq_monoT _ _, eq_monoT _ _, eq_monoT _ _, eq_monoT _ _, eq_monoT _ _, eq_monoT _ _, eq_monoT _ _, eq_monoT _ _, eq_monoT _ _, eq_monoT _ _, eq_monoT _ _, eq_monoT _ _, eq_monoT _ _, eq_monoT _ _, eq_monoT _ _, eq_monoT _ _, eq_monoT _ _, eq_monoT _ _, eq_monoT _ _, eq_monoT _ _, eq_monoT _ _, eq_monoT _ _, trivial⟩) ⟨?_, ?_, ?_, ?_, ?_, ?_, ?_, ?_, ?_, ?_, ?_, ?_, ?_, ?_, ?_, ?_, ?_, ?_, ?_, ?_, ?_, ?_, ?_, ?_, ?_, ?_, trivial⟩ ?_
                              · intro HX hX X Rest hR
                                intro hU
                                refine W_move rfl rfl rfl ?_
                                exact W_end (OneT_end [] (Hp.le_refl _) ⟨rfl, rfl⟩)
                              · intro HX hX X Rest hR
                                rintro _ _ ⟨rfl, rfl⟩
                                intro hU
                                refine W_bin rfl rfl rfl rfl rfl ?_
                                exact W_end (OneT_end [] (Hp.le_refl _) ⟨rfl, (by rw [hb1029]; try rfl)⟩)
                              · intro HX hX X Rest hR
                                rintro _ _ ⟨rfl, rfl⟩
                                intro hU
                                refine W_move rfl rfl rfl ?_
                                exact W_end (OneT_end [] (Hp.le_refl _) ⟨rfl, rfl⟩)
                              · intro HX hX X Rest hR
                                rintro _ _ ⟨rfl, rfl⟩
                                intro hU
                                refine W_no rfl rfl rfl ?_
                                exact W_end (OneT_end [] (Hp.le_refl _) ⟨rfl, rfl⟩)
                              · intro HX hX X Rest hR
                                rintro _ _ ⟨rfl, rfl⟩
                                rintro _ _ ⟨rfl, rfl⟩
                                intro hU
                                refine W_no rfl rfl rfl ?_
                                exact W_end (OneT_end [] (Hp.le_refl _) ⟨rfl, rfl⟩)
                              · intro HX hX X Rest hR
                                rintro _ _ ⟨rfl, rfl⟩
                                intro hU
                                refine W_no rfl rfl rfl ?_
                                exact W_end (OneT_end [] (Hp.le_refl _) ⟨rfl, rfl⟩)
                              · intro HX hX X Rest hR
                                rintro _ _ ⟨rfl, rfl⟩
                                rintro _ _ ⟨rfl, rfl⟩
                                intro hU
                                refine W_no rfl rfl rfl ?_
                                exact W_end (OneT_end [] (Hp.le_refl _) ⟨rfl, rfl⟩)
                              · intro HX hX X Rest hR
                                rintro _ _ ⟨rfl, rfl⟩
                                rintro _ _ ⟨rfl, rfl⟩
                                rintro _ _ ⟨rfl, rfl⟩
                                intro hU
                                refine W_no rfl rfl rfl ?_
                                exact W_end (OneT_end [] (Hp.le_refl _) ⟨rfl, rfl⟩)
                              · intro HX hX X Rest hR
                                rintro _ _ ⟨rfl, rfl⟩
                                rintro _ _ ⟨rfl, rfl⟩
                                intro hU
                                refine W_pick rfl rfl rfl rfl ?_
                                exact W_end (OneT_end [] (Hp.le_refl _) ⟨rfl, rfl⟩)
                              · intro HX hX X Rest hR
                                rintro _ _ ⟨rfl, rfl⟩
                                rintro _ _ ⟨rfl, rfl⟩
                                intro hU
                                refine W_move rfl rfl rfl ?_
                                exact W_end (OneT_end [] (Hp.le_refl _) ⟨rfl, rfl⟩)
                              · intro HX hX X Rest hR
                                rintro _ _ ⟨rfl, rfl⟩
                                intro hU
                                refine W_no rfl rfl rfl ?_
                                exact W_end (OneT_end [] (Hp.le_refl _) ⟨rfl, rfl⟩)
                              · intro HX hX X Rest hR
                                rintro _ _ ⟨rfl, rfl⟩
                                intro hU
                                refine W_no rfl rfl rfl ?_
                                exact W_end (OneT_end [] (Hp.le_refl _) ⟨rfl, rfl⟩)
                              · intro HX hX X Rest hR
                                rintro _ _ ⟨rfl, rfl⟩
                                rintro _ _ ⟨rfl, rfl⟩
                                intro hU
                                refine W_no rfl rfl rfl ?_
                                exact W_end (OneT_end [] (Hp.le_refl _) ⟨rfl, rfl⟩)
                              · intro HX hX X Rest hR
                                rintro _ _ ⟨rfl, rfl⟩
                                rintro _ _ ⟨rfl, rfl⟩
                                rintro _ _ ⟨rfl, rfl⟩
                                intro hU
                                refine W_no rfl rfl rfl ?_
                                exact W_end (OneT_end [] (Hp.le_refl _) ⟨rfl, rfl⟩)
                              · intro HX hX X Rest hR
                                rintro _ _ ⟨rfl, rfl⟩
                                rintro _ _ ⟨rfl, rfl⟩
                                intro hU
                                refine W_no rfl rfl rfl ?_
                                exact W_end (OneT_end [] (Hp.le_refl _) ⟨rfl, rfl⟩)
                              · intro HX hX X Rest hR
                                rintro _ _ ⟨rfl, rfl⟩
                                rintro _ _ ⟨rfl, rfl⟩
                                intro hU
                                refine W_no rfl rfl rfl ?_
                                exact W_end (OneT_end [] (Hp.le_refl _) ⟨rfl, rfl⟩)
                              · intro HX hX X Rest hR
                                rintro _ _ ⟨rfl, rfl⟩
                                rintro _ _ ⟨rfl, rfl⟩
                                intro hU
                                refine W_pick rfl rfl rfl rfl ?_
                                exact W_end (OneT_end [] (Hp.le_refl _) ⟨rfl, rfl⟩)
                              · intro HX hX X Rest hR
                                rintro _ _ ⟨rfl, rfl⟩
                                rintro _ _ ⟨rfl, rfl⟩
                                intro hU
                                refine W_move rfl rfl rfl ?_
                                exact W_end (OneT_end [] (Hp.le_refl _) ⟨rfl, rfl⟩)
                              · intro HX hX X Rest hR
                                rintro _ _ ⟨rfl, rfl⟩
                                intro hU
                                refine W_no rfl rfl rfl ?_
                                exact W_end (OneT_end [] (Hp.le_refl _) ⟨rfl, rfl⟩)
                              · intro HX hX X Rest hR
                                rintro _ _ ⟨rfl, rfl⟩
                                rintro _ _ ⟨rfl, rfl⟩
                                intro hU
                                refine W_no rfl rfl rfl ?_
                                exact W_end (OneT_end [] (Hp.le_refl _) ⟨rfl, rfl⟩)
                              · intro HX hX X Rest hR
                                rintro _ _ ⟨rfl, rfl⟩
                                intro hU
                                refine W_no rfl rfl rfl ?_
                                exact W_end (OneT_end [] (Hp.le_refl _) ⟨rfl, rfl⟩)
                              · intro HX hX X Rest hR
                                rintro _ _ ⟨rfl, rfl⟩
                                intro hU
                                refine W_no rfl rfl rfl ?_
                                exact W_end (OneT_end [] (Hp.le_refl _) ⟨rfl, rfl⟩)
                              · intro HX hX X Rest hR
                                rintro _ _ ⟨rfl, rfl⟩
                                rintro _ _ ⟨rfl, rfl⟩
                                intro hU
                                refine W_no rfl rfl rfl ?_
                                exact W_end (OneT_end [] (Hp.le_refl _) ⟨rfl, rfl⟩)
                              · intro HX hX X Rest hR
                                rintro _ _ ⟨rfl, rfl⟩
                                rintro _ _ ⟨rfl, rfl⟩
                                rintro _ _ ⟨rfl, rfl⟩
                                intro hU
                                refine W_no rfl rfl rfl ?_
                                exact W_end (OneT_end [] (Hp.le_refl _) ⟨rfl, rfl⟩)
                              · intro HX hX X Rest hR
                                rintro _ _ ⟨rfl, rfl⟩
                                rintro _ _ ⟨rfl, rfl⟩
                                intro hU
                                refine W_no rfl rfl rfl ?_
                                exact W_end (OneT_end [] (Hp.le_refl _) ⟨rfl, rfl⟩)
                              · intro HX hX X Rest hR
                                rintro _ _ ⟨rfl, rfl⟩
                                rintro _ _ ⟨rfl, rfl⟩
                                intro hU
                                refine W_no rfl rfl rfl ?_
                                exact W_end (OneT_end [] (Hp.le_refl _) ⟨rfl, rfl⟩)
                              intro H1059 hle1060
                              rintro _ _ ⟨rfl, rfl⟩
                              rintro _ _ ⟨rfl, rfl⟩
                              rintro _ _ ⟨rfl, rfl⟩
                              rintro _ _ ⟨rfl, rfl⟩
                              rintro _ _ ⟨rfl, rfl⟩
                              rintro _ _ ⟨rfl, rfl⟩
                              rintro _ _ ⟨rfl, rfl⟩
                              rintro _ _ ⟨rfl, rfl⟩
                              rintro _ _ ⟨rfl, rfl⟩
                              rintro _ _ ⟨rfl, rfl⟩
                              rintro _ _ ⟨rfl, rfl⟩
                              rintro _ _ ⟨rfl, rfl⟩
                              rintro _ _ ⟨rfl, rfl⟩
                              rintro _ _ ⟨rfl, rfl⟩
                              rintro _ _ ⟨rfl, rfl⟩
                              rintro _ _ ⟨rfl, rfl⟩
                              rintro _ _ ⟨rfl, rfl⟩
                              rintro _ _ ⟨rfl, rfl⟩
                              rintro _ _ ⟨rfl, rfl⟩
                              rintro _ _ ⟨rfl, rfl⟩
                              rintro _ _ ⟨rfl, rfl⟩
                              rintro _ _ ⟨rfl, rfl⟩
                              rintro _ _ ⟨rfl, rfl⟩
                              rintro _ _ ⟨rfl, rfl⟩
                              rintro _ _ ⟨rfl, rfl⟩
                              rintro _ _ ⟨rfl, rfl⟩
                              refine W_no rfl rfl rfl ?_
                              refine W_pick rfl rfl rfl rfl ?_
                              refine W_end ?_
                              refine E_then ?_
                              refine C_cond (b := true) rfl (fun _ => ?_) (fun hb => Bool.noConfusion hb)
                              refine C_seq ?_
                              refine C_region ?_
                              refine W_assign rfl rfl rfl ?_
                              refine W_end ?_
                              refine E_then ?_
                              refine C_ret ?_
                              refine E_ret_then ?_
                              refine E_ret_block ?_
                              refine E_ret_block ?_
                              refine E_ret_then ?_
                              refine E_ret_then ?_
                              refine E_ret_block ?_
                              refine E_ret_then ?_
                              obtain rfl := Option.some.inj hm
                              refine E_drop (List.Sublist.cons _ (List.Sublist.cons _ (List.Sublist.refl _))) ?_
                              refine E_weak (Hp.le_trans hle747 hle1060) ?_
                              exact end1 rfl rfl ⟨rfl, rfl, rfl⟩
                          · have hm := ite_f' hb1028 hm
                            refine C_seq_join (fun H' M' L' => H746 = H' ∧ .row v104 3 (Rep.sz Int) (l744.set (((k107 : Int) : Int).toNat) ((k107 : Int))).length xs1005 :: M = M' ∧ [(0, v0), (3, v104), (18, v0), (19, .int .i64 ((p0_l.length : Int))), (20, .int .i64 ((k107 : Int))), (71, .bool ((!decide (y751.A = 0)) || (!decide (y751.B_ = 0))))] = L') ?_ (fun J1062 => ?_)
                            · rintro _ _ _ ⟨rfl, rfl, rfl⟩
                              refine C_cond (b := (!decide (y751.A = 0)) || (!decide (y751.B_ = 0))) rfl (fun hb1063 => ?_) (fun hb1063 => ?_)
                              · have hm := ite_t' hb1063 hm
                                refine C_seq ?_
                                refine C_region ?_
                                refine W_assign rfl rfl rfl ?_
                                refine W_end ?_
                                refine E_then ?_
                                refine C_ret ?_
                                refine E_ret_block ?_
                                refine E_ret_block ?_
                                refine E_ret_then ?_
                                refine E_ret_then ?_
                                refine E_ret_block ?_
                                refine E_ret_then ?_
                                obtain rfl := Option.some.inj hm
                                refine E_drop (List.Sublist.cons _ (List.Sublist.refl _)) ?_
                                refine E_weak hle747 ?_
                                exact end1 rfl rfl ⟨rfl, rfl, rfl⟩
                              · have hm := ite_f' hb1063 hm
                                refine C_skip ?_
                                refine E_normal_block ?_
                                refine E_normal_block ?_
                                exact E_keepJ (J915 _ _ _ ⟨(l744.set (((k107 : Int) : Int).toNat) ((k107 : Int))), xs1005, hm, hr1002, (Hp.le_refl _), rfl, rfl⟩) (List.Perm.refl _) ⟨rfl, rfl, rfl, rfl, rfl, trivial⟩
                            · refine C_region ?_
                              refine W_field (o := 2) rfl rfl Proofs.Try.runUnderlying58 rfl Proofs.Try.sizeOf3 rfl rfl rfl ?_
                              refine W_load rfl rfl Proofs.Try.isAgg3 rfl (own_at (List.mem_cons_of_mem _ (List.mem_cons_self ..)) rfl) ?_
                              refine W_bin rfl rfl rfl rfl rfl ?_
                              refine W_move rfl rfl rfl ?_
                              cases hb1064 : (decide (y751.A = 0))
                              · refine W_no rfl rfl rfl ?_
                                refine W_no rfl rfl rfl ?_
                                refine W_no rfl rfl rfl ?_
                                refine W_pick rfl rfl rfl rfl ?_
                                refine W_end ?_
                                refine E_drop (List.Sublist.cons_cons _ (List.Sublist.cons _ (List.Sublist.refl _))) ?_
                                exact E_keepJ (J1062 _ _ _ ⟨rfl, rfl, rfl⟩) (List.Perm.refl _) ⟨rfl, rfl, rfl, rfl, rfl, (by show some (Value.bool (true)) = some (Value.bool ((!decide (y751.A = 0)) || (!decide (y751.B_ = 0)))); simp only [hb101, hb102, hb922, hb923, hb996, hb1006, hb1028, hb1064, Bool.and_true, Bool.true_and, Bool.false_and, Bool.and_false, Bool.or_true, Bool.true_or, Bool.or_false, Bool.false_or, Bool.not_true, Bool.not_false]), trivial⟩
                              · refine W_field (o := 3) rfl rfl Proofs.Try.runUnderlying58 rfl Proofs.Try.sizeOf3 rfl rfl rfl ?_
                                refine W_load rfl rfl Proofs.Try.isAgg3 rfl (own_at (List.mem_cons_of_mem _ (List.mem_cons_self ..)) rfl) ?_
                                refine W_bin rfl rfl rfl rfl rfl ?_
                                refine W_pick rfl rfl rfl rfl ?_
                                refine W_end ?_
                                refine E_drop (List.Sublist.cons_cons _ (List.Sublist.cons _ (List.Sublist.refl _))) ?_
                                exact E_keepJ (J1062 _ _ _ ⟨rfl, rfl, rfl⟩) (List.Perm.refl _) ⟨rfl, rfl, rfl, rfl, rfl, (by show some (Value.bool (!decide (y751.B_ = 0))) = some (Value.bool ((!decide (y751.A = 0)) || (!decide (y751.B_ = 0)))); simp only [hb101, hb102, hb922, hb923, hb996, hb1006, hb1028, hb1064, Bool.and_true, Bool.true_and, Bool.false_and, Bool.and_false, Bool.or_true, Bool.true_or, Bool.or_false, Bool.false_or, Bool.not_true, Bool.not_false]), trivial⟩
                        · refine C_seq ?_
                          refine C_region ?_
                          refine W_bin rfl rfl rfl rfl rfl ?_
                          refine W_assign rfl rfl rfl ?_
                          refine W_end ?_
                          refine E_then ?_
                          refine C_cond (b := decide (y751.Kind = 5)) rfl (fun hb1065 => ?_) (fun hb1065 => ?_)
                          · have hm := ite_t' hb1065 hm
                            refine C_skip ?_
                            exact E_keepJ (J1027 _ _ _ ⟨decide (y751.Kind = 5), hm, rfl, rfl, rfl⟩) (List.Perm.refl _) ⟨rfl, rfl, rfl, rfl, rfl, rfl, rfl, rfl, trivial⟩
                          · have hm := ite_f' hb1065 hm
                            refine C_region ?_
                            refine W_bin rfl rfl rfl rfl rfl ?_
                            refine W_assign rfl rfl rfl ?_
                            refine W_end ?_
                            exact E_keepJ (J1027 _ _ _ ⟨decide (y751.Kind = 6), hm, rfl, rfl, rfl⟩) (List.Perm.refl _) ⟨rfl, rfl, rfl, rfl, rfl, rfl, rfl, rfl, trivial⟩
                    · refine C_region ?_
                      refine W_move rfl rfl rfl ?_
                      refine W_un rfl rfl rfl rfl ?_
                      refine W_move rfl rfl rfl ?_
                      refine W_no rfl rfl rfl ?_
                      refine W_no rfl rfl rfl ?_
                      refine W_no rfl rfl rfl ?_
                      refine W_pick rfl rfl rfl rfl ?_
                      refine W_assign rfl rfl rfl ?_
                      refine W_end ?_
                      exact E_keepJ (J997 _ _ _ ⟨rfl, rfl, rfl⟩) (List.Perm.refl _) ⟨rfl, rfl, rfl, rfl, rfl, rfl, rfl, rfl, trivial⟩
            · refine C_region ?_
              refine W_field (o := 0) rfl rfl Proofs.Try.runUnderlying58 rfl Proofs.Try.sizeOf3 rfl rfl rfl ?_
              refine W_load rfl rfl Proofs.Try.isAgg3 rfl (own_at (List.mem_cons_self ..) rfl) ?_
              refine W_bin rfl rfl rfl rfl rfl ?_
              refine W_move rfl rfl rfl ?_
              cases hb1066 : (decide (y751.Kind < 0))
              · refine W_field (o := 0) rfl rfl Proofs.Try.runUnderlying58 rfl Proofs.Try.sizeOf3 rfl rfl rfl ?_
                refine W_load rfl rfl Proofs.Try.isAgg3 rfl (own_at (List.mem_cons_self ..) rfl) ?_
                refine W_bin rfl rfl rfl rfl rfl ?_
                refine W_pick rfl rfl rfl rfl ?_
                refine W_assign rfl rfl rfl ?_
                refine W_end ?_
                exact E_keepJ (J921 _ _ _ ⟨rfl, rfl, rfl⟩) (List.Perm.refl _) ⟨rfl, rfl, rfl, rfl, rfl, rfl, rfl, rfl, (by show some (Value.bool (decide (6 < y751.Kind))) = some (Value.bool ((decide (y751.Kind < 0)) || (decide (6 < y751.Kind)))); simp only [hb101, hb102, hb1066, Bool.and_true, Bool.true_and, Bool.false_and, Bool.and_false, Bool.or_true, Bool.true_or, Bool.or_false, Bool.false_or, Bool.not_true, Bool.not_false]), trivial⟩
              · refine W_no rfl rfl rfl ?_
                refine W_no rfl rfl rfl ?_
                refine W_no rfl rfl rfl ?_
                refine W_pick rfl rfl rfl rfl ?_
                refine W_assign rfl rfl rfl ?_
                refine W_end ?_
                exact E_keepJ (J921 _ _ _ ⟨rfl, rfl, rfl⟩) (List.Perm.refl _) ⟨rfl, rfl, rfl, rfl, rfl, rfl, rfl, rfl, (by show some (Value.bool (true)) = some (Value.bool ((decide (y751.Kind < 0)) || (decide (6 < y751.Kind)))); simp only [hb101, hb102, hb1066, Bool.and_true, Bool.true_and, Bool.false_and, Bool.and_false, Bool.or_true, Bool.true_or, Bool.or_false, Bool.false_or, Bool.not_true, Bool.not_false]), trivial⟩
          · refine C_region ?_
            refine W_field (o := 0) rfl rfl Proofs.Try.runUnderlying58 rfl Proofs.Try.sizeOf3 rfl rfl rfl ?_
            refine W_load rfl rfl Proofs.Try.isAgg3 rfl (own_at (List.mem_cons_self ..) rfl) ?_
            refine W_bin rfl rfl rfl rfl rfl ?_
            refine W_move rfl rfl rfl ?_
            cases hb1067 : (decide (y751.Kind = 2))
            · refine W_field (o := 0) rfl rfl Proofs.Try.runUnderlying58 rfl Proofs.Try.sizeOf3 rfl rfl rfl ?_
              refine W_load rfl rfl Proofs.Try.isAgg3 rfl (own_at (List.mem_cons_self ..) rfl) ?_
              refine W_bin rfl rfl rfl rfl rfl ?_
              refine W_pick rfl rfl rfl rfl ?_
              refine W_assign rfl rfl rfl ?_
              refine W_end ?_
              exact E_keepJ (J919 _ _ _ ⟨rfl, rfl, rfl⟩) (List.Perm.refl _) ⟨rfl, rfl, rfl, rfl, (by show some (Value.bool (decide (y751.Kind = 3))) = some (Value.bool ((decide (y751.Kind = 2)) || (decide (y751.Kind = 3)))); simp only [hb101, hb102, hb1067, Bool.and_true, Bool.true_and, Bool.false_and, Bool.and_false, Bool.or_true, Bool.true_or, Bool.or_false, Bool.false_or, Bool.not_true, Bool.not_false]), rfl, rfl, rfl, trivial⟩
            · refine W_no rfl rfl rfl ?_
              refine W_no rfl rfl rfl ?_
              refine W_no rfl rfl rfl ?_
              refine W_pick rfl rfl rfl rfl ?_
              refine W_assign rfl rfl rfl ?_
              refine W_end ?_
              exact E_keepJ (J919 _ _ _ ⟨rfl, rfl, rfl⟩) (List.Perm.refl _) ⟨rfl, rfl, rfl, rfl, (by show some (Value.bool (true)) = some (Value.bool ((decide (y751.Kind = 2)) || (decide (y751.Kind = 3)))); simp only [hb101, hb102, hb1067, Bool.and_true, Bool.true_and, Bool.false_and, Bool.and_false, Bool.or_true, Bool.true_or, Bool.or_false, Bool.false_or, Bool.not_true, Bool.not_false]), rfl, rfl, rfl, trivial⟩
      · obtain rfl := rng_f hd754 hb756
        have hm : (idx l744 (IntKind.i64.wrap ((p0_l.length : Int) - 1)) fun y1068 => if !decide (y1068 = 0) then (some 3) else (some 0)) = some r := hm
        refine C_exit (E_exit_then ?_)
        refine E_exit_then ?_
        refine E_exit_hit ?_
        refine E_then ?_
        refine C_seq ?_
        refine C_seq ?_
        refine C_region ?_
        refine W_move rfl rfl rfl ?_
        refine W_move rfl rfl rfl ?_
        refine W_lenR rfl rfl Proofs.Try.runUnderlying44 rfl (h0.mono hle747) ?_
        refine W_bin rfl rfl rfl rfl rfl ?_
        obtain ⟨y1068, h1069, he1070, hm⟩ := idx_some hm
        refine W_indexO (List.mem_cons_self ..) rfl rfl Proofs.Try.runUnderlying76 Proofs.Try.sizeOf3 rfl rfl h1069 (List.getElem?_eq_some_iff.1 he1070).1 ?_
        obtain ⟨_, rfl, hg1071⟩ := (hr745).elem he1070
        refine W_load rfl rfl Proofs.Try.isAgg3 rfl (row_one0 (List.mem_cons_self ..) hg1071 rfl) ?_
        refine W_bin rfl rfl rfl rfl rfl ?_
        refine W_end ?_
        refine E_then ?_
        refine C_cond (b := !decide (y1068 = 0)) rfl (fun hb1072 => ?_) (fun hb1072 => ?_)
        · have hm := ite_t' hb1072 hm
          refine C_seq ?_
          refine C_region ?_
          refine W_assign rfl rfl rfl ?_
          refine W_end ?_
          refine E_then ?_
          refine C_ret ?_
          refine E_ret_then ?_
          obtain rfl := Option.some.inj hm
          refine E_drop (List.Sublist.cons _ (List.Sublist.refl _)) ?_
          refine E_weak hle747 ?_
          exact end1 rfl rfl ⟨rfl, rfl, rfl⟩
        · have hm := ite_f' hb1072 hm
          refine C_skip ?_
          refine E_then ?_
          refine C_seq ?_
          refine C_region ?_
          refine W_assign rfl rfl rfl ?_
          refine W_end ?_
          refine E_then ?_
          refine C_ret ?_
          obtain rfl := Option.some.inj hm
          refine E_drop (List.Sublist.cons _ (List.Sublist.refl _)) ?_
          refine E_weak hle747 ?_
          exact end1 rfl rfl ⟨rfl, rfl, rfl⟩
end Go.Sim
