/-
  Printed by a program: each Go function computes its model.
-/
import Derived.Test.YtaildjiekcgboaaModS
import Derived.Test.YtaildjiekcgboaaRows
import Derived.KernelRfl
namespace Go.Sim
open Go
set_option linter.unusedVariables false
set_option linter.unusedSimpArgs false
set_option maxRecDepth 100000
theorem Facts.mixed : Proofs.Try.prog.follows .mixedOrders = true := by kernel_rfl

theorem m_netmodel_Name_c {B : Nat} {w0 w : World} {H : Hp} {M : List Res} {p0_s : ByteArray} {r : Bool} (hm : m_netmodel_Name p0_s = some r) (ht : St B w0 H (M) w) :
    Calls Proofs.Try.prog 35 [.string (p0_s)].toArray w (Ret B w0 fun H' M' v => H = H' ∧ M = M' ∧ .bool (r) = v) := by
  unfold m_netmodel_Name at hm
  refine enter Proofs.Try.func35 rfl rfl rfl ht ?_
  refine C_seq ?_
  refine C_region ?_
  refine W_assign rfl rfl rfl ?_
  refine W_end ?_
  refine E_then ?_
  refine C_seq ?_
  refine C_seq ?_
  refine C_region ?_
  refine W_move rfl rfl rfl ?_
  obtain ⟨hz101, hm⟩ := need_some hm
  refine W_convBytes rfl rfl Proofs.Try.runUnderlying9 Proofs.Try.runUnderlying67 Proofs.Try.runUnderlying5 rfl hz101 ?_
  intro v102 H103 hle104 h105
  refine W_lenR rfl rfl Proofs.Try.runUnderlying67 rfl h105 ?_
  refine W_move rfl rfl rfl ?_
  refine W_end ?_
  refine E_then ?_
  refine C_block ?_
  refine C_keep (L' := [(0, .string (p0_s)), (6, v102), (7, .int .i64 (((bytesL p0_s).length : Int))), (8, .int .i64 (((0 : Nat) : Int)))]) ⟨rfl, rfl, rfl, rfl, trivial⟩ (List.Perm.refl _) ?_
  refine C_loop (fun n H' M' L' => ∃ (k106 : Nat) (zs143' : List U8), (bytesL p0_s).drop k106 = zs143' ∧ zs143'.length = n ∧ forI (fun k y s n => m_netmodel_Name_b1 k y n) (fun _ => some ((decide (1 ≤ (p0_s.size : Int))) && (decide ((p0_s.size : Int) ≤ 8)))) k106 zs143' () = some r ∧ H103.le H' ∧ M = M' ∧ [(0, .string (p0_s)), (6, v102), (7, .int .i64 (((bytesL p0_s).length : Int))), (8, .int .i64 ((k106 : Int)))] = L') _ ⟨0, _, rfl, rfl, hm, (Hp.le_refl _), rfl, rfl⟩ ?_
  rintro _ H137 _ _ ⟨k106, zs143', hd145, rfl, hm, hle138, rfl, rfl⟩
  refine C_seq ?_
  refine C_region ?_
  refine W_bin rfl rfl rfl rfl rfl ?_
  refine W_end (E_then ?_)
  refine C_seq ?_
  refine C_cond (b := decide ((k106 : Int) < ((bytesL p0_s).length : Int))) rfl (fun hb147 => ?_) (fun hb147 => ?_)
  · obtain ⟨y142, zs143, rfl, hy144, hd146⟩ := rng_t hd145 hb147
    have hm : m_netmodel_Name_b1 k106 y142 (forI (fun k y s n => m_netmodel_Name_b1 k y n) (fun _ => some ((decide (1 ≤ (p0_s.size : Int))) && (decide ((p0_s.size : Int) ≤ 8)))) (k106 + 1) zs143) = some r := hm
    generalize hn140 : forI (fun k y s n => m_netmodel_Name_b1 k y n) (fun _ => some ((decide (1 ≤ (p0_s.size : Int))) && (decide ((p0_s.size : Int) ≤ 8)))) (k106 + 1) zs143 = nx139 at hm
    unfold m_netmodel_Name_b1 at hm
    refine C_skip (E_then ?_)
    refine C_seq ?_
    refine C_block ?_
    refine C_seq ?_
    refine C_region ?_
    refine W_move rfl rfl rfl ?_
    obtain ⟨_, rfl, hc148⟩ := (h105).elem hy144
    refine W_indexS rfl rfl Proofs.Try.runUnderlying67 Proofs.Try.sizeOf5 rfl (h105.mono hle138) rfl (Int.natCast_nonneg _) hy144 ?_
    refine W_load rfl rfl Proofs.Try.isAgg5 rfl (HCells.one (hc148.mono hle138) 0 rfl).at ?_
    refine W_assign rfl rfl rfl ?_
    refine W_assign rfl rfl rfl ?_
    refine W_end ?_
    refine E_then ?_
    refine C_seq_join (fun H' M' L' => H137 = H' ∧ M = M' ∧ [(0, .string (p0_s)), (6, v102), (7, .int .i64 (((bytesL p0_s).length : Int))), (8, .int .i64 ((k106 : Int))), (31, .bool (!(((decide (65 ≤ y142.n)) && (decide (y142.n ≤ 90))) || (((decide (0 < (k106 : Int))) && (decide (48 ≤ y142.n))) && (decide (y142.n ≤ 57))))))] = L') ?_ (fun J155 => ?_)
    · rintro _ _ _ ⟨rfl, rfl, rfl⟩
      refine C_cond (b := !(((decide (65 ≤ y142.n)) && (decide (y142.n ≤ 90))) || (((decide (0 < (k106 : Int))) && (decide (48 ≤ y142.n))) && (decide (y142.n ≤ 57))))) rfl (fun hb156 => ?_) (fun hb156 => ?_)
      · have hm := ite_t' hb156 hm
        refine C_seq ?_
        refine C_region ?_
        refine W_assign rfl rfl rfl ?_
        refine W_end ?_
        refine E_then ?_
        refine C_ret ?_
        refine E_ret_block ?_
        refine E_ret_then ?_
        refine E_ret_then ?_
        refine E_ret_block ?_
        refine E_ret_then ?_
        obtain rfl := Option.some.inj hm
        refine E_weak (Hp.le_trans hle104 hle138) ?_
        exact end1 rfl rfl ⟨rfl, rfl, rfl⟩
      · have hm := ite_f' hb156 hm
        refine C_skip ?_
        refine E_normal_block ?_
        refine E_then ?_
        refine C_region ?_
        refine W_bin rfl rfl rfl rfl rfl ?_
        refine W_move rfl rfl rfl ?_
        refine W_end ?_
        exact E_keepJ (E_back (Nat.lt_succ_self _) ⟨k106 + 1, zs143, hd146, rfl, (by rw [hn140]; exact hm), hle138, rfl, rfl⟩) (List.Perm.refl _) ⟨rfl, rfl, rfl, (congrArg (fun z => some (Value.int .i64 z)) (i64_succ hy144 ((h105.mono hle138)).lenMax)), trivial⟩
    · refine C_region ?_
      refine W_move rfl rfl rfl ?_
      refine W_bin rfl rfl rfl rfl rfl ?_
      refine W_move rfl rfl rfl ?_
      cases hb157 : (decide (65 ≤ y142.n))
      · refine W_no rfl rfl rfl ?_
        refine W_no rfl rfl rfl ?_
        refine W_pick rfl rfl rfl rfl ?_
        refine W_move rfl rfl rfl ?_
        refine W_move rfl rfl rfl ?_
        refine W_bin rfl rfl rfl rfl rfl ?_
        refine W_move rfl rfl rfl ?_
        cases hb158 : (decide (0 < (k106 : Int)))
        · refine W_no rfl rfl rfl ?_
          refine W_no rfl rfl rfl ?_
          refine W_pick rfl rfl rfl rfl ?_
          refine W_move rfl rfl rfl ?_
          refine W_no rfl rfl rfl ?_
          refine W_no rfl rfl rfl ?_
          refine W_pick rfl rfl rfl rfl ?_
          refine W_pick rfl rfl rfl rfl ?_
          refine W_un rfl rfl rfl rfl ?_
          refine W_end ?_
          exact E_keepJ (J155 _ _ _ ⟨rfl, rfl, rfl⟩) (List.Perm.refl _) ⟨rfl, rfl, rfl, rfl, (by show some (Value.bool (true)) = some (Value.bool (!(((decide (65 ≤ y142.n)) && (decide (y142.n ≤ 90))) || (((decide (0 < (k106 : Int))) && (decide (48 ≤ y142.n))) && (decide (y142.n ≤ 57)))))); simp only [hb157, hb158, Bool.and_true, Bool.true_and, Bool.false_and, Bool.and_false, Bool.or_true, Bool.true_or, Bool.or_false, Bool.false_or, Bool.not_true, Bool.not_false]), trivial⟩
        · refine W_move rfl rfl rfl ?_
          refine W_bin rfl rfl rfl rfl rfl ?_
          refine W_pick rfl rfl rfl rfl ?_
          refine W_move rfl rfl rfl ?_
          cases hb159 : (decide (48 ≤ y142.n))
          · refine W_no rfl rfl rfl ?_
            refine W_no rfl rfl rfl ?_
            refine W_pick rfl rfl rfl rfl ?_
            refine W_pick rfl rfl rfl rfl ?_
            refine W_un rfl rfl rfl rfl ?_
            refine W_end ?_
            exact E_keepJ (J155 _ _ _ ⟨rfl, rfl, rfl⟩) (List.Perm.refl _) ⟨rfl, rfl, rfl, rfl, (by show some (Value.bool (true)) = some (Value.bool (!(((decide (65 ≤ y142.n)) && (decide (y142.n ≤ 90))) || (((decide (0 < (k106 : Int))) && (decide (48 ≤ y142.n))) && (decide (y142.n ≤ 57)))))); simp only [hb157, hb158, hb159, Bool.and_true, Bool.true_and, Bool.false_and, Bool.and_false, Bool.or_true, Bool.true_or, Bool.or_false, Bool.false_or, Bool.not_true, Bool.not_false]), trivial⟩
          · refine W_move rfl rfl rfl ?_
            refine W_bin rfl rfl rfl rfl rfl ?_
            refine W_pick rfl rfl rfl rfl ?_
            refine W_pick rfl rfl rfl rfl ?_
            refine W_un rfl rfl rfl rfl ?_
            refine W_end ?_
            exact E_keepJ (J155 _ _ _ ⟨rfl, rfl, rfl⟩) (List.Perm.refl _) ⟨rfl, rfl, rfl, rfl, (by show some (Value.bool (!(decide (y142.n ≤ 57)))) = some (Value.bool (!(((decide (65 ≤ y142.n)) && (decide (y142.n ≤ 90))) || (((decide (0 < (k106 : Int))) && (decide (48 ≤ y142.n))) && (decide (y142.n ≤ 57)))))); simp only [hb157, hb158, hb159, Bool.and_true, Bool.true_and, Bool.false_and, Bool.and_false, Bool.or_true, Bool.true_or, Bool.or_false, Bool.false_or, Bool.not_true, Bool.not_false]), trivial⟩
      · refine W_move rfl rfl rfl ?_
        refine W_bin rfl rfl rfl rfl rfl ?_
        refine W_pick rfl rfl rfl rfl ?_
        refine W_move rfl rfl rfl ?_
        cases hb160 : (decide (y142.n ≤ 90))
        · refine W_move rfl rfl rfl ?_
          refine W_bin rfl rfl rfl rfl rfl ?_
          refine W_move rfl rfl rfl ?_
          cases hb161 : (decide (0 < (k106 : Int)))
          · refine W_no rfl rfl rfl ?_
            refine W_no rfl rfl rfl ?_
            refine W_pick rfl rfl rfl rfl ?_
            refine W_move rfl rfl rfl ?_
            refine W_no rfl rfl rfl ?_
            refine W_no rfl rfl rfl ?_
            refine W_pick rfl rfl rfl rfl ?_
            refine W_pick rfl rfl rfl rfl ?_
            refine W_un rfl rfl rfl rfl ?_
            refine W_end ?_
            exact E_keepJ (J155 _ _ _ ⟨rfl, rfl, rfl⟩) (List.Perm.refl _) ⟨rfl, rfl, rfl, rfl, (by show some (Value.bool (true)) = some (Value.bool (!(((decide (65 ≤ y142.n)) && (decide (y142.n ≤ 90))) || (((decide (0 < (k106 : Int))) && (decide (48 ≤ y142.n))) && (decide (y142.n ≤ 57)))))); simp only [hb157, hb160, hb161, Bool.and_true, Bool.true_and, Bool.false_and, Bool.and_false, Bool.or_true, Bool.true_or, Bool.or_false, Bool.false_or, Bool.not_true, Bool.not_false]), trivial⟩
          · refine W_move rfl rfl rfl ?_
            refine W_bin rfl rfl rfl rfl rfl ?_
            refine W_pick rfl rfl rfl rfl ?_
            refine W_move rfl rfl rfl ?_
            cases hb162 : (decide (48 ≤ y142.n))
            · refine W_no rfl rfl rfl ?_
              refine W_no rfl rfl rfl ?_
              refine W_pick rfl rfl rfl rfl ?_
              refine W_pick rfl rfl rfl rfl ?_
              refine W_un rfl rfl rfl rfl ?_
              refine W_end ?_
              exact E_keepJ (J155 _ _ _ ⟨rfl, rfl, rfl⟩) (List.Perm.refl _) ⟨rfl, rfl, rfl, rfl, (by show some (Value.bool (true)) = some (Value.bool (!(((decide (65 ≤ y142.n)) && (decide (y142.n ≤ 90))) || (((decide (0 < (k106 : Int))) && (decide (48 ≤ y142.n))) && (decide (y142.n ≤ 57)))))); simp only [hb157, hb160, hb161, hb162, Bool.and_true, Bool.true_and, Bool.false_and, Bool.and_false, Bool.or_true, Bool.true_or, Bool.or_false, Bool.false_or, Bool.not_true, Bool.not_false]), trivial⟩
            · refine W_move rfl rfl rfl ?_
              refine W_bin rfl rfl rfl rfl rfl ?_
              refine W_pick rfl rfl rfl rfl ?_
              refine W_pick rfl rfl rfl rfl ?_
              refine W_un rfl rfl rfl rfl ?_
              refine W_end ?_
              exact E_keepJ (J155 _ _ _ ⟨rfl, rfl, rfl⟩) (List.Perm.refl _) ⟨rfl, rfl, rfl, rfl, (by show some (Value.bool (!(decide (y142.n ≤ 57)))) = some (Value.bool (!(((decide (65 ≤ y142.n)) && (decide (y142.n ≤ 90))) || (((decide (0 < (k106 : Int))) && (decide (48 ≤ y142.n))) && (decide (y142.n ≤ 57)))))); simp only [hb157, hb160, hb161, hb162, Bool.and_true, Bool.true_and, Bool.false_and, Bool.and_false, Bool.or_true, Bool.true_or, Bool.or_false, Bool.false_or, Bool.not_true, Bool.not_false]), trivial⟩
        · refine W_no rfl rfl rfl ?_
          refine W_no rfl rfl rfl ?_
          refine W_no rfl rfl rfl ?_
          refine W_no rfl rfl rfl ?_
          refine W_no rfl rfl rfl ?_
          refine W_no rfl rfl rfl ?_
          refine W_no rfl rfl rfl ?_
          refine W_no rfl rfl rfl ?_
          refine W_no rfl rfl rfl ?_
          refine W_no rfl rfl rfl ?_
          refine W_pick rfl rfl rfl rfl ?_
          refine W_un rfl rfl rfl rfl ?_
          refine W_end ?_
          exact E_keepJ (J155 _ _ _ ⟨rfl, rfl, rfl⟩) (List.Perm.refl _) ⟨rfl, rfl, rfl, rfl, (by show some (Value.bool (false)) = some (Value.bool (!(((decide (65 ≤ y142.n)) && (decide (y142.n ≤ 90))) || (((decide (0 < (k106 : Int))) && (decide (48 ≤ y142.n))) && (decide (y142.n ≤ 57)))))); simp only [hb157, hb160, Bool.and_true, Bool.true_and, Bool.false_and, Bool.and_false, Bool.or_true, Bool.true_or, Bool.or_false, Bool.false_or, Bool.not_true, Bool.not_false]), trivial⟩
  · obtain rfl := rng_f hd145 hb147
    have hm : (some ((decide (1 ≤ (p0_s.size : Int))) && (decide ((p0_s.size : Int) ≤ 8)))) = some r := hm
    refine C_exit (E_exit_then ?_)
    refine E_exit_then ?_
    refine E_exit_hit ?_
    refine E_then ?_
    refine C_seq_join (fun H' M' L' => H137 = H' ∧ M = M' ∧ [(2, .bool ((decide (1 ≤ (p0_s.size : Int))) && (decide ((p0_s.size : Int) ≤ 8))))] = L') ?_ (fun J164 => ?_)
    · rintro _ _ _ ⟨rfl, rfl, rfl⟩
      refine C_ret ?_
      obtain rfl := Option.some.inj hm
      refine E_weak (Hp.le_trans hle104 hle138) ?_
      exact end1 rfl rfl ⟨rfl, rfl, rfl⟩
    · refine C_region ?_
      refine W_move rfl rfl rfl ?_
      refine W_lenStr rfl rfl Proofs.Try.runUnderlying9 rfl ?_
      refine W_bin rfl rfl rfl rfl rfl ?_
      refine W_move rfl rfl rfl ?_
      cases hb165 : (decide (1 ≤ (p0_s.size : Int)))
      · refine W_no rfl rfl rfl ?_
        refine W_no rfl rfl rfl ?_
        refine W_no rfl rfl rfl ?_
        refine W_pick rfl rfl rfl rfl ?_
        refine W_assign rfl rfl rfl ?_
        refine W_end ?_
        exact E_keepJ (J164 _ _ _ ⟨rfl, rfl, rfl⟩) (List.Perm.refl _) ⟨(by show some (Value.bool (false)) = some (Value.bool ((decide (1 ≤ (p0_s.size : Int))) && (decide ((p0_s.size : Int) ≤ 8)))); simp only [hb165, Bool.and_true, Bool.true_and, Bool.false_and, Bool.and_false, Bool.or_true, Bool.true_or, Bool.or_false, Bool.false_or, Bool.not_true, Bool.not_false]), trivial⟩
      · refine W_move rfl rfl rfl ?_
        refine W_lenStr rfl rfl Proofs.Try.runUnderlying9 rfl ?_
        refine W_bin rfl rfl rfl rfl rfl ?_
        refine W_pick rfl rfl rfl rfl ?_
        refine W_assign rfl rfl rfl ?_
        refine W_end ?_
        exact E_keepJ (J164 _ _ _ ⟨rfl, rfl, rfl⟩) (List.Perm.refl _) ⟨(by show some (Value.bool (decide ((p0_s.size : Int) ≤ 8))) = some (Value.bool ((decide (1 ≤ (p0_s.size : Int))) && (decide ((p0_s.size : Int) ≤ 8)))); simp only [hb165, Bool.and_true, Bool.true_and, Bool.false_and, Bool.and_false, Bool.or_true, Bool.true_or, Bool.or_false, Bool.false_or, Bool.not_true, Bool.not_false]), trivial⟩

theorem m_shed_Check_c {B : Nat} {w0 w : World} {H : Hp} {M : List Res} {p0_l : (List S_api_ShedStage)} {v0 : Value} {r : Int} (hm : m_shed_Check p0_l = some r) (h0 : RdS H v0 p0_l) (ht : St B w0 H (M) w) :
    Calls Proofs.Try.prog 20 [v0].toArray w (Ret B w0 fun H' M' v => H = H' ∧ M = M' ∧ .int .i64 (r) = v) := by
  unfold m_shed_Check at hm
  refine enter Proofs.Try.func20 rfl rfl rfl ht ?_
  refine C_seq ?_
  refine C_region ?_
  refine W_assign rfl rfl rfl ?_
  refine W_end ?_
  refine E_then ?_
  refine C_seq ?_
  refine C_seq ?_
  refine C_region ?_
  refine W_move rfl rfl rfl ?_
  refine W_lenR rfl rfl Proofs.Try.runUnderlying34 rfl h0 ?_
  refine W_bin rfl rfl rfl rfl rfl ?_
  refine W_end ?_
  refine E_then ?_
  refine C_cond (b := decide (8 < (p0_l.length : Int))) rfl (fun hb101 => ?_) (fun hb101 => ?_)
  · have hm := ite_t' hb101 hm
    refine C_seq ?_
    refine C_region ?_
    refine W_assign rfl rfl rfl ?_
    refine W_end ?_
    refine E_then ?_
    refine C_ret ?_
    refine E_ret_then ?_
    obtain rfl := Option.some.inj hm
    refine E_weak (Hp.le_refl _) ?_
    exact end1 rfl rfl ⟨rfl, rfl, rfl⟩
  · have hm := ite_f' hb101 hm
    refine C_skip ?_
    refine E_then ?_
    refine C_seq ?_
    refine C_region ?_
    refine W_makeMap rfl rfl (fun b102 => ?_)
    refine W_assign rfl rfl rfl ?_
    refine W_end ?_
    refine E_then ?_
    refine C_seq ?_
    refine C_seq ?_
    refine C_region ?_
    refine W_move rfl rfl rfl ?_
    refine W_lenR rfl rfl Proofs.Try.runUnderlying34 rfl h0 ?_
    refine W_move rfl rfl rfl ?_
    refine W_end ?_
    refine E_then ?_
    refine C_block ?_
    refine C_keep (L' := [(0, v0), (3, .map (some b102)), (12, v0), (13, .int .i64 ((p0_l.length : Int))), (14, .int .i64 (((0 : Nat) : Int)))]) ⟨rfl, rfl, rfl, rfl, rfl, trivial⟩ (List.Perm.refl _) ?_
    refine C_loop (fun n H' M' L' => ∃ (k103 : Nat) (zs370' : List S_api_ShedStage), ∃ l362 : (List (ByteArray × Bool)), ∃ es360 : Array MapEntry, ∃ cl361 : Nat, (p0_l).drop k103 = zs370' ∧ zs370'.length = n ∧ forI (fun k y s n => m_shed_Check_b5 p0_l k y s n) (fun s => some 0) k103 zs370' l362 = some r ∧ MapR es360 l362 ∧ H.le H' ∧ .obj b102 (.map es360 cl361) :: M = M' ∧ [(0, v0), (3, .map (some b102)), (12, v0), (13, .int .i64 ((p0_l.length : Int))), (14, .int .i64 ((k103 : Int)))] = L') _ ⟨0, _, ([] : (List (ByteArray × Bool))), (#[]), 0, rfl, rfl, hm, (MapR.nil (κ := ByteArray) (ν := Bool)), (Hp.le_refl _), rfl, rfl⟩ ?_
    rintro _ H364 _ _ ⟨k103, zs370', l362, es360, cl361, hd372, rfl, hm, hm363, hle365, rfl, rfl⟩
    refine C_seq ?_
    refine C_region ?_
    refine W_bin rfl rfl rfl rfl rfl ?_
    refine W_end (E_then ?_)
    refine C_seq ?_
    refine C_cond (b := decide ((k103 : Int) < (p0_l.length : Int))) rfl (fun hb374 => ?_) (fun hb374 => ?_)
    · obtain ⟨y369, zs370, rfl, hy371, hd373⟩ := rng_t hd372 hb374
      have hm : m_shed_Check_b5 p0_l k103 y369 l362 (forI (fun k y s n => m_shed_Check_b5 p0_l k y s n) (fun s => some 0) (k103 + 1) zs370) = some r := hm
      generalize hn367 : forI (fun k y s n => m_shed_Check_b5 p0_l k y s n) (fun s => some 0) (k103 + 1) zs370 = nx366 at hm
      unfold m_shed_Check_b5 at hm
      refine C_skip (E_then ?_)
      refine C_seq ?_
      refine C_block ?_
      refine C_seq ?_
      refine C_region ?_
      refine W_move rfl rfl rfl ?_
      obtain ⟨_, ⟨v376, rfl, h377⟩, hc375⟩ := (h0).elem hy371
      refine W_indexS rfl rfl Proofs.Try.runUnderlying34 Proofs.Try.sizeOf43 rfl (h0.mono hle365) rfl (Int.natCast_nonneg _) hy371 ?_
      refine W_loadAgg rfl rfl Proofs.Try.isAgg43 Proofs.Try.sizeOf43 rfl (hc375.mono hle365).at rfl ?_
      refine W_alloc (cs := [.int .i64 (0), .int .i64 (0), .slice none 0 0]) rfl rfl Proofs.Try.zeroValue43 rfl (fun b378 => ?_)
      refine W_assign rfl rfl rfl ?_
      refine W_store (cs := [.int .i64 (y369.Below), .int .i64 (y369.Wait), v376]) (out := [.int .i64 (y369.Below), .int .i64 (y369.Wait), v376]) rfl Proofs.Try.sizeOf43 rfl rfl rfl rfl rfl (all_cons rfl (all_cons rfl (all_cons (RdS.one1 (h377.mono hle365)) all_nil))) (over_all rfl) ?_
      refine W_end ?_
      refine E_then ?_
      refine C_seq ?_
      refine C_block ?_
      refine C_seq_join (fun H' M' L' => H364 = H' ∧ .obj b378 (.cells [.int .i64 (y369.Below), .int .i64 (y369.Wait), v376].toArray 43 (0, 0)) :: .obj b102 (.map es360 cl361) :: M = M' ∧ [(0, v0), (3, .map (some b102)), (4, .int .i64 ((k103 : Int))), (5, .pointer (some ⟨b378, 0, none⟩)), (12, v0), (13, .int .i64 ((p0_l.length : Int))), (14, .int .i64 ((k103 : Int))), (19, .bool ((((decide (y369.Below < (-10000))) || (decide ((-1) < y369.Below))) || (decide (y369.Wait < 1))) || (decide (60 < y369.Wait))))] = L') ?_ (fun J382 => ?_)
      · rintro _ _ _ ⟨rfl, rfl, rfl⟩
        refine C_cond (b := (((decide (y369.Below < (-10000))) || (decide ((-1) < y369.Below))) || (decide (y369.Wait < 1))) || (decide (60 < y369.Wait))) rfl (fun hb383 => ?_) (fun hb383 => ?_)
        · have hm := ite_t' hb383 hm
          refine C_seq ?_
          refine C_region ?_
          refine W_assign rfl rfl rfl ?_
          refine W_end ?_
          refine E_then ?_
          refine C_ret ?_
          refine E_ret_block ?_
          refine E_ret_then ?_
          refine E_ret_block ?_
          refine E_ret_then ?_
          refine E_ret_then ?_
          refine E_ret_block ?_
          refine E_ret_then ?_
          obtain rfl := Option.some.inj hm
          refine E_drop (List.Sublist.cons _ (List.Sublist.cons _ (List.Sublist.refl _))) ?_
          refine E_weak hle365 ?_
          exact end1 rfl rfl ⟨rfl, rfl, rfl⟩
        · have hm := ite_f' hb383 hm
          refine C_seq ?_
          cases hb384 : (decide (0 < (k103 : Int)))
          · have hm := ite_f' hb384 hm
            refine C_region_tok0 11 (phiT [(fun H rs v => [] = rs ∧ .int .i64 ((k103 : Int)) = v), (fun H rs v => [] = rs ∧ .bool (false) = v), (fun H rs v => [] = rs ∧ .bool (false) = v), (fun H rs v => [] = rs ∧ undef = v), (fun H rs v => [] = rs ∧ undef = v), (fun H rs v => [] = rs ∧ undef = v), (fun H rs v => [] = rs ∧ undef = v), (fun H rs v => [] = rs ∧ undef = v), (fun H rs v => [] = rs ∧ undef = v), (fun H rs v => [] = rs ∧ undef = v), (fun H rs v => [] = rs ∧ undef = v)]) [[], [], [], [], [], [], [], [], [], [], []] [[], [], [], [], [], [], [], [], [], [], []] [] [0, 1, 2, 3, 4, 5, 6, 7, 8, 9, 10] Facts.mixed (by kernel_rfl) rfl rfl rfl (by kernel_rfl) (phiT_mono ⟨eq_monoT _ _, eq_monoT _ _, eq_monoT _ _, eq_monoT _ _, eq_monoT _ _, eq_monoT _ _, eq_monoT _ _, eq_monoT _ _, eq_monoT _ _, eq_monoT _ _, eq_monoT _ _, trivial⟩) ⟨?_, ?_, ?_, ?_, ?_, ?_, ?_, ?_, ?_, ?_, ?_, trivial⟩ ?_
            · intro HX hX X Rest hR
              intro hU
              refine W_move rfl rfl rfl ?_
              exact W_end (OneT_end [] (Hp.le_refl _) ⟨rfl, rfl⟩)
            · intro HX hX X Rest hR
              rintro _ _ ⟨rfl, rfl⟩
              intro hU
              refine W_bin rfl rfl rfl rfl rfl ?_
              exact W_end (OneT_end [] (Hp.le_refl _) ⟨rfl, (by rw [hb384]; try rfl)⟩)
            · intro HX hX X Rest hR
              rintro _ _ ⟨rfl, rfl⟩
              intro hU
              refine W_move rfl rfl rfl ?_
              exact W_end (OneT_end [] (Hp.le_refl _) ⟨rfl, rfl⟩)
            · intro HX hX X Rest hR
              rintro _ _ ⟨rfl, rfl⟩
              intro hU
              refine W_no rfl rfl rfl ?_
              exact W_end (OneT_end [] (Hp.le_refl _) ⟨rfl, rfl⟩)
            · intro HX hX X Rest hR
              rintro _ _ ⟨rfl, rfl⟩
              rintro _ _ ⟨rfl, rfl⟩
              intro hU
              refine W_no rfl rfl rfl ?_
              exact W_end (OneT_end [] (Hp.le_refl _) ⟨rfl, rfl⟩)
            · intro HX hX X Rest hR
              rintro _ _ ⟨rfl, rfl⟩
              intro hU
              refine W_no rfl rfl rfl ?_
              exact W_end (OneT_end [] (Hp.le_refl _) ⟨rfl, rfl⟩)
            · intro HX hX X Rest hR
              rintro _ _ ⟨rfl, rfl⟩
              intro hU
              refine W_no rfl rfl rfl ?_
              exact W_end (OneT_end [] (Hp.le_refl _) ⟨rfl, rfl⟩)
            · intro HX hX X Rest hR
              rintro _ _ ⟨rfl, rfl⟩
              rintro _ _ ⟨rfl, rfl⟩
              intro hU
              refine W_no rfl rfl rfl ?_
              exact W_end (OneT_end [] (Hp.le_refl _) ⟨rfl, rfl⟩)
            · intro HX hX X Rest hR
              rintro _ _ ⟨rfl, rfl⟩
              rintro _ _ ⟨rfl, rfl⟩
              rintro _ _ ⟨rfl, rfl⟩
              intro hU
              refine W_no rfl rfl rfl ?_
              exact W_end (OneT_end [] (Hp.le_refl _) ⟨rfl, rfl⟩)
            · intro HX hX X Rest hR
              rintro _ _ ⟨rfl, rfl⟩
              rintro _ _ ⟨rfl, rfl⟩
              intro hU
              refine W_no rfl rfl rfl ?_
              exact W_end (OneT_end [] (Hp.le_refl _) ⟨rfl, rfl⟩)
            · intro HX hX X Rest hR
              rintro _ _ ⟨rfl, rfl⟩
              rintro _ _ ⟨rfl, rfl⟩
              intro hU
              refine W_no rfl rfl rfl ?_
              exact W_end (OneT_end [] (Hp.le_refl _) ⟨rfl, rfl⟩)
            intro H385 hle386
            rintro _ _ ⟨rfl, rfl⟩
            rintro _ _ ⟨rfl, rfl⟩
            rintro _ _ ⟨rfl, rfl⟩
            rintro _ _ ⟨rfl, rfl⟩
            rintro _ _ ⟨rfl, rfl⟩
            rintro _ _ ⟨rfl, rfl⟩
            rintro _ _ ⟨rfl, rfl⟩
            rintro _ _ ⟨rfl, rfl⟩
            rintro _ _ ⟨rfl, rfl⟩
            rintro _ _ ⟨rfl, rfl⟩
            rintro _ _ ⟨rfl, rfl⟩
            refine W_no rfl rfl rfl ?_
            refine W_pick rfl rfl rfl rfl ?_
            refine W_assign rfl rfl rfl ?_
            refine W_end ?_
            refine E_then ?_
            refine C_cond (b := false) rfl (fun hb => Bool.noConfusion hb) (fun _ => ?_)
            refine C_seq ?_
            refine C_region ?_
            refine W_field (o := 2) rfl rfl Proofs.Try.runUnderlying43 rfl Proofs.Try.sizeOf39 rfl rfl rfl ?_
            refine W_load rfl rfl Proofs.Try.isAgg39 rfl (own_at (List.mem_cons_self ..) rfl) ?_
            refine W_lenR rfl rfl Proofs.Try.runUnderlying39 rfl ((h377.mono hle365).mono hle386) ?_
            refine W_bin rfl rfl rfl rfl rfl ?_
            refine W_assign rfl rfl rfl ?_
            refine W_end ?_
            refine E_then ?_
            refine C_cond (b := decide (12 < (y369.Loads.length : Int))) rfl (fun hb387 => ?_) (fun hb387 => ?_)
            · have hm := ite_t' hb387 hm
              refine C_seq ?_
              refine C_region ?_
              refine W_assign rfl rfl rfl ?_
              refine W_end ?_
              refine E_then ?_
              refine C_ret ?_
              refine E_ret_block ?_
              refine E_ret_then ?_
              refine E_ret_block ?_
              refine E_ret_then ?_
              refine E_ret_then ?_
              refine E_ret_block ?_
              refine E_ret_then ?_
              obtain rfl := Option.some.inj hm
              refine E_drop (List.Sublist.cons _ (List.Sublist.cons _ (List.Sublist.refl _))) ?_
              refine E_weak (Hp.le_trans hle365 hle386) ?_
              exact end1 rfl rfl ⟨rfl, rfl, rfl⟩
            · have hm := ite_f' hb387 hm
              refine C_skip ?_
              refine E_normal_block ?_
              refine E_then ?_
              refine C_seq ?_
              refine C_region ?_
              refine W_field (o := 2) rfl rfl Proofs.Try.runUnderlying43 rfl Proofs.Try.sizeOf39 rfl rfl rfl ?_
              refine W_load rfl rfl Proofs.Try.isAgg39 rfl (own_at (List.mem_cons_self ..) rfl) ?_
              refine W_lenR rfl rfl Proofs.Try.runUnderlying39 rfl ((h377.mono hle365).mono hle386) ?_
              refine W_move rfl rfl rfl ?_
              refine W_end ?_
              refine E_then ?_
              refine C_block ?_
              refine C_drop (List.Sublist.cons _ (List.Sublist.refl _)) ?_
              refine C_keep (L' := [(0, v0), (3, .map (some b102)), (12, v0), (13, .int .i64 ((p0_l.length : Int))), (14, .int .i64 ((k103 : Int))), (58, v376), (59, .int .i64 ((y369.Loads.length : Int))), (60, .int .i64 (((0 : Nat) : Int)))]) ⟨rfl, rfl, rfl, rfl, rfl, rfl, rfl, rfl, trivial⟩ (List.Perm.refl _) ?_
              refine C_loop (fun n H' M' L' => ∃ (k388 : Nat) (zs423' : List ByteArray), ∃ l415 : (List (ByteArray × Bool)), ∃ es413 : Array MapEntry, ∃ cl414 : Nat, (y369.Loads).drop k388 = zs423' ∧ zs423'.length = n ∧ forI (fun k y s n => m_shed_Check_b6 k y s n) (fun s => nx366 s) k388 zs423' l415 = some r ∧ MapR es413 l415 ∧ H385.le H' ∧ .obj b102 (.map es413 cl414) :: M = M' ∧ [(0, v0), (3, .map (some b102)), (12, v0), (13, .int .i64 ((p0_l.length : Int))), (14, .int .i64 ((k103 : Int))), (58, v376), (59, .int .i64 ((y369.Loads.length : Int))), (60, .int .i64 ((k388 : Int)))] = L') _ ⟨0, _, l362, es360, cl361, rfl, rfl, hm, hm363, (Hp.le_refl _), rfl, rfl⟩ ?_
              rintro _ H417 _ _ ⟨k388, zs423', l415, es413, cl414, hd425, rfl, hm, hm416, hle418, rfl, rfl⟩
              refine C_seq ?_
              refine C_region ?_
              refine W_bin rfl rfl rfl rfl rfl ?_
              refine W_end (E_then ?_)
              refine C_seq ?_
              refine C_cond (b := decide ((k388 : Int) < (y369.Loads.length : Int))) rfl (fun hb427 => ?_) (fun hb427 => ?_)
              · obtain ⟨y422, zs423, rfl, hy424, hd426⟩ := rng_t hd425 hb427
                have hm : m_shed_Check_b6 k388 y422 l415 (forI (fun k y s n => m_shed_Check_b6 k y s n) (fun s => nx366 s) (k388 + 1) zs423) = some r := hm
                generalize hn420 : forI (fun k y s n => m_shed_Check_b6 k y s n) (fun s => nx366 s) (k388 + 1) zs423 = nx419 at hm
                unfold m_shed_Check_b6 at hm
                refine C_skip (E_then ?_)
                refine C_seq ?_
                refine C_block ?_
                refine C_seq ?_
                refine C_region ?_
                obtain ⟨_, rfl, hc428⟩ := (h377).elem hy424
                refine W_indexS rfl rfl Proofs.Try.runUnderlying39 Proofs.Try.sizeOf9 rfl (((h377.mono hle365).mono hle386).mono hle418) rfl (Int.natCast_nonneg _) hy424 ?_
                refine W_load rfl rfl Proofs.Try.isAgg9 rfl (HCells.one (((hc428.mono hle365).mono hle386).mono hle418) 0 rfl).at ?_
                refine W_assign rfl rfl rfl ?_
                refine W_end ?_
                refine E_then ?_
                refine C_seq ?_
                refine C_seq ?_
                refine C_region ?_
                refine W_move rfl rfl rfl ?_
                obtain ⟨r429, hc430, hm⟩ := bind_some hm
                refine W_call Proofs.Try.call35 rfl rfl rfl (fun w ht => by have h := m_netmodel_Name_c (hm := hc430)  ht; exact h) ?_
                rintro _ _ _ ⟨rfl, rfl, rfl⟩
                refine W_un rfl rfl rfl rfl ?_
                refine W_end ?_
                refine E_then ?_
                refine C_cond (b := !r429) rfl (fun hb431 => ?_) (fun hb431 => ?_)
                · have hm := ite_t' hb431 hm
                  refine C_seq ?_
                  refine C_region ?_
                  refine W_assign rfl rfl rfl ?_
                  refine W_end ?_
                  refine E_then ?_
                  refine C_ret ?_
                  refine E_ret_then ?_
                  refine E_ret_block ?_
                  refine E_ret_then ?_
                  refine E_ret_then ?_
                  refine E_ret_block ?_
                  refine E_ret_block ?_
                  refine E_ret_then ?_
                  refine E_ret_then ?_
                  refine E_ret_block ?_
                  refine E_ret_then ?_
                  obtain rfl := Option.some.inj hm
                  refine E_drop (List.Sublist.cons _ (List.Sublist.refl _)) ?_
                  refine E_weak (Hp.le_trans (Hp.le_trans hle365 hle386) hle418) ?_
                  exact end1 rfl rfl ⟨rfl, rfl, rfl⟩
                · have hm := ite_f' hb431 hm
                  refine C_skip ?_
                  refine E_then ?_
                  refine C_seq ?_
                  refine C_seq ?_
                  refine C_region ?_
                  refine W_move rfl rfl rfl ?_
                  refine W_move rfl rfl rfl ?_
                  refine W_lookup (z := false) (k := y422) (List.mem_cons_self ..) hm416 rfl rfl Proofs.Try.runUnderlying62 Proofs.Try.runUnderlying9 Proofs.Try.zeroValue4 rfl rfl rfl rfl ?_
                  refine W_end ?_
                  refine E_then ?_
                  refine C_cond (b := (mget l415 y422).getD false) rfl (fun hb432 => ?_) (fun hb432 => ?_)
                  · have hm := ite_t' hb432 hm
                    refine C_seq ?_
                    refine C_region ?_
                    refine W_assign rfl rfl rfl ?_
                    refine W_end ?_
                    refine E_then ?_
                    refine C_ret ?_
                    refine E_ret_then ?_
                    refine E_ret_block ?_
                    refine E_ret_then ?_
                    refine E_ret_then ?_
                    refine E_ret_block ?_
                    refine E_ret_block ?_
                    refine E_ret_then ?_
                    refine E_ret_then ?_
                    refine E_ret_block ?_
                    refine E_ret_then ?_
                    obtain rfl := Option.some.inj hm
                    refine E_drop (List.Sublist.cons _ (List.Sublist.refl _)) ?_
                    refine E_weak (Hp.le_trans (Hp.le_trans hle365 hle386) hle418) ?_
                    exact end1 rfl rfl ⟨rfl, rfl, rfl⟩
                  · have hm := ite_f' hb432 hm
                    refine C_skip ?_
                    refine E_then ?_
                    refine C_region ?_
                    refine W_move rfl rfl rfl ?_
                    refine W_move rfl rfl rfl ?_
                    refine W_mapUpdate (k := y422) (v := true) hm416 rfl Proofs.Try.runUnderlying62 Proofs.Try.runUnderlying9 rfl rfl rfl rfl rfl ?_
                    intro es433 cl434 hm435
                    refine W_end ?_
                    refine E_normal_block ?_
                    refine E_then ?_
                    refine C_region ?_
                    refine W_bin rfl rfl rfl rfl rfl ?_
                    refine W_move rfl rfl rfl ?_
                    refine W_end ?_
                    exact E_keepJ (E_back (Nat.lt_succ_self _) ⟨k388 + 1, zs423, (mput l415 y422 true), es433, cl434, hd426, rfl, (by rw [hn420]; exact hm), hm435, hle418, rfl, rfl⟩) (List.Perm.refl _) ⟨rfl, rfl, rfl, rfl, rfl, rfl, rfl, (congrArg (fun z => some (Value.int .i64 z)) (i64_succ hy424 ((((h377.mono hle365).mono hle386).mono hle418)).lenMax)), trivial⟩
              · obtain rfl := rng_f hd425 hb427
                have hm : (nx366 l415) = some r := hm
                refine C_exit (E_exit_then ?_)
                refine E_exit_then ?_
                refine E_exit_hit ?_
                refine E_normal_block ?_
                refine E_then ?_
                refine C_region ?_
                refine W_bin rfl rfl rfl rfl rfl ?_
                refine W_move rfl rfl rfl ?_
                refine W_end ?_
                exact E_keepJ (E_back (Nat.lt_succ_self _) ⟨k103 + 1, zs370, l415, es413, cl414, hd373, rfl, (by rw [hn367]; exact hm), hm416, (Hp.le_trans (Hp.le_trans hle365 hle386) hle418), rfl, rfl⟩) (List.Perm.refl _) ⟨rfl, rfl, rfl, rfl, (congrArg (fun z => some (Value.int .i64 z)) (i64_succ hy371 ((h0.mono hle365)).lenMax)), trivial⟩
          · have hm := ite_t' hb384 hm
            obtain ⟨y436, h437, he438, hm⟩ := idx_some hm
            obtain ⟨_, ⟨v440, rfl, h441⟩, hc439⟩ := (h0).elem he438
            refine C_region_tok0 11 (phiT [(fun H rs v => [] = rs ∧ .int .i64 ((k103 : Int)) = v), (fun H rs v => [] = rs ∧ .bool (true) = v), (fun H rs v => [] = rs ∧ .bool (true) = v), (fun H rs v => [] = rs ∧ .pointer (some ⟨b378, 0, none⟩) = v), (fun H rs v => [] = rs ∧ .int .i64 (y369.Below) = v), (fun H rs v => [] = rs ∧ v0 = v), (fun H rs v => [] = rs ∧ .int .i64 ((k103 : Int)) = v), (fun H rs v => [] = rs ∧ .int .i64 (IntKind.i64.wrap ((k103 : Int) - 1)) = v), (fun H rs v => [] = rs ∧ .pointer (some ((Value.base (v0)).add ((IntKind.i64.wrap ((k103 : Int) - 1) : Int).toNat * 3))) = v), (fun H rs v => [] = rs ∧ .pointer (some ((Value.base (v0)).add ((IntKind.i64.wrap ((k103 : Int) - 1) : Int).toNat * 3))) = v), (fun H rs v => [] = rs ∧ .int .i64 (y436.Below) = v)]) [[], [], [], [], [], [], [], [], [], [], []] [[], [], [], [], [], [], [], [], [], [], []] [] [0, 1, 2, 3, 4, 5, 6, 7, 8, 9, 10] Facts.mixed (by kernel_rfl) rfl rfl rfl (by kernel_rfl) (phiT_mono ⟨eq_monoT _ _, eq_monoT _ _, eq_monoT _ _, eq_monoT _ _, eq_monoT _ _, eq_monoT _ _, eq_monoT _ _, eq_monoT _ _, eq_monoT _ _, eq_monoT _ _, eq_monoT _ _, trivial⟩) ⟨?_, ?_, ?_, ?_, ?_, ?_, ?_, ?_, ?_, ?_, ?_, trivial⟩ ?_
            · intro HX hX X Rest hR
              intro hU
              refine W_move rfl rfl rfl ?_
              exact W_end (OneT_end [] (Hp.le_refl _) ⟨rfl, rfl⟩)
            · intro HX hX X Rest hR
              rintro _ _ ⟨rfl, rfl⟩
              intro hU
              refine W_bin rfl rfl rfl rfl rfl ?_
              exact W_end (OneT_end [] (Hp.le_refl _) ⟨rfl, (by rw [hb384]; try rfl)⟩)
            · intro HX hX X Rest hR
              rintro _ _ ⟨rfl, rfl⟩
              intro hU
              refine W_move rfl rfl rfl ?_
              exact W_end (OneT_end [] (Hp.le_refl _) ⟨rfl, rfl⟩)
            · intro HX hX X Rest hR
              rintro _ _ ⟨rfl, rfl⟩
              intro hU
              refine W_field (o := 0) rfl rfl Proofs.Try.runUnderlying43 rfl Proofs.Try.sizeOf3 rfl rfl rfl ?_
              exact W_end (OneT_end [] (Hp.le_refl _) ⟨rfl, rfl⟩)
            · intro HX hX X Rest hR
              rintro _ _ ⟨rfl, rfl⟩
              rintro _ _ ⟨rfl, rfl⟩
              intro hU
              refine W_load rfl rfl Proofs.Try.isAgg3 rfl (own_at (hR _ (List.mem_cons_self ..)) rfl) ?_
              exact W_end (OneT_end [] (Hp.le_refl _) ⟨rfl, rfl⟩)
            · intro HX hX X Rest hR
              rintro _ _ ⟨rfl, rfl⟩
              intro hU
              refine W_move rfl rfl rfl ?_
              exact W_end (OneT_end [] (Hp.le_refl _) ⟨rfl, rfl⟩)
            · intro HX hX X Rest hR
              rintro _ _ ⟨rfl, rfl⟩
              intro hU
              refine W_move rfl rfl rfl ?_
              exact W_end (OneT_end [] (Hp.le_refl _) ⟨rfl, rfl⟩)
            · intro HX hX X Rest hR
              rintro _ _ ⟨rfl, rfl⟩
              rintro _ _ ⟨rfl, rfl⟩
              intro hU
              refine W_bin rfl rfl rfl rfl rfl ?_
              exact W_end (OneT_end [] (Hp.le_refl _) ⟨rfl, rfl⟩)
            · intro HX hX X Rest hR
              rintro _ _ ⟨rfl, rfl⟩
              rintro _ _ ⟨rfl, rfl⟩
              rintro _ _ ⟨rfl, rfl⟩
              intro hU
              refine W_indexS rfl rfl Proofs.Try.runUnderlying34 Proofs.Try.sizeOf43 rfl ((h0.mono hle365).mono hX) rfl h437 he438 ?_
              exact W_end (OneT_end [] (Hp.le_refl _) ⟨rfl, rfl⟩)
            · intro HX hX X Rest hR
              rintro _ _ ⟨rfl, rfl⟩
              rintro _ _ ⟨rfl, rfl⟩
              intro hU
              refine W_field (o := 0) rfl rfl Proofs.Try.runUnderlying43 rfl Proofs.Try.sizeOf3 rfl rfl rfl ?_
              exact W_end (OneT_end [] (Hp.le_refl _) ⟨rfl, rfl⟩)
            · intro HX hX X Rest hR
              rintro _ _ ⟨rfl, rfl⟩
              rintro _ _ ⟨rfl, rfl⟩
              intro hU
              refine W_load rfl rfl Proofs.Try.isAgg3 rfl (HCells.one ((hc439.mono hle365).mono hX) 0 rfl).at ?_
              exact W_end (OneT_end [] (Hp.le_refl _) ⟨rfl, rfl⟩)
            intro H442 hle443
            rintro _ _ ⟨rfl, rfl⟩
            rintro _ _ ⟨rfl, rfl⟩
            rintro _ _ ⟨rfl, rfl⟩
            rintro _ _ ⟨rfl, rfl⟩
            rintro _ _ ⟨rfl, rfl⟩
            rintro _ _ ⟨rfl, rfl⟩
            rintro _ _ ⟨rfl, rfl⟩
            rintro _ _ ⟨rfl, rfl⟩
            rintro _ _ ⟨rfl, rfl⟩
            rintro _ _ ⟨rfl, rfl⟩
            rintro _ _ ⟨rfl, rfl⟩
            refine W_bin rfl rfl rfl rfl rfl ?_
            refine W_pick rfl rfl rfl rfl ?_
            refine W_assign rfl rfl rfl ?_
            refine W_end ?_
            refine E_then ?_
            refine C_cond (b := decide (y436.Below ≤ y369.Below)) rfl (fun hb444 => ?_) (fun hb444 => ?_)
            · have hm := ite_t' hb444 hm
              refine C_seq ?_
              refine C_region ?_
              refine W_assign rfl rfl rfl ?_
              refine W_end ?_
              refine E_then ?_
              refine C_ret ?_
              refine E_ret_block ?_
              refine E_ret_then ?_
              refine E_ret_block ?_
              refine E_ret_then ?_
              refine E_ret_then ?_
              refine E_ret_block ?_
              refine E_ret_then ?_
              obtain rfl := Option.some.inj hm
              refine E_drop (List.Sublist.cons _ (List.Sublist.cons _ (List.Sublist.refl _))) ?_
              refine E_weak (Hp.le_trans hle365 hle443) ?_
              exact end1 rfl rfl ⟨rfl, rfl, rfl⟩
            · have hm := ite_f' hb444 hm
              refine C_seq ?_
              refine C_region ?_
              refine W_field (o := 2) rfl rfl Proofs.Try.runUnderlying43 rfl Proofs.Try.sizeOf39 rfl rfl rfl ?_
              refine W_load rfl rfl Proofs.Try.isAgg39 rfl (own_at (List.mem_cons_self ..) rfl) ?_
              refine W_lenR rfl rfl Proofs.Try.runUnderlying39 rfl ((h377.mono hle365).mono hle443) ?_
              refine W_bin rfl rfl rfl rfl rfl ?_
              refine W_assign rfl rfl rfl ?_
              refine W_end ?_
              refine E_then ?_
              refine C_cond (b := decide (12 < (y369.Loads.length : Int))) rfl (fun hb445 => ?_) (fun hb445 => ?_)
              · have hm := ite_t' hb445 hm
                refine C_seq ?_
                refine C_region ?_
                refine W_assign rfl rfl rfl ?_
                refine W_end ?_
                refine E_then ?_
                refine C_ret ?_
                refine E_ret_block ?_
                refine E_ret_then ?_
                refine E_ret_block ?_
                refine E_ret_then ?_
                refine E_ret_then ?_
                refine E_ret_block ?_
                refine E_ret_then ?_
                obtain rfl := Option.some.inj hm
                refine E_drop (List.Sublist.cons _ (List.Sublist.cons _ (List.Sublist.refl _))) ?_
                refine E_weak (Hp.le_trans hle365 hle443) ?_
                exact end1 rfl rfl ⟨rfl, rfl, rfl⟩
              · have hm := ite_f' hb445 hm
                refine C_skip ?_
                refine E_normal_block ?_
                refine E_then ?_
                refine C_seq ?_
                refine C_region ?_
                refine W_field (o := 2) rfl rfl Proofs.Try.runUnderlying43 rfl Proofs.Try.sizeOf39 rfl rfl rfl ?_
                refine W_load rfl rfl Proofs.Try.isAgg39 rfl (own_at (List.mem_cons_self ..) rfl) ?_
                refine W_lenR rfl rfl Proofs.Try.runUnderlying39 rfl ((h377.mono hle365).mono hle443) ?_
                refine W_move rfl rfl rfl ?_
                refine W_end ?_
                refine E_then ?_
                refine C_block ?_
                refine C_drop (List.Sublist.cons _ (List.Sublist.refl _)) ?_
                refine C_keep (L' := [(0, v0), (3, .map (some b102)), (12, v0), (13, .int .i64 ((p0_l.length : Int))), (14, .int .i64 ((k103 : Int))), (58, v376), (59, .int .i64 ((y369.Loads.length : Int))), (60, .int .i64 (((0 : Nat) : Int)))]) ⟨rfl, rfl, rfl, rfl, rfl, rfl, rfl, rfl, trivial⟩ (List.Perm.refl _) ?_
                refine C_loop (fun n H' M' L' => ∃ (k446 : Nat) (zs481' : List ByteArray), ∃ l473 : (List (ByteArray × Bool)), ∃ es471 : Array MapEntry, ∃ cl472 : Nat, (y369.Loads).drop k446 = zs481' ∧ zs481'.length = n ∧ forI (fun k y s n => m_shed_Check_b7 k y s n) (fun s => nx366 s) k446 zs481' l473 = some r ∧ MapR es471 l473 ∧ H442.le H' ∧ .obj b102 (.map es471 cl472) :: M = M' ∧ [(0, v0), (3, .map (some b102)), (12, v0), (13, .int .i64 ((p0_l.length : Int))), (14, .int .i64 ((k103 : Int))), (58, v376), (59, .int .i64 ((y369.Loads.length : Int))), (60, .int .i64 ((k446 : Int)))] = L') _ ⟨0, _, l362, es360, cl361, rfl, rfl, hm, hm363, (Hp.le_refl _), rfl, rfl⟩ ?_
                rintro _ H475 _ _ ⟨k446, zs481', l473, es471, cl472, hd483, rfl, hm, hm474, hle476, rfl, rfl⟩
                refine C_seq ?_
                refine C_region ?_
                refine W_bin rfl rfl rfl rfl rfl ?_
                refine W_end (E_then ?_)
                refine C_seq ?_
                refine C_cond (b := decide ((k446 : Int) < (y369.Loads.length : Int))) rfl (fun hb485 => ?_) (fun hb485 => ?_)
                · obtain ⟨y480, zs481, rfl, hy482, hd484⟩ := rng_t hd483 hb485
                  have hm : m_shed_Check_b7 k446 y480 l473 (forI (fun k y s n => m_shed_Check_b7 k y s n) (fun s => nx366 s) (k446 + 1) zs481) = some r := hm
                  generalize hn478 : forI (fun k y s n => m_shed_Check_b7 k y s n) (fun s => nx366 s) (k446 + 1) zs481 = nx477 at hm
                  unfold m_shed_Check_b7 at hm
                  refine C_skip (E_then ?_)
                  refine C_seq ?_
                  refine C_block ?_
                  refine C_seq ?_
                  refine C_region ?_
                  obtain ⟨_, rfl, hc486⟩ := (h377).elem hy482
                  refine W_indexS rfl rfl Proofs.Try.runUnderlying39 Proofs.Try.sizeOf9 rfl (((h377.mono hle365).mono hle443).mono hle476) rfl (Int.natCast_nonneg _) hy482 ?_
                  refine W_load rfl rfl Proofs.Try.isAgg9 rfl (HCells.one (((hc486.mono hle365).mono hle443).mono hle476) 0 rfl).at ?_
                  refine W_assign rfl rfl rfl ?_
                  refine W_end ?_
                  refine E_then ?_
                  refine C_seq ?_
                  refine C_seq ?_
                  refine C_region ?_
                  refine W_move rfl rfl rfl ?_
                  obtain ⟨r487, hc488, hm⟩ := bind_some hm
                  refine W_call Proofs.Try.call35 rfl rfl rfl (fun w ht => by have h := m_netmodel_Name_c (hm := hc488)  ht; exact h) ?_
                  rintro _ _ _ ⟨rfl, rfl, rfl⟩
                  refine W_un rfl rfl rfl rfl ?_
                  refine W_end ?_
                  refine E_then ?_
                  refine C_cond (b := !r487) rfl (fun hb489 => ?_) (fun hb489 => ?_)
                  · have hm := ite_t' hb489 hm
                    refine C_seq ?_
                    refine C_region ?_
                    refine W_assign rfl rfl rfl ?_
                    refine W_end ?_
                    refine E_then ?_
                    refine C_ret ?_
                    refine E_ret_then ?_
                    refine E_ret_block ?_
                    refine E_ret_then ?_
                    refine E_ret_then ?_
                    refine E_ret_block ?_
                    refine E_ret_block ?_
                    refine E_ret_then ?_
                    refine E_ret_then ?_
                    refine E_ret_block ?_
                    refine E_ret_then ?_
                    obtain rfl := Option.some.inj hm
                    refine E_drop (List.Sublist.cons _ (List.Sublist.refl _)) ?_
                    refine E_weak (Hp.le_trans (Hp.le_trans hle365 hle443) hle476) ?_
                    exact end1 rfl rfl ⟨rfl, rfl, rfl⟩
                  · have hm := ite_f' hb489 hm
                    refine C_skip ?_
                    refine E_then ?_
                    refine C_seq ?_
                    refine C_seq ?_
                    refine C_region ?_
                    refine W_move rfl rfl rfl ?_
                    refine W_move rfl rfl rfl ?_
                    refine W_lookup (z := false) (k := y480) (List.mem_cons_self ..) hm474 rfl rfl Proofs.Try.runUnderlying62 Proofs.Try.runUnderlying9 Proofs.Try.zeroValue4 rfl rfl rfl rfl ?_
                    refine W_end ?_
                    refine E_then ?_
                    refine C_cond (b := (mget l473 y480).getD false) rfl (fun hb490 => ?_) (fun hb490 => ?_)
                    · have hm := ite_t' hb490 hm
                      refine C_seq ?_
                      refine C_region ?_
                      refine W_assign rfl rfl rfl ?_
                      refine W_end ?_
                      refine E_then ?_
                      refine C_ret ?_
                      refine E_ret_then ?_
                      refine E_ret_block ?_
                      refine E_ret_then ?_
                      refine E_ret_then ?_
                      refine E_ret_block ?_
                      refine E_ret_block ?_
                      refine E_ret_then ?_
                      refine E_ret_then ?_
                      refine E_ret_block ?_
                      refine E_ret_then ?_
                      obtain rfl := Option.some.inj hm
                      refine E_drop (List.Sublist.cons _ (List.Sublist.refl _)) ?_
                      refine E_weak (Hp.le_trans (Hp.le_trans hle365 hle443) hle476) ?_
                      exact end1 rfl rfl ⟨rfl, rfl, rfl⟩
                    · have hm := ite_f' hb490 hm
                      refine C_skip ?_
                      refine E_then ?_
                      refine C_region ?_
                      refine W_move rfl rfl rfl ?_
                      refine W_move rfl rfl rfl ?_
                      refine W_mapUpdate (k := y480) (v := true) hm474 rfl Proofs.Try.runUnderlying62 Proofs.Try.runUnderlying9 rfl rfl rfl rfl rfl ?_
                      intro es491 cl492 hm493
                      refine W_end ?_
                      refine E_normal_block ?_
                      refine E_then ?_
                      refine C_region ?_
                      refine W_bin rfl rfl rfl rfl rfl ?_
                      refine W_move rfl rfl rfl ?_
                      refine W_end ?_
                      exact E_keepJ (E_back (Nat.lt_succ_self _) ⟨k446 + 1, zs481, (mput l473 y480 true), es491, cl492, hd484, rfl, (by rw [hn478]; exact hm), hm493, hle476, rfl, rfl⟩) (List.Perm.refl _) ⟨rfl, rfl, rfl, rfl, rfl, rfl, rfl, (congrArg (fun z => some (Value.int .i64 z)) (i64_succ hy482 ((((h377.mono hle365).mono hle443).mono hle476)).lenMax)), trivial⟩
                · obtain rfl := rng_f hd483 hb485
                  have hm : (nx366 l473) = some r := hm
                  refine C_exit (E_exit_then ?_)
                  refine E_exit_then ?_
                  refine E_exit_hit ?_
                  refine E_normal_block ?_
                  refine E_then ?_
                  refine C_region ?_
                  refine W_bin rfl rfl rfl rfl rfl ?_
                  refine W_move rfl rfl rfl ?_
                  refine W_end ?_
                  exact E_keepJ (E_back (Nat.lt_succ_self _) ⟨k103 + 1, zs370, l473, es471, cl472, hd373, rfl, (by rw [hn367]; exact hm), hm474, (Hp.le_trans (Hp.le_trans hle365 hle443) hle476), rfl, rfl⟩) (List.Perm.refl _) ⟨rfl, rfl, rfl, rfl, (congrArg (fun z => some (Value.int .i64 z)) (i64_succ hy371 ((h0.mono hle365)).lenMax)), trivial⟩
      · refine C_region ?_
        refine W_field (o := 0) rfl rfl Proofs.Try.runUnderlying43 rfl Proofs.Try.sizeOf3 rfl rfl rfl ?_
        refine W_load rfl rfl Proofs.Try.isAgg3 rfl (own_at (List.mem_cons_self ..) rfl) ?_
        refine W_bin rfl rfl rfl rfl rfl ?_
        refine W_move rfl rfl rfl ?_
        cases hb494 : (decide (y369.Below < (-10000)))
        · refine W_field (o := 0) rfl rfl Proofs.Try.runUnderlying43 rfl Proofs.Try.sizeOf3 rfl rfl rfl ?_
          refine W_load rfl rfl Proofs.Try.isAgg3 rfl (own_at (List.mem_cons_self ..) rfl) ?_
          refine W_bin rfl rfl rfl rfl rfl ?_
          refine W_pick rfl rfl rfl rfl ?_
          refine W_move rfl rfl rfl ?_
          cases hb495 : (decide ((-1) < y369.Below))
          · refine W_field (o := 1) rfl rfl Proofs.Try.runUnderlying43 rfl Proofs.Try.sizeOf3 rfl rfl rfl ?_
            refine W_load rfl rfl Proofs.Try.isAgg3 rfl (own_at (List.mem_cons_self ..) rfl) ?_
            refine W_bin rfl rfl rfl rfl rfl ?_
            refine W_pick rfl rfl rfl rfl ?_
            refine W_move rfl rfl rfl ?_
            cases hb496 : (decide (y369.Wait < 1))
            · refine W_field (o := 1) rfl rfl Proofs.Try.runUnderlying43 rfl Proofs.Try.sizeOf3 rfl rfl rfl ?_
              refine W_load rfl rfl Proofs.Try.isAgg3 rfl (own_at (List.mem_cons_self ..) rfl) ?_
              refine W_bin rfl rfl rfl rfl rfl ?_
              refine W_pick rfl rfl rfl rfl ?_
              refine W_assign rfl rfl rfl ?_
              refine W_end ?_
              exact E_keepJ (J382 _ _ _ ⟨rfl, rfl, rfl⟩) (List.Perm.refl _) ⟨rfl, rfl, rfl, rfl, rfl, rfl, rfl, (by show some (Value.bool (decide (60 < y369.Wait))) = some (Value.bool ((((decide (y369.Below < (-10000))) || (decide ((-1) < y369.Below))) || (decide (y369.Wait < 1))) || (decide (60 < y369.Wait)))); simp only [hb101, hb494, hb495, hb496, Bool.and_true, Bool.true_and, Bool.false_and, Bool.and_false, Bool.or_true, Bool.true_or, Bool.or_false, Bool.false_or, Bool.not_true, Bool.not_false]), trivial⟩
            · refine W_no rfl rfl rfl ?_
              refine W_no rfl rfl rfl ?_
              refine W_no rfl rfl rfl ?_
              refine W_pick rfl rfl rfl rfl ?_
              refine W_assign rfl rfl rfl ?_
              refine W_end ?_
              exact E_keepJ (J382 _ _ _ ⟨rfl, rfl, rfl⟩) (List.Perm.refl _) ⟨rfl, rfl, rfl, rfl, rfl, rfl, rfl, (by show some (Value.bool (true)) = some (Value.bool ((((decide (y369.Below < (-10000))) || (decide ((-1) < y369.Below))) || (decide (y369.Wait < 1))) || (decide (60 < y369.Wait)))); simp only [hb101, hb494, hb495, hb496, Bool.and_true, Bool.true_and, Bool.false_and, Bool.and_false, Bool.or_true, Bool.true_or, Bool.or_false, Bool.false_or, Bool.not_true, Bool.not_false]), trivial⟩
          · refine W_no rfl rfl rfl ?_
            refine W_no rfl rfl rfl ?_
            refine W_no rfl rfl rfl ?_
            refine W_pick rfl rfl rfl rfl ?_
            refine W_move rfl rfl rfl ?_
            refine W_no rfl rfl rfl ?_
            refine W_no rfl rfl rfl ?_
            refine W_no rfl rfl rfl ?_
            refine W_pick rfl rfl rfl rfl ?_
            refine W_assign rfl rfl rfl ?_
            refine W_end ?_
            exact E_keepJ (J382 _ _ _ ⟨rfl, rfl, rfl⟩) (List.Perm.refl _) ⟨rfl, rfl, rfl, rfl, rfl, rfl, rfl, (by show some (Value.bool (true)) = some (Value.bool ((((decide (y369.Below < (-10000))) || (decide ((-1) < y369.Below))) || (decide (y369.Wait < 1))) || (decide (60 < y369.Wait)))); simp only [hb101, hb494, hb495, Bool.and_true, Bool.true_and, Bool.false_and, Bool.and_false, Bool.or_true, Bool.true_or, Bool.or_false, Bool.false_or, Bool.not_true, Bool.not_false]), trivial⟩
        · refine W_no rfl rfl rfl ?_
          refine W_no rfl rfl rfl ?_
          refine W_no rfl rfl rfl ?_
          refine W_pick rfl rfl rfl rfl ?_
          refine W_move rfl rfl rfl ?_
          refine W_no rfl rfl rfl ?_
          refine W_no rfl rfl rfl ?_
          refine W_no rfl rfl rfl ?_
          refine W_pick rfl rfl rfl rfl ?_
          refine W_move rfl rfl rfl ?_
          refine W_no rfl rfl rfl ?_
          refine W_no rfl rfl rfl ?_
          refine W_no rfl rfl rfl ?_
          refine W_pick rfl rfl rfl rfl ?_
          refine W_assign rfl rfl rfl ?_
          refine W_end ?_
          exact E_keepJ (J382 _ _ _ ⟨rfl, rfl, rfl⟩) (List.Perm.refl _) ⟨rfl, rfl, rfl, rfl, rfl, rfl, rfl, (by show some (Value.bool (true)) = some (Value.bool ((((decide (y369.Below < (-10000))) || (decide ((-1) < y369.Below))) || (decide (y369.Wait < 1))) || (decide (60 < y369.Wait)))); simp only [hb101, hb494, Bool.and_true, Bool.true_and, Bool.false_and, Bool.and_false, Bool.or_true, Bool.true_or, Bool.or_false, Bool.false_or, Bool.not_true, Bool.not_false]), trivial⟩
    · obtain rfl := rng_f hd372 hb374
      have hm : (some 0) = some r := hm
      refine C_exit (E_exit_then ?_)
      refine E_exit_then ?_
      refine E_exit_hit ?_
      refine E_then ?_
      refine C_seq ?_
      refine C_region ?_
      refine W_assign rfl rfl rfl ?_
      refine W_end ?_
      refine E_then ?_
      refine C_ret ?_
      obtain rfl := Option.some.inj hm
      refine E_drop (List.Sublist.cons _ (List.Sublist.refl _)) ?_
      refine E_weak hle365 ?_
      exact end1 rfl rfl ⟨rfl, rfl, rfl⟩

theorem clone30_c {B : Nat} {w0 w : World} {H : Hp} {M : List Res} {s : List S_api_ShedStage} {v0 : Value} (h0 : RdS H v0 s) (hz : s.length * 40 ≤ 140737488355328) (ht : St B w0 H M w) :
    Calls Proofs.Try.prog 30 [v0].toArray w (Ret B w0 fun H' M' v => H = H' ∧ ∃ (v' : Value) (xs' : List Value), .row v' 43 (Rep.sz S_api_ShedStage) s.length xs' :: M = M' ∧ v' = v ∧ Rw H v' xs' s) := by
  refine enter Proofs.Try.func30 rfl rfl rfl ht ?_
  obtain ⟨o, n, c, rfl⟩ := h0.shape
  refine C_seq ?_
  refine C_region ?_
  refine W_assign rfl rfl rfl ?_
  refine W_end (E_then ?_)
  refine C_seq ?_
  refine C_seq ?_
  refine C_region ?_
  refine W_move rfl rfl rfl ?_
  refine W_eqNil rfl rfl Proofs.Try.runUnderlying34 rfl rfl ?_
  refine W_end (E_then ?_)
  cases o with
  | none =>
    refine C_cond (b := true) rfl (fun _ => ?_) (fun hb => Bool.noConfusion hb)
    obtain rfl := h0.isNil
    refine C_seq ?_
    refine C_region ?_
    refine W_assign rfl rfl rfl ?_
    refine W_end (E_then ?_)
    refine C_ret (E_ret_then ?_)
    refine E_nilRow 43 (Rep.sz S_api_ShedStage) ?_
    exact end1 rfl rfl ⟨rfl, .slice none 0 0, [], rfl, rfl, Rw.nil⟩
  | some a =>
    refine C_cond (b := false) rfl (fun hb => Bool.noConfusion hb) (fun _ => ?_)
    refine C_skip (E_then ?_)
    refine C_seq ?_
    refine C_region ?_
    refine W_build0 S_api_ShedStage rfl rfl Proofs.Try.runUnderlying34 Proofs.Try.sizeOf43 ?_
    intro v1 xs1 h1
    refine W_move rfl rfl rfl ?_
    refine W_appendO (α := S_api_ShedStage) (l := []) (ys := s) (bytes := 40) rfl rfl Proofs.Try.underlying34 ⟨_, rfl, rfl, rfl, rfl⟩ rfl rfl rfl rfl rfl h1 h0 (by simpa using hz) ?_
    intro v2 xs2 h2
    refine W_assign rfl rfl rfl ?_
    refine W_end (E_then ?_)
    refine C_ret ?_
    exact end1 rfl rfl ⟨rfl, v2, xs2, rfl, rfl, h2⟩

theorem clone31_c {B : Nat} {w0 w : World} {H : Hp} {M : List Res} {s : List ByteArray} {v0 : Value} (h0 : RdS H v0 s) (hz : s.length * 16 ≤ 140737488355328) (ht : St B w0 H M w) :
    Calls Proofs.Try.prog 31 [v0].toArray w (Ret B w0 fun H' M' v => H = H' ∧ ∃ (v' : Value) (xs' : List Value), .row v' 9 (Rep.sz ByteArray) s.length xs' :: M = M' ∧ v' = v ∧ RwF v' xs' s) := by
  refine enter Proofs.Try.func31 rfl rfl rfl ht ?_
  obtain ⟨o, n, c, rfl⟩ := h0.shape
  refine C_seq ?_
  refine C_region ?_
  refine W_assign rfl rfl rfl ?_
  refine W_end (E_then ?_)
  refine C_seq ?_
  refine C_seq ?_
  refine C_region ?_
  refine W_move rfl rfl rfl ?_
  refine W_eqNil rfl rfl Proofs.Try.runUnderlying39 rfl rfl ?_
  refine W_end (E_then ?_)
  cases o with
  | none =>
    refine C_cond (b := true) rfl (fun _ => ?_) (fun hb => Bool.noConfusion hb)
    obtain rfl := h0.isNil
    refine C_seq ?_
    refine C_region ?_
    refine W_assign rfl rfl rfl ?_
    refine W_end (E_then ?_)
    refine C_ret (E_ret_then ?_)
    refine E_nilRow 9 (Rep.sz ByteArray) ?_
    exact end1 rfl rfl ⟨rfl, .slice none 0 0, [], rfl, rfl, (Rw.nil (H := H)).toF⟩
  | some a =>
    refine C_cond (b := false) rfl (fun hb => Bool.noConfusion hb) (fun _ => ?_)
    refine C_skip (E_then ?_)
    refine C_seq ?_
    refine C_region ?_
    refine W_build0 ByteArray rfl rfl Proofs.Try.runUnderlying39 Proofs.Try.sizeOf9 ?_
    intro v1 xs1 h1
    refine W_move rfl rfl rfl ?_
    refine W_appendO (α := ByteArray) (l := []) (ys := s) (bytes := 16) rfl rfl Proofs.Try.underlying39 ⟨_, rfl, rfl, rfl, rfl⟩ rfl rfl rfl rfl rfl h1 h0 (by simpa using hz) ?_
    intro v2 xs2 h2
    refine W_assign rfl rfl rfl ?_
    refine W_end (E_then ?_)
    refine C_ret ?_
    exact end1 rfl rfl ⟨rfl, v2, xs2, rfl, rfl, h2.toF⟩

theorem m_shed_New_c {B : Nat} {w0 w : World} {H : Hp} {M : List Res} {p0_l : (List S_api_ShedStage)} {v0 : Value} {r : (Option S_shed_Shed) × Int} (hm : m_shed_New p0_l = some r) (h0 : RdS H v0 p0_l) (ht : St B w0 H (M) w) :
    Calls Proofs.Try.prog 15 [v0].toArray w (Ret B w0 fun H' M' v => (r.1 = none ∧ H.le H' ∧ M = M' ∧ .tuple #[.pointer none, .int .i64 (r.2)] = v) ∨ (∃ qsp0 : S_shed_Shed, r.1 = some qsp0 ∧ H.le H' ∧ ∃ qb0 : Nat, ∃ qv0 : Value, ∃ qv1 : Value, ∃ qxs0 : List Value, ∃ qv2 : Value, ∃ qxs1 : List Value, .obj qb0 (.cells [qv0, qv1, qv2].toArray 58 (0, 0)) :: .row qv1 3 (Rep.sz Int) qsp0.count.length qxs0 :: .row qv2 3 (Rep.sz Int) qsp0.acted.length qxs1 :: M = M' ∧ .tuple #[.pointer (some ⟨qb0, 0, none⟩), .int .i64 (r.2)] = v ∧ RdS H' qv0 qsp0.stages ∧ Rw H' qv1 qxs0 qsp0.count ∧ Rw H' qv2 qxs1 qsp0.acted)) := by
  unfold m_shed_New at hm
  refine enter Proofs.Try.func15 rfl rfl rfl ht ?_
  refine C_seq ?_
  refine C_region ?_
  refine W_assign rfl rfl rfl ?_
  refine W_assign rfl rfl rfl ?_
  refine W_end ?_
  refine E_then ?_
  refine C_seq ?_
  refine C_seq ?_
  refine C_region ?_
  refine W_move rfl rfl rfl ?_
  obtain ⟨r101, hc102, hm⟩ := bind_some hm
  refine W_call Proofs.Try.call20 rfl rfl rfl (fun w ht => by have h := m_shed_Check_c (hm := hc102) h0 ht; exact h) ?_
  rintro _ _ _ ⟨rfl, rfl, rfl⟩
  refine W_assign rfl rfl rfl ?_
  refine W_end ?_
  refine E_then ?_
  refine C_seq ?_
  refine C_region ?_
  refine W_move rfl rfl rfl ?_
  refine W_bin rfl rfl rfl rfl rfl ?_
  refine W_end ?_
  refine E_then ?_
  refine C_cond (b := !decide (r101 = 0)) rfl (fun hb103 => ?_) (fun hb103 => ?_)
  · have hm := ite_t' hb103 hm
    refine C_seq ?_
    refine C_region ?_
    refine W_move rfl rfl rfl ?_
    refine W_assign rfl rfl rfl ?_
    refine W_assign rfl rfl rfl ?_
    refine W_end ?_
    refine E_then ?_
    refine C_ret ?_
    refine E_ret_then ?_
    obtain rfl := Option.some.inj hm
    exact end2 rfl rfl rfl (.inl ⟨rfl, (Hp.le_refl _), rfl, rfl⟩)
  · have hm := ite_f' hb103 hm
    refine C_skip ?_
    refine E_then ?_
    refine C_seq ?_
    obtain ⟨hz104, hm⟩ := need_some hm
    obtain ⟨hz108, hm⟩ := need_some hm
    refine C_region_tok0 5 (phiT [(fun H rs v => [] = rs ∧ v0 = v), (fun H rs v => ∃ v112 : Value, ∃ xs113 : List Value, [.row v112 43 (Rep.sz S_api_ShedStage) p0_l.length xs113] = rs ∧ v112 = v ∧ Rw H v112 xs113 p0_l), (fun H rs v => [] = rs ∧ v0 = v), (fun H rs v => [] = rs ∧ .int .i64 ((p0_l.length : Int)) = v), (fun H rs v => ∃ v115 : Value, ∃ xs116 : List Value, [.row v115 3 (Rep.sz Int) (List.replicate ((p0_l.length : Int) : Int).toNat (0 : Int)).length xs116] = rs ∧ v115 = v ∧ Rw H v115 xs116 (List.replicate ((p0_l.length : Int) : Int).toNat (0 : Int)))]) [[], [], [], [], []] [[], [], [], [], []] [] [0, 1, 2, 3, 4] Facts.mixed (by kernel_rfl) rfl rfl rfl (by kernel_rfl) (phiT_mono ⟨eq_monoT _ _, (by rintro H1 H2 rs v hle ⟨v112, xs113, rfl, rfl, hr114⟩; exact ⟨v112, xs113, rfl, rfl, (hr114.mono hle)⟩), eq_monoT _ _, eq_monoT _ _, (by rintro H1 H2 rs v hle ⟨v115, xs116, rfl, rfl, hr117⟩; exact ⟨v115, xs116, rfl, rfl, (hr117.mono hle)⟩), trivial⟩) ⟨?_, ?_, ?_, ?_, ?_, trivial⟩ ?_
    · intro HX hX X Rest hR
      intro hU
      refine W_move rfl rfl rfl ?_
      exact W_end (OneT_end [] (Hp.le_refl _) ⟨rfl, rfl⟩)
    · intro HX hX X Rest hR
      rintro _ _ ⟨rfl, rfl⟩
      intro hU
      refine W_call Proofs.Try.call30 rfl rfl rfl (fun w ht => by have h := clone30_c (s := p0_l) (h0.mono hX) hz104 ht; exact h) ?_
      rintro _ _ _ ⟨rfl, v112, xs113, rfl, rfl, hr114⟩
      exact W_end (OneT_end [.row v112 43 (Rep.sz S_api_ShedStage) p0_l.length xs113] (Hp.le_refl _) ⟨v112, xs113, rfl, rfl, (hr114)⟩)
    · intro HX hX X Rest hR
      intro hU
      refine W_move rfl rfl rfl ?_
      exact W_end (OneT_end [] (Hp.le_refl _) ⟨rfl, rfl⟩)
    · intro HX hX X Rest hR
      rintro _ _ ⟨rfl, rfl⟩
      intro hU
      refine W_lenR rfl rfl Proofs.Try.runUnderlying34 rfl (h0.mono hX) ?_
      exact W_end (OneT_end [] (Hp.le_refl _) ⟨rfl, rfl⟩)
    · intro HX hX X Rest hR
      rintro _ _ ⟨rfl, rfl⟩
      rintro _ _ ⟨rfl, rfl⟩
      intro hU
      refine W_makeSlice (α := Int) (zs := [.int .i64 (0)]) (ze := 0) rfl rfl Proofs.Try.underlying35 ⟨_, rfl, rfl, rfl, rfl⟩ rfl rfl rfl rfl rfl rfl hz108.1 hz108.2 ?_
      intro v115 xs116 hr117
      exact W_end (OneT_end [.row v115 3 (Rep.sz Int) (List.replicate ((p0_l.length : Int) : Int).toNat (0 : Int)).length xs116] (Hp.le_refl _) ⟨v115, xs116, rfl, rfl, (hr117)⟩)
    intro H118 hle119
    rintro _ _ ⟨rfl, rfl⟩
    rintro _ _ ⟨v112, xs113, rfl, rfl, hr114⟩
    rintro _ _ ⟨rfl, rfl⟩
    rintro _ _ ⟨rfl, rfl⟩
    rintro _ _ ⟨v115, xs116, rfl, rfl, hr117⟩
    refine W_as (M' := .row v112 43 (Rep.sz S_api_ShedStage) p0_l.length xs113 :: .row v115 3 (Rep.sz Int) (List.replicate ((p0_l.length : Int) : Int).toNat (0 : Int)).length xs116 :: M) rfl ?_
    refine W_build (css := [[v112], [v115]]) (zs := [.slice none 0 0, .slice none 0 0, .slice none 0 0]) (out := [v112, v115, .slice none 0 0]) (places := [(0, 1), (1, 1), (2, 1)]) rfl rfl rfl ⟨(Rw.cells hr114), (Rw.cells hr117), trivial⟩ Proofs.Try.zeroValue58 rfl Proofs.Try.runUnderlying58 (fun w => by kernel_rfl) rfl ?_
    refine W_box (cs := [v112, v115, .slice none 0 0]) rfl rfl rfl rfl (fun b120 => ?_)
    refine W_assign rfl rfl rfl ?_
    refine W_end ?_
    refine E_then ?_
    refine C_seq ?_
    refine C_seq ?_
    refine C_region ?_
    refine W_move rfl rfl rfl ?_
    refine W_nilCheck rfl rfl rfl ?_
    refine W_field (o := 0) rfl rfl Proofs.Try.runUnderlying58 rfl Proofs.Try.sizeOf34 rfl rfl rfl ?_
    refine W_load rfl rfl Proofs.Try.isAgg34 rfl (own_at (List.mem_cons_self ..) rfl) ?_
    refine W_lenO (List.mem_cons_of_mem _ (List.mem_cons_self ..)) rfl rfl Proofs.Try.runUnderlying34 rfl ?_
    refine W_move rfl rfl rfl ?_
    refine W_end ?_
    refine E_then ?_
    refine C_block ?_
    refine C_rowMax (List.mem_cons_of_mem _ (List.mem_cons_self ..)) (fun hmx199 => ?_)
    refine C_keep (L' := [(5, .pointer (some ⟨b120, 0, none⟩)), (23, .int .i64 ((p0_l.length : Int))), (24, .int .i64 (((0 : Nat) : Int)))]) ⟨rfl, rfl, rfl, trivial⟩ (List.Perm.swap _ _ _) ?_
    refine C_loop (fun n H' M' L' => ∃ (k121 : Nat) (zs201' : Nat), ∃ l192 : List S_api_ShedStage, ∃ xs191 : List Value, k121 + zs201' = ((p0_l.length : Int) : Int).toNat ∧ zs201' = n ∧ forN (fun k s n => m_shed_New_b1 k s n) (fun s => some ((some (S_shed_Shed.mk s (List.replicate ((p0_l.length : Int) : Int).toNat (0 : Int)) ([] : List Int))), 0)) zs201' k121 l192 = some r ∧ Rw H' v112 xs191 l192 ∧ H118.le H' ∧ .row v112 43 (Rep.sz S_api_ShedStage) l192.length xs191 :: .obj b120 (.cells [v112, v115, .slice none 0 0].toArray 58 (0, 0)) :: .row v115 3 (Rep.sz Int) (List.replicate ((p0_l.length : Int) : Int).toNat (0 : Int)).length xs116 :: M = M' ∧ [(5, .pointer (some ⟨b120, 0, none⟩)), (23, .int .i64 ((p0_l.length : Int))), (24, .int .i64 ((k121 : Int)))] = L') _ ⟨0, _, p0_l, xs113, Nat.zero_add _, rfl, hm, hr114, (Hp.le_refl _), rfl, rfl⟩ ?_
    rintro _ H194 _ _ ⟨k121, zs201', l192, xs191, hd203, rfl, hm, hr193, hle195, rfl, rfl⟩
    refine C_seq ?_
    refine C_region ?_
    refine W_bin rfl rfl rfl rfl rfl ?_
    refine W_end (E_then ?_)
    refine C_seq ?_
    refine C_cond (b := decide ((k121 : Int) < (p0_l.length : Int))) rfl (fun hb205 => ?_) (fun hb205 => ?_)
    · obtain ⟨zs201, rfl, hd204, hy202⟩ := rngN_t hd203 hb205
      have hm : m_shed_New_b1 k121 l192 (forN (fun k s n => m_shed_New_b1 k s n) (fun s => some ((some (S_shed_Shed.mk s (List.replicate ((p0_l.length : Int) : Int).toNat (0 : Int)) ([] : List Int))), 0)) zs201 (k121 + 1)) = some r := hm
      generalize hn197 : forN (fun k s n => m_shed_New_b1 k s n) (fun s => some ((some (S_shed_Shed.mk s (List.replicate ((p0_l.length : Int) : Int).toNat (0 : Int)) ([] : List Int))), 0)) zs201 (k121 + 1) = nx196 at hm
      unfold m_shed_New_b1 at hm
      refine C_skip (E_then ?_)
      refine C_seq ?_
      refine C_block ?_
      refine C_seq ?_
      refine C_region ?_
      refine W_move rfl rfl rfl ?_
      refine W_assign rfl rfl rfl ?_
      refine W_end ?_
      refine E_then ?_
      obtain ⟨y206, h207, he208, hm⟩ := idx_some hm
      obtain ⟨_, ⟨v210, rfl, h211⟩, hg209⟩ := (hr193).elem he208
      obtain ⟨hz212, hm⟩ := need_some hm
      refine C_region_tok0 14 (phiT [(fun H rs v => [] = rs ∧ .pointer (some ⟨b120, 0, none⟩) = v), (fun H rs v => [] = rs ∧ .pointer (some ⟨b120, 0, none⟩) = v), (fun H rs v => [] = rs ∧ .pointer (some ⟨b120, 0, none⟩) = v), (fun H rs v => [] = rs ∧ v112 = v), (fun H rs v => [] = rs ∧ .int .i64 ((k121 : Int)) = v), (fun H rs v => [] = rs ∧ .pointer (some ⟨b120, 0, none⟩) = v), (fun H rs v => [] = rs ∧ .pointer (some ⟨b120, 0, none⟩) = v), (fun H rs v => [] = rs ∧ .pointer (some ⟨b120, 0, none⟩) = v), (fun H rs v => [] = rs ∧ v112 = v), (fun H rs v => [] = rs ∧ .int .i64 ((k121 : Int)) = v), (fun H rs v => [] = rs ∧ .pointer (some ((Value.base (v112)).add (((k121 : Int) : Int).toNat * Rep.sz S_api_ShedStage))) = v), (fun H rs v => [] = rs ∧ .pointer (some (((Value.base (v112)).add (((k121 : Int) : Int).toNat * Rep.sz S_api_ShedStage)).add 2)) = v), (fun H rs v => [] = rs ∧ v210 = v), (fun H rs v => ∃ v216 : Value, ∃ xs217 : List Value, [.row v216 9 (Rep.sz ByteArray) y206.Loads.length xs217] = rs ∧ v216 = v ∧ Rw H v216 xs217 y206.Loads)]) [[], [], [], [], [], [], [], [], [], [], [], [], [], []] [[], [], [], [], [], [], [], [], [], [], [], [], [], []] [] [0, 1, 2, 3, 4, 5, 6, 7, 8, 9, 10, 11, 12, 13] Facts.mixed (by kernel_rfl) rfl rfl rfl (by kernel_rfl) (phiT_mono ⟨eq_monoT _ _, eq_monoT _ _, eq_monoT _ _, eq_monoT _ _, eq_monoT _ _, eq_monoT _ _, eq_monoT _ _, eq_monoT _ _, eq_monoT _ _, eq_monoT _ _, eq_monoT _ _, eq_monoT _ _, eq_monoT _ _, (by rintro H1 H2 rs v hle ⟨v216, xs217, rfl, rfl, hr218⟩; exact ⟨v216, xs217, rfl, rfl, (hr218.mono hle)⟩), trivial⟩) ⟨?_, ?_, ?_, ?_, ?_, ?_, ?_, ?_, ?_, ?_, ?_, ?_, ?_, ?_, trivial⟩ ?_
      · intro HX hX X Rest hR
        intro hU
        refine W_move rfl rfl rfl ?_
        exact W_end (OneT_end [] (Hp.le_refl _) ⟨rfl, rfl⟩)
      · intro HX hX X Rest hR
        rintro _ _ ⟨rfl, rfl⟩
        intro hU
        refine W_nilCheck rfl rfl rfl ?_
        exact W_end (OneT_end [] (Hp.le_refl _) ⟨rfl, rfl⟩)
      · intro HX hX X Rest hR
        rintro _ _ ⟨rfl, rfl⟩
        intro hU
        refine W_field (o := 0) rfl rfl Proofs.Try.runUnderlying58 rfl Proofs.Try.sizeOf34 rfl rfl rfl ?_
        exact W_end (OneT_end [] (Hp.le_refl _) ⟨rfl, rfl⟩)
      · intro HX hX X Rest hR
        rintro _ _ ⟨rfl, rfl⟩
        intro hU
        refine W_load rfl rfl Proofs.Try.isAgg34 rfl (own_at (hR _ (List.mem_cons_of_mem _ (List.mem_cons_self ..))) rfl) ?_
        exact W_end (OneT_end [] (Hp.le_refl _) ⟨rfl, rfl⟩)
      · intro HX hX X Rest hR
        intro hU
        refine W_move rfl rfl rfl ?_
        exact W_end (OneT_end [] (Hp.le_refl _) ⟨rfl, rfl⟩)
      · intro HX hX X Rest hR
        intro hU
        refine W_move rfl rfl rfl ?_
        exact W_end (OneT_end [] (Hp.le_refl _) ⟨rfl, rfl⟩)
      · intro HX hX X Rest hR
        rintro _ _ ⟨rfl, rfl⟩
        intro hU
        refine W_nilCheck rfl rfl rfl ?_
        exact W_end (OneT_end [] (Hp.le_refl _) ⟨rfl, rfl⟩)
      · intro HX hX X Rest hR
        rintro _ _ ⟨rfl, rfl⟩
        intro hU
        refine W_field (o := 0) rfl rfl Proofs.Try.runUnderlying58 rfl Proofs.Try.sizeOf34 rfl rfl rfl ?_
        exact W_end (OneT_end [] (Hp.le_refl _) ⟨rfl, rfl⟩)
      · intro HX hX X Rest hR
        rintro _ _ ⟨rfl, rfl⟩
        intro hU
        refine W_load rfl rfl Proofs.Try.isAgg34 rfl (own_at (hR _ (List.mem_cons_of_mem _ (List.mem_cons_self ..))) rfl) ?_
        exact W_end (OneT_end [] (Hp.le_refl _) ⟨rfl, rfl⟩)
      · intro HX hX X Rest hR
        intro hU
        refine W_move rfl rfl rfl ?_
        exact W_end (OneT_end [] (Hp.le_refl _) ⟨rfl, rfl⟩)
      · intro HX hX X Rest hR
        rintro _ _ ⟨rfl, rfl⟩
        rintro _ _ ⟨rfl, rfl⟩
        intro hU
        refine W_indexO (hR _ (List.mem_cons_self ..)) rfl rfl Proofs.Try.runUnderlying34 Proofs.Try.sizeOf43 rfl rfl h207 (List.getElem?_eq_some_iff.1 he208).1 ?_
        exact W_end (OneT_end [] (Hp.le_refl _) ⟨rfl, rfl⟩)
      · intro HX hX X Rest hR
        rintro _ _ ⟨rfl, rfl⟩
        intro hU
        refine W_field (o := 2) rfl rfl Proofs.Try.runUnderlying43 rfl Proofs.Try.sizeOf39 rfl rfl rfl ?_
        exact W_end (OneT_end [] (Hp.le_refl _) ⟨rfl, rfl⟩)
      · intro HX hX X Rest hR
        rintro _ _ ⟨rfl, rfl⟩
        intro hU
        refine W_load rfl rfl Proofs.Try.isAgg39 rfl (row_one (o := 2) (hR _ (List.mem_cons_self ..)) hg209 rfl) ?_
        exact W_end (OneT_end [] (Hp.le_refl _) ⟨rfl, rfl⟩)
      · intro HX hX X Rest hR
        rintro _ _ ⟨rfl, rfl⟩
        intro hU
        refine W_call Proofs.Try.call31 rfl rfl rfl (fun w ht => by have h := clone31_c (s := y206.Loads) (h211.mono hX) hz212 ht; exact h) ?_
        rintro _ _ _ ⟨rfl, v216, xs217, rfl, rfl, hr218⟩
        have hr218 := hr218 HX
        exact W_end (OneT_end [.row v216 9 (Rep.sz ByteArray) y206.Loads.length xs217] (Hp.le_refl _) ⟨v216, xs217, rfl, rfl, (hr218)⟩)
      intro H219 hle220
      rintro _ _ ⟨rfl, rfl⟩
      rintro _ _ ⟨rfl, rfl⟩
      rintro _ _ ⟨rfl, rfl⟩
      rintro _ _ ⟨rfl, rfl⟩
      rintro _ _ ⟨rfl, rfl⟩
      rintro _ _ ⟨rfl, rfl⟩
      rintro _ _ ⟨rfl, rfl⟩
      rintro _ _ ⟨rfl, rfl⟩
      rintro _ _ ⟨rfl, rfl⟩
      rintro _ _ ⟨rfl, rfl⟩
      rintro _ _ ⟨rfl, rfl⟩
      rintro _ _ ⟨rfl, rfl⟩
      rintro _ _ ⟨rfl, rfl⟩
      rintro _ _ ⟨v216, xs217, rfl, rfl, hr218⟩
      refine W_as (M' := .row v216 9 (Rep.sz ByteArray) y206.Loads.length xs217 :: .row v112 43 (Rep.sz S_api_ShedStage) l192.length xs191 :: .obj b120 (.cells [v112, v115, .slice none 0 0].toArray 58 (0, 0)) :: .row v115 3 (Rep.sz Int) (List.replicate ((p0_l.length : Int) : Int).toNat (0 : Int)).length xs116 :: M) rfl ?_
      obtain ⟨y221, h222, he223, hm⟩ := idx_some hm
      refine W_indexO (List.mem_cons_of_mem _ (List.mem_cons_self ..)) rfl rfl Proofs.Try.runUnderlying34 Proofs.Try.sizeOf43 rfl rfl h222 (List.getElem?_eq_some_iff.1 he223).1 ?_
      obtain ⟨_, ⟨v225, rfl, h226⟩, hg224⟩ := (hr193).elem he223
      refine W_field (o := 2) rfl rfl Proofs.Try.runUnderlying43 rfl Proofs.Try.sizeOf39 rfl rfl rfl ?_
      refine W_freeze (hr218).rd rfl (fun H227 hle228 h229 => ?_)
      obtain ⟨hr230, he231, hg232⟩ := Rw.put (cs := [v216]) (o := 2) (c := [.int .i64 (y221.Below), .int .i64 (y221.Wait), v225]) (out := [.int .i64 (y221.Below), .int .i64 (y221.Wait), v216]) (e2 := (S_api_ShedStage.mk y221.Below y221.Wait y206.Loads)) ((hr193.mono hle220).mono hle228) he223 ⟨v225, rfl, ((h226.mono hle220).mono hle228)⟩ hg224 rfl rfl ⟨v216, rfl, h229⟩
      refine W_storeO2 (i := ((k121 : Int) : Int).toNat * Rep.sz S_api_ShedStage + 2) (cs := [v216]) rfl Proofs.Try.sizeOf39 rfl (row_ad _ _ _) rfl (RdS.cells h229) rfl (Rw.room ((hr193.mono hle220).mono hle228) he223 rfl) rfl (all_cons (RdS.one1 h229) all_nil) (n' := (l192.set (((k121 : Int) : Int).toNat) (S_api_ShedStage.mk y221.Below y221.Wait y206.Loads)).length) List.length_set ?_
      generalize over xs191 (((k121 : Int) : Int).toNat * Rep.sz S_api_ShedStage + 2) [v216] = xs233 at hr230 hg232 ⊢
      refine W_end ?_
      refine E_normal_block ?_
      refine E_then ?_
      refine C_region ?_
      refine W_bin rfl rfl rfl rfl rfl ?_
      refine W_move rfl rfl rfl ?_
      refine W_end ?_
      exact E_keepJ (E_back (Nat.lt_succ_self _) ⟨k121 + 1, zs201, (l192.set (((k121 : Int) : Int).toNat) (S_api_ShedStage.mk y221.Below y221.Wait y206.Loads)), xs233, hd204, rfl, (by rw [hn197]; exact hm), hr230, (Hp.le_trans (Hp.le_trans hle195 hle220) hle228), rfl, rfl⟩) (List.Perm.refl _) ⟨rfl, rfl, (congrArg (fun z => some (Value.int .i64 z)) (i64_succN hy202 (toNat_max (len_max hmx199)))), trivial⟩
    · obtain rfl := rngN_f hd203 hb205
      have hm : (some ((some (S_shed_Shed.mk l192 (List.replicate ((p0_l.length : Int) : Int).toNat (0 : Int)) ([] : List Int))), 0)) = some r := hm
      refine C_exit (E_exit_then ?_)
      refine E_exit_then ?_
      refine E_exit_hit ?_
      refine E_then ?_
      refine C_seq ?_
      refine C_region ?_
      refine W_move rfl rfl rfl ?_
      refine W_assign rfl rfl rfl ?_
      refine W_assign rfl rfl rfl ?_
      refine W_end ?_
      refine E_then ?_
      refine C_ret ?_
      refine E_nilRow 3 (Rep.sz Int) ?_
      refine E_perm (List.Perm.swap _ _ _) ?_
      refine E_freeze (hr193).rd rfl (fun H234 hle235 h236 => ?_)
      obtain rfl := Option.some.inj hm
      refine E_perm (List.Perm.trans (List.Perm.swap _ _ _) (List.Perm.cons _ (List.Perm.swap _ _ _))) ?_
      exact end2 rfl rfl rfl (.inr ⟨(S_shed_Shed.mk l192 (List.replicate ((p0_l.length : Int) : Int).toNat (0 : Int)) ([] : List Int)), rfl, (Hp.le_trans (Hp.le_trans hle119 hle195) hle235), b120, v112, v115, xs116, (.slice none 0 0), [], rfl, rfl, h236, ((hr117.mono hle195).mono hle235), Rw.nil⟩)

theorem m_shed_wrong_c {B : Nat} {w0 w : World} {H : Hp} {M : List Res} {p0_f : Int} {r : Bool} (hm : m_shed_wrong p0_f = r) (ht : St B w0 H (M) w) :
    Calls Proofs.Try.prog 32 [.int .i64 (p0_f)].toArray w (Ret B w0 fun H' M' v => H = H' ∧ M = M' ∧ .bool (r) = v) := by
  unfold m_shed_wrong at hm
  refine enter Proofs.Try.func32 rfl rfl rfl ht ?_
  refine C_seq ?_
  refine C_region ?_
  refine W_assign rfl rfl rfl ?_
  refine W_end ?_
  refine E_then ?_
  refine C_seq_join (fun H' M' L' => H = H' ∧ M = M' ∧ [(2, .bool ((decide (p0_f < (-10000))) || (decide (10000 < p0_f))))] = L') ?_ (fun J102 => ?_)
  · rintro _ _ _ ⟨rfl, rfl, rfl⟩
    refine C_ret ?_
    obtain rfl := hm
    refine E_weak (Hp.le_refl _) ?_
    exact end1 rfl rfl ⟨rfl, rfl, rfl⟩
  · refine C_region ?_
    refine W_move rfl rfl rfl ?_
    refine W_bin rfl rfl rfl rfl rfl ?_
    refine W_move rfl rfl rfl ?_
    cases hb103 : (decide (p0_f < (-10000)))
    · refine W_move rfl rfl rfl ?_
      refine W_bin rfl rfl rfl rfl rfl ?_
      refine W_pick rfl rfl rfl rfl ?_
      refine W_assign rfl rfl rfl ?_
      refine W_end ?_
      exact E_keepJ (J102 _ _ _ ⟨rfl, rfl, rfl⟩) (List.Perm.refl _) ⟨(by show some (Value.bool (decide (10000 < p0_f))) = some (Value.bool ((decide (p0_f < (-10000))) || (decide (10000 < p0_f)))); simp only [hb103, Bool.and_true, Bool.true_and, Bool.false_and, Bool.and_false, Bool.or_true, Bool.true_or, Bool.or_false, Bool.false_or, Bool.not_true, Bool.not_false]), trivial⟩
    · refine W_no rfl rfl rfl ?_
      refine W_no rfl rfl rfl ?_
      refine W_pick rfl rfl rfl rfl ?_
      refine W_assign rfl rfl rfl ?_
      refine W_end ?_
      exact E_keepJ (J102 _ _ _ ⟨rfl, rfl, rfl⟩) (List.Perm.refl _) ⟨(by show some (Value.bool (true)) = some (Value.bool ((decide (p0_f < (-10000))) || (decide (10000 < p0_f)))); simp only [hb103, Bool.and_true, Bool.true_and, Bool.false_and, Bool.and_false, Bool.or_true, Bool.true_or, Bool.or_false, Bool.false_or, Bool.not_true, Bool.not_false]), trivial⟩

theorem m_slices_Index_int_int_c {B : Nat} {w0 w : World} {H : Hp} {M : List Res} {p0_s : (List Int)} {p1_v : Int} {v0 : Value} {r : Int} (hm : m_slices_Index_int_int p0_s p1_v = some r) (h0 : RdS H v0 p0_s) (ht : St B w0 H (M) w) :
    Calls Proofs.Try.prog 37 [v0, .int .i64 (p1_v)].toArray w (Ret B w0 fun H' M' v => H = H' ∧ M = M' ∧ .int .i64 (r) = v) := by
  unfold m_slices_Index_int_int at hm
  refine enter Proofs.Try.func37 rfl rfl rfl ht ?_
  refine C_seq ?_
  refine C_region ?_
  refine W_assign rfl rfl rfl ?_
  refine W_end ?_
  refine E_then ?_
  refine C_seq ?_
  refine C_seq ?_
  refine C_region ?_
  refine W_move rfl rfl rfl ?_
  refine W_lenR rfl rfl Proofs.Try.runUnderlying35 rfl h0 ?_
  refine W_move rfl rfl rfl ?_
  refine W_end ?_
  refine E_then ?_
  refine C_block ?_
  refine C_keep (L' := [(0, v0), (1, .int .i64 (p1_v)), (7, .int .i64 ((p0_s.length : Int))), (8, .int .i64 (((0 : Nat) : Int)))]) ⟨rfl, rfl, rfl, rfl, trivial⟩ (List.Perm.refl _) ?_
  refine C_loop (fun n H' M' L' => ∃ (k101 : Nat) (zs118' : Nat), k101 + zs118' = ((p0_s.length : Int) : Int).toNat ∧ zs118' = n ∧ forN (fun k s n => m_slices_Index_int_int_b1 p0_s p1_v k n) (fun _ => some ((-1))) zs118' k101 () = some r ∧ H.le H' ∧ M = M' ∧ [(0, v0), (1, .int .i64 (p1_v)), (7, .int .i64 ((p0_s.length : Int))), (8, .int .i64 ((k101 : Int)))] = L') _ ⟨0, _, Nat.zero_add _, rfl, hm, (Hp.le_refl _), rfl, rfl⟩ ?_
  rintro _ H112 _ _ ⟨k101, zs118', hd120, rfl, hm, hle113, rfl, rfl⟩
  refine C_seq ?_
  refine C_region ?_
  refine W_bin rfl rfl rfl rfl rfl ?_
  refine W_end (E_then ?_)
  refine C_seq ?_
  refine C_cond (b := decide ((k101 : Int) < (p0_s.length : Int))) rfl (fun hb122 => ?_) (fun hb122 => ?_)
  · obtain ⟨zs118, rfl, hd121, hy119⟩ := rngN_t hd120 hb122
    have hm : m_slices_Index_int_int_b1 p0_s p1_v k101 (forN (fun k s n => m_slices_Index_int_int_b1 p0_s p1_v k n) (fun _ => some ((-1))) zs118 (k101 + 1)) = some r := hm
    generalize hn115 : forN (fun k s n => m_slices_Index_int_int_b1 p0_s p1_v k n) (fun _ => some ((-1))) zs118 (k101 + 1) = nx114 at hm
    unfold m_slices_Index_int_int_b1 at hm
    refine C_skip (E_then ?_)
    refine C_seq ?_
    refine C_block ?_
    refine C_seq ?_
    refine C_region ?_
    refine W_move rfl rfl rfl ?_
    refine W_assign rfl rfl rfl ?_
    refine W_end ?_
    refine E_then ?_
    refine C_seq ?_
    refine C_region ?_
    refine W_move rfl rfl rfl ?_
    refine W_move rfl rfl rfl ?_
    refine W_move rfl rfl rfl ?_
    obtain ⟨y123, h124, he125, hm⟩ := idx_some hm
    obtain ⟨_, rfl, hc126⟩ := (h0).elem he125
    refine W_indexS rfl rfl Proofs.Try.runUnderlying35 Proofs.Try.sizeOf3 rfl (h0.mono hle113) rfl h124 he125 ?_
    refine W_load rfl rfl Proofs.Try.isAgg3 rfl (HCells.one (hc126.mono hle113) 0 rfl).at ?_
    refine W_bin rfl rfl rfl rfl rfl ?_
    refine W_end ?_
    refine E_then ?_
    refine C_cond (b := decide (p1_v = y123)) rfl (fun hb127 => ?_) (fun hb127 => ?_)
    · have hm := ite_t' hb127 hm
      refine C_seq ?_
      refine C_region ?_
      refine W_move rfl rfl rfl ?_
      refine W_assign rfl rfl rfl ?_
      refine W_end ?_
      refine E_then ?_
      refine C_ret ?_
      refine E_ret_block ?_
      refine E_ret_then ?_
      refine E_ret_then ?_
      refine E_ret_block ?_
      refine E_ret_then ?_
      obtain rfl := Option.some.inj hm
      refine E_weak hle113 ?_
      exact end1 rfl rfl ⟨rfl, rfl, rfl⟩
    · have hm := ite_f' hb127 hm
      refine C_skip ?_
      refine E_normal_block ?_
      refine E_then ?_
      refine C_region ?_
      refine W_bin rfl rfl rfl rfl rfl ?_
      refine W_move rfl rfl rfl ?_
      refine W_end ?_
      exact E_keepJ (E_back (Nat.lt_succ_self _) ⟨k101 + 1, zs118, hd121, rfl, (by rw [hn115]; exact hm), hle113, rfl, rfl⟩) (List.Perm.refl _) ⟨rfl, rfl, rfl, (congrArg (fun z => some (Value.int .i64 z)) (i64_succN hy119 (toNat_max (len_max (h0).lenMax)))), trivial⟩
  · obtain rfl := rngN_f hd120 hb122
    have hm : (some ((-1))) = some r := hm
    refine C_exit (E_exit_then ?_)
    refine E_exit_then ?_
    refine E_exit_hit ?_
    refine E_then ?_
    refine C_seq ?_
    refine C_region ?_
    refine W_assign rfl rfl rfl ?_
    refine W_end ?_
    refine E_then ?_
    refine C_ret ?_
    obtain rfl := Option.some.inj hm
    refine E_weak hle113 ?_
    exact end1 rfl rfl ⟨rfl, rfl, rfl⟩

theorem m_slices_Contains_int_int_c {B : Nat} {w0 w : World} {H : Hp} {M : List Res} {p0_s : (List Int)} {p1_v : Int} {v0 : Value} {r : Bool} (hm : m_slices_Contains_int_int p0_s p1_v = some r) (h0 : RdS H v0 p0_s) (ht : St B w0 H (M) w) :
    Calls Proofs.Try.prog 33 [v0, .int .i64 (p1_v)].toArray w (Ret B w0 fun H' M' v => H = H' ∧ M = M' ∧ .bool (r) = v) := by
  unfold m_slices_Contains_int_int at hm
  refine enter Proofs.Try.func33 rfl rfl rfl ht ?_
  refine C_seq ?_
  refine C_region ?_
  refine W_assign rfl rfl rfl ?_
  refine W_end ?_
  refine E_then ?_
  refine C_seq ?_
  refine C_region ?_
  refine W_move rfl rfl rfl ?_
  refine W_move rfl rfl rfl ?_
  obtain ⟨r101, hc102, hm⟩ := bind_some hm
  refine W_call Proofs.Try.call37 rfl rfl rfl (fun w ht => by have h := m_slices_Index_int_int_c (hm := hc102) h0 ht; exact h) ?_
  rintro _ _ _ ⟨rfl, rfl, rfl⟩
  refine W_bin rfl rfl rfl rfl rfl ?_
  refine W_assign rfl rfl rfl ?_
  refine W_end ?_
  refine E_then ?_
  refine C_ret ?_
  obtain rfl := Option.some.inj hm
  refine E_weak (Hp.le_refl _) ?_
  exact end1 rfl rfl ⟨rfl, rfl, rfl⟩

theorem m_shed_Shed_Step_c {B : Nat} {w0 w : World} {H : Hp} {M : List Res} {p0_s : S_shed_Shed} {frequency : Int} {b0 : Nat} {v0 : Value} {v1 : Value} {xs0 : List Value} {v2 : Value} {xs1 : List Value} {r : (List ByteArray) × Int × S_shed_Shed} (hm : m_shed_Shed_Step p0_s frequency = some r) (h0 : RdS H v0 p0_s.stages) (h1 : Rw H v1 xs0 p0_s.count) (h2 : Rw H v2 xs1 p0_s.acted) (ht : St B w0 H (.obj b0 (.cells [v0, v1, v2].toArray 58 (0, 0)) :: .row v1 3 (Rep.sz Int) p0_s.count.length xs0 :: .row v2 3 (Rep.sz Int) p0_s.acted.length xs1 :: M) w) :
    Calls Proofs.Try.prog 17 [.pointer (some ⟨b0, 0, none⟩), .int .i64 (frequency)].toArray w (Ret B w0 fun H' M' v => H.le H' ∧ ∃ qv0 : Value, ∃ qxs0 : List Value, ∃ qv1 : Value, ∃ qv2 : Value, ∃ qxs1 : List Value, ∃ qv3 : Value, ∃ qxs2 : List Value, .row qv0 9 (Rep.sz ByteArray) r.1.length qxs0 :: .obj b0 (.cells [qv1, qv2, qv3].toArray 58 (0, 0)) :: .row qv2 3 (Rep.sz Int) r.2.2.count.length qxs1 :: .row qv3 3 (Rep.sz Int) r.2.2.acted.length qxs2 :: M = M' ∧ .tuple #[qv0, .int .i64 (r.2.1)] = v ∧ Rw H' qv0 qxs0 r.1 ∧ RdS H' qv1 r.2.2.stages ∧ Rw H' qv2 qxs1 r.2.2.count ∧ Rw H' qv3 qxs2 r.2.2.acted) := by
  unfold m_shed_Shed_Step at hm
  refine enter Proofs.Try.func17 rfl rfl rfl ht ?_
  refine C_seq ?_
  refine C_region ?_
  refine W_assign rfl rfl rfl ?_
  refine W_assign rfl rfl rfl ?_
  refine W_end ?_
  refine E_then ?_
  refine C_seq ?_
  refine C_seq ?_
  refine C_region ?_
  refine W_move rfl rfl rfl ?_
  refine W_call Proofs.Try.call32 rfl rfl rfl (fun w ht => by have h := m_shed_wrong_c (hm := (rfl : m_shed_wrong frequency = _))  ht; exact h) ?_
  rintro _ _ _ ⟨rfl, rfl, rfl⟩
  refine W_end ?_
  refine E_then ?_
  refine C_cond (b := (m_shed_wrong frequency)) rfl (fun hb101 => ?_) (fun hb101 => ?_)
  · have hm := ite_t' hb101 hm
    refine C_seq ?_
    refine C_region ?_
    refine W_assign rfl rfl rfl ?_
    refine W_assign rfl rfl rfl ?_
    refine W_end ?_
    refine E_then ?_
    refine C_ret ?_
    refine E_ret_then ?_
    refine E_nilRow 9 (Rep.sz ByteArray) ?_
    obtain rfl := Option.some.inj hm
    exact end2 rfl rfl rfl ⟨(Hp.le_refl _), (.slice none 0 0), [], v0, v1, xs0, v2, xs1, rfl, rfl, Rw.nil, h0, h1, h2⟩
  · have hm := ite_f' hb101 hm
    refine C_skip ?_
    refine E_then ?_
    refine C_seq ?_
    refine C_region ?_
    refine W_assign rfl rfl rfl ?_
    refine W_end ?_
    refine E_then ?_
    refine C_seq ?_
    refine C_seq ?_
    refine C_region ?_
    refine W_move rfl rfl rfl ?_
    refine W_nilCheck rfl rfl rfl ?_
    refine W_field (o := 0) rfl rfl Proofs.Try.runUnderlying58 rfl Proofs.Try.sizeOf34 rfl rfl rfl ?_
    refine W_load rfl rfl Proofs.Try.isAgg34 rfl (own_at (List.mem_cons_self ..) rfl) ?_
    refine W_lenR rfl rfl Proofs.Try.runUnderlying34 rfl h0 ?_
    refine W_move rfl rfl rfl ?_
    refine W_end ?_
    refine E_then ?_
    refine C_block ?_
    refine C_nilRow 9 (Rep.sz ByteArray) ?_
    refine C_keep (L' := [(0, .pointer (some ⟨b0, 0, none⟩)), (1, .int .i64 (frequency)), (6, (.slice none 0 0)), (14, v0), (15, .int .i64 ((p0_s.stages.length : Int))), (16, .int .i64 (((0 : Nat) : Int)))]) ⟨rfl, rfl, rfl, rfl, rfl, rfl, trivial⟩ (List.Perm.trans (List.Perm.cons _ (List.Perm.swap _ _ _)) (List.Perm.cons _ (List.Perm.cons _ (List.Perm.swap _ _ _)))) ?_
    refine C_loop (fun n H' M' L' => ∃ (k102 : Nat) (zs395' : List S_api_ShedStage), ∃ l379 : List ByteArray, ∃ l383 : List Int, ∃ l387 : List Int, ∃ v377 : Value, ∃ xs378 : List Value, ∃ xs382 : List Value, ∃ v385 : Value, ∃ xs386 : List Value, (p0_s.stages).drop k102 = zs395' ∧ zs395'.length = n ∧ forI (fun k y s n => m_shed_Shed_Step_b3 frequency k y s.1 s.2.1 s.2.2 n) (fun s => some (s.1, 0, (S_shed_Shed.mk p0_s.stages s.2.1 s.2.2))) k102 zs395' (l379, l383, l387) = some r ∧ Rw H' v377 xs378 l379 ∧ Rw H' v1 xs382 l383 ∧ Rw H' v385 xs386 l387 ∧ H.le H' ∧ .row v377 9 (Rep.sz ByteArray) l379.length xs378 :: .row v1 3 (Rep.sz Int) l383.length xs382 :: .row v385 3 (Rep.sz Int) l387.length xs386 :: .obj b0 (.cells [v0, v1, v385].toArray 58 (0, 0)) :: M = M' ∧ [(0, .pointer (some ⟨b0, 0, none⟩)), (1, .int .i64 (frequency)), (6, v377), (14, v0), (15, .int .i64 ((p0_s.stages.length : Int))), (16, .int .i64 ((k102 : Int)))] = L') _ ⟨0, _, ([] : List ByteArray), p0_s.count, p0_s.acted, (.slice none 0 0), ([]), xs0, v2, xs1, rfl, rfl, hm, Rw.nil, h1, h2, (Hp.le_refl _), rfl, rfl⟩ ?_
    rintro _ H389 _ _ ⟨k102, zs395', l379, l383, l387, v377, xs378, xs382, v385, xs386, hd397, rfl, hm, hr380, hr384, hr388, hle390, rfl, rfl⟩
    refine C_seq ?_
    refine C_region ?_
    refine W_bin rfl rfl rfl rfl rfl ?_
    refine W_end (E_then ?_)
    refine C_seq ?_
    refine C_cond (b := decide ((k102 : Int) < (p0_s.stages.length : Int))) rfl (fun hb399 => ?_) (fun hb399 => ?_)
    · obtain ⟨y394, zs395, rfl, hy396, hd398⟩ := rng_t hd397 hb399
      have hm : m_shed_Shed_Step_b3 frequency k102 y394 l379 l383 l387 (forI (fun k y s n => m_shed_Shed_Step_b3 frequency k y s.1 s.2.1 s.2.2 n) (fun s => some (s.1, 0, (S_shed_Shed.mk p0_s.stages s.2.1 s.2.2))) (k102 + 1) zs395) = some r := hm
      generalize hn392 : forI (fun k y s n => m_shed_Shed_Step_b3 frequency k y s.1 s.2.1 s.2.2 n) (fun s => some (s.1, 0, (S_shed_Shed.mk p0_s.stages s.2.1 s.2.2))) (k102 + 1) zs395 = nx391 at hm
      unfold m_shed_Shed_Step_b3 at hm
      refine C_skip (E_then ?_)
      refine C_seq_join (fun H' M' L' => ∃ l456 : List ByteArray, ∃ l460 : List Int, ∃ l464 : List Int, ∃ v454 : Value, ∃ xs455 : List Value, ∃ xs459 : List Value, ∃ v462 : Value, ∃ xs463 : List Value, m_shed_Shed_Step_b4 nx391 l456 l460 l464 = some r ∧ Rw H' v454 xs455 l456 ∧ Rw H' v1 xs459 l460 ∧ Rw H' v462 xs463 l464 ∧ H389.le H' ∧ .row v454 9 (Rep.sz ByteArray) l456.length xs455 :: .row v1 3 (Rep.sz Int) l460.length xs459 :: .row v462 3 (Rep.sz Int) l464.length xs463 :: .obj b0 (.cells [v0, v1, v462].toArray 58 (0, 0)) :: M = M' ∧ [(0, .pointer (some ⟨b0, 0, none⟩)), (1, .int .i64 (frequency)), (6, v454), (14, v0), (15, .int .i64 ((p0_s.stages.length : Int))), (16, .int .i64 ((k102 : Int)))] = L') ?_ (fun J468 => ?_)
      · rintro H466 _ _ ⟨l456, l460, l464, v454, xs455, xs459, v462, xs463, hm, hr457, hr461, hr465, hle467, rfl, rfl⟩
        unfold m_shed_Shed_Step_b4 at hm
        refine C_region ?_
        refine W_bin rfl rfl rfl rfl rfl ?_
        refine W_move rfl rfl rfl ?_
        refine W_end ?_
        exact E_keepJ (E_back (Nat.lt_succ_self _) ⟨k102 + 1, zs395, l456, l460, l464, v454, xs455, xs459, v462, xs463, hd398, rfl, (by rw [hn392]; exact hm), hr457, hr461, hr465, (Hp.le_trans hle390 hle467), rfl, rfl⟩) (List.Perm.refl _) ⟨rfl, rfl, rfl, rfl, rfl, (congrArg (fun z => some (Value.int .i64 z)) (i64_succ hy396 ((h0.mono hle390)).lenMax)), trivial⟩
      · refine C_block ?_
        refine C_seq ?_
        refine C_region ?_
        refine W_move rfl rfl rfl ?_
        obtain ⟨_, ⟨v470, rfl, h471⟩, hc469⟩ := (h0).elem hy396
        refine W_indexS rfl rfl Proofs.Try.runUnderlying34 Proofs.Try.sizeOf43 rfl (h0.mono hle390) rfl (Int.natCast_nonneg _) hy396 ?_
        refine W_loadAgg rfl rfl Proofs.Try.isAgg43 Proofs.Try.sizeOf43 rfl (hc469.mono hle390).at rfl ?_
        refine W_alloc (cs := [.int .i64 (0), .int .i64 (0), .slice none 0 0]) rfl rfl Proofs.Try.zeroValue43 rfl (fun b472 => ?_)
        refine W_assign rfl rfl rfl ?_
        refine W_store (cs := [.int .i64 (y394.Below), .int .i64 (y394.Wait), v470]) (out := [.int .i64 (y394.Below), .int .i64 (y394.Wait), v470]) rfl Proofs.Try.sizeOf43 rfl rfl rfl rfl rfl (all_cons rfl (all_cons rfl (all_cons (RdS.one1 (h471.mono hle390)) all_nil))) (over_all rfl) ?_
        refine W_end ?_
        refine E_then ?_
        refine C_seq ?_
        refine C_seq ?_
        refine C_region ?_
        refine W_move rfl rfl rfl ?_
        refine W_field (o := 0) rfl rfl Proofs.Try.runUnderlying43 rfl Proofs.Try.sizeOf3 rfl rfl rfl ?_
        refine W_load rfl rfl Proofs.Try.isAgg3 rfl (own_at (List.mem_cons_self ..) rfl) ?_
        refine W_bin rfl rfl rfl rfl rfl ?_
        refine W_end ?_
        refine E_then ?_
        refine C_cond (b := decide (y394.Below ≤ frequency)) rfl (fun hb473 => ?_) (fun hb473 => ?_)
        · have hm := ite_t' hb473 hm
          refine C_seq ?_
          refine C_region ?_
          refine W_move rfl rfl rfl ?_
          refine W_nilCheck rfl rfl rfl ?_
          refine W_field (o := 1) rfl rfl Proofs.Try.runUnderlying58 rfl Proofs.Try.sizeOf35 rfl rfl rfl ?_
          refine W_load rfl rfl Proofs.Try.isAgg35 rfl (own_at (List.mem_cons_of_mem _ (List.mem_cons_of_mem _ (List.mem_cons_of_mem _ (List.mem_cons_of_mem _ (List.mem_cons_self ..))))) rfl) ?_
          refine W_move rfl rfl rfl ?_
          obtain ⟨y474, h475, he476, hm⟩ := idx_some hm
          refine W_indexO (List.mem_cons_of_mem _ (List.mem_cons_of_mem _ (List.mem_cons_self ..))) rfl rfl Proofs.Try.runUnderlying35 Proofs.Try.sizeOf3 rfl rfl h475 (List.getElem?_eq_some_iff.1 he476).1 ?_
          obtain ⟨_, rfl, hg477⟩ := (hr384).elem he476
          refine W_perm (List.Perm.trans (List.Perm.cons _ (List.Perm.swap _ _ _)) (List.Perm.swap _ _ _)) ?_
          obtain ⟨hr478, he479, hg480⟩ := Rw.put (cs := [.int .i64 (0)]) (o := 0) (c := [.int .i64 (y474)]) (out := [.int .i64 (0)]) (e2 := 0) hr384 he476 rfl hg477 rfl rfl rfl
          refine W_storeO2 (i := ((k102 : Int) : Int).toNat * Rep.sz Int + 0) (cs := [.int .i64 (0)]) rfl Proofs.Try.sizeOf3 rfl (row_ad0 _ _) rfl rfl rfl (Rw.room hr384 he476 rfl) rfl (all_cons rfl all_nil) (n' := (l383.set (((k102 : Int) : Int).toNat) 0).length) List.length_set ?_
          generalize over xs382 (((k102 : Int) : Int).toNat * Rep.sz Int + 0) [.int .i64 (0)] = xs481 at hr478 hg480 ⊢
          refine W_end ?_
          refine E_then ?_
          refine C_exit ?_
          refine E_exit_then ?_
          refine E_exit_hit ?_
          refine E_drop (List.Sublist.cons_cons _ (List.Sublist.cons _ (List.Sublist.refl _))) ?_
          exact E_keepJ (J468 _ _ _ ⟨l379, (l383.set (((k102 : Int) : Int).toNat) 0), l387, v377, xs378, xs481, v385, xs386, hm, hr380, hr478, hr388, (Hp.le_refl _), rfl, rfl⟩) (List.Perm.swap _ _ _) ⟨rfl, rfl, rfl, rfl, rfl, rfl, trivial⟩
        · have hm := ite_f' hb473 hm
          refine C_skip ?_
          refine E_then ?_
          refine C_seq ?_
          obtain ⟨y482, h483, he484, hm⟩ := idx_some hm
          obtain ⟨_, rfl, hg485⟩ := (hr384).elem he484
          refine C_region_tok0 16 (phiT [(fun H rs v => [] = rs ∧ .pointer (some ⟨b0, 0, none⟩) = v), (fun H rs v => [] = rs ∧ .pointer (some ⟨b0, 0, none⟩) = v), (fun H rs v => [] = rs ∧ .pointer (some ⟨b0, 1, none⟩) = v), (fun H rs v => [] = rs ∧ v1 = v), (fun H rs v => [] = rs ∧ .int .i64 ((k102 : Int)) = v), (fun H rs v => [] = rs ∧ .pointer (some ⟨b0, 0, none⟩) = v), (fun H rs v => [] = rs ∧ .pointer (some ⟨b0, 0, none⟩) = v), (fun H rs v => [] = rs ∧ .pointer (some ⟨b0, 1, none⟩) = v), (fun H rs v => [] = rs ∧ v1 = v), (fun H rs v => [] = rs ∧ .int .i64 ((k102 : Int)) = v), (fun H rs v => [] = rs ∧ .pointer (some ((Value.base (v1)).add (((k102 : Int) : Int).toNat * Rep.sz Int))) = v), (fun H rs v => [] = rs ∧ .int .i64 (y482) = v), (fun H rs v => [] = rs ∧ .int .i64 (IntKind.i64.wrap (y482 + 1)) = v), (fun H rs v => [] = rs ∧ .pointer (some ⟨b472, 1, none⟩) = v), (fun H rs v => [] = rs ∧ .int .i64 (y394.Wait) = v), (fun H rs v => [] = rs ∧ .int .i64 (min (IntKind.i64.wrap (y482 + 1)) y394.Wait) = v)]) [[], [], [], [], [], [], [], [], [], [], [], [], [], [], [], []] [[], [], [], [], [], [], [], [], [], [], [], [], [], [], [], []] [] [0, 1, 2, 3, 4, 5, 6, 7, 8, 9, 10, 11, 12, 13, 14, 15] Facts.mixed (by kernel_rfl) rfl rfl rfl (by kernel_rfl) (phiT_mono ⟨eq_monoT _ _, eq_monoT _ _, eq_monoT _ _, eq_monoT _ _, eq_monoT _ _, eq_monoT _ _, eq_monoT _ _, eq_monoT _ _, eq_monoT _ _, eq_monoT _ _, eq_monoT _ _, eq_monoT _ _, eq_monoT _ _, eq_monoT _ _, eq_monoT _ _, eq_monoT _ _, trivial⟩) ⟨?_, ?_, ?_, ?_, ?_, ?_, ?_, ?_, ?_, ?_, ?_, ?_, ?_, ?_, ?_, ?_, trivial⟩ ?_
          · intro HX hX X Rest hR
            intro hU
            refine W_move rfl rfl rfl ?_
            exact W_end (OneT_end [] (Hp.le_refl _) ⟨rfl, rfl⟩)
          · intro HX hX X Rest hR
            rintro _ _ ⟨rfl, rfl⟩
            intro hU
            refine W_nilCheck rfl rfl rfl ?_
            exact W_end (OneT_end [] (Hp.le_refl _) ⟨rfl, rfl⟩)
          · intro HX hX X Rest hR
            rintro _ _ ⟨rfl, rfl⟩
            intro hU
            refine W_field (o := 1) rfl rfl Proofs.Try.runUnderlying58 rfl Proofs.Try.sizeOf35 rfl rfl rfl ?_
            exact W_end (OneT_end [] (Hp.le_refl _) ⟨rfl, rfl⟩)
          · intro HX hX X Rest hR
            rintro _ _ ⟨rfl, rfl⟩
            intro hU
            refine W_load rfl rfl Proofs.Try.isAgg35 rfl (own_at (hR _ (List.mem_cons_of_mem _ (List.mem_cons_of_mem _ (List.mem_cons_of_mem _ (List.mem_cons_of_mem _ (List.mem_cons_self ..)))))) rfl) ?_
            exact W_end (OneT_end [] (Hp.le_refl _) ⟨rfl, rfl⟩)
          · intro HX hX X Rest hR
            intro hU
            refine W_move rfl rfl rfl ?_
            exact W_end (OneT_end [] (Hp.le_refl _) ⟨rfl, rfl⟩)
          · intro HX hX X Rest hR
            intro hU
            refine W_move rfl rfl rfl ?_
            exact W_end (OneT_end [] (Hp.le_refl _) ⟨rfl, rfl⟩)
          · intro HX hX X Rest hR
            rintro _ _ ⟨rfl, rfl⟩
            intro hU
            refine W_nilCheck rfl rfl rfl ?_
            exact W_end (OneT_end [] (Hp.le_refl _) ⟨rfl, rfl⟩)
          · intro HX hX X Rest hR
            rintro _ _ ⟨rfl, rfl⟩
            intro hU
            refine W_field (o := 1) rfl rfl Proofs.Try.runUnderlying58 rfl Proofs.Try.sizeOf35 rfl rfl rfl ?_
            exact W_end (OneT_end [] (Hp.le_refl _) ⟨rfl, rfl⟩)
          · intro HX hX X Rest hR
            rintro _ _ ⟨rfl, rfl⟩
            intro hU
            refine W_load rfl rfl Proofs.Try.isAgg35 rfl (own_at (hR _ (List.mem_cons_of_mem _ (List.mem_cons_of_mem _ (List.mem_cons_of_mem _ (List.mem_cons_of_mem _ (List.mem_cons_self ..)))))) rfl) ?_
            exact W_end (OneT_end [] (Hp.le_refl _) ⟨rfl, rfl⟩)
          · intro HX hX X Rest hR
            intro hU
            refine W_move rfl rfl rfl ?_
            exact W_end (OneT_end [] (Hp.le_refl _) ⟨rfl, rfl⟩)
          · intro HX hX X Rest hR
            rintro _ _ ⟨rfl, rfl⟩
            rintro _ _ ⟨rfl, rfl⟩
            intro hU
            refine W_indexO (hR _ (List.mem_cons_of_mem _ (List.mem_cons_of_mem _ (List.mem_cons_self ..)))) rfl rfl Proofs.Try.runUnderlying35 Proofs.Try.sizeOf3 rfl rfl h483 (List.getElem?_eq_some_iff.1 he484).1 ?_
            exact W_end (OneT_end [] (Hp.le_refl _) ⟨rfl, rfl⟩)
          · intro HX hX X Rest hR
            rintro _ _ ⟨rfl, rfl⟩
            intro hU
            refine W_load rfl rfl Proofs.Try.isAgg3 rfl (row_one0 (hR _ (List.mem_cons_of_mem _ (List.mem_cons_of_mem _ (List.mem_cons_self ..)))) hg485 rfl) ?_
            exact W_end (OneT_end [] (Hp.le_refl _) ⟨rfl, rfl⟩)
          · intro HX hX X Rest hR
            rintro _ _ ⟨rfl, rfl⟩
            intro hU
            refine W_bin rfl rfl rfl rfl rfl ?_
            exact W_end (OneT_end [] (Hp.le_refl _) ⟨rfl, rfl⟩)
          · intro HX hX X Rest hR
            intro hU
            refine W_field (o := 1) rfl rfl Proofs.Try.runUnderlying43 rfl Proofs.Try.sizeOf3 rfl rfl rfl ?_
            exact W_end (OneT_end [] (Hp.le_refl _) ⟨rfl, rfl⟩)
          · intro HX hX X Rest hR
            rintro _ _ ⟨rfl, rfl⟩
            intro hU
            refine W_load rfl rfl Proofs.Try.isAgg3 rfl (own_at (hR _ (List.mem_cons_self ..)) rfl) ?_
            exact W_end (OneT_end [] (Hp.le_refl _) ⟨rfl, rfl⟩)
          · intro HX hX X Rest hR
            rintro _ _ ⟨rfl, rfl⟩
            rintro _ _ ⟨rfl, rfl⟩
            intro hU
            refine W_min rfl rfl rfl rfl ?_
            exact W_end (OneT_end [] (Hp.le_refl _) ⟨rfl, rfl⟩)
          intro H486 hle487
          rintro _ _ ⟨rfl, rfl⟩
          rintro _ _ ⟨rfl, rfl⟩
          rintro _ _ ⟨rfl, rfl⟩
          rintro _ _ ⟨rfl, rfl⟩
          rintro _ _ ⟨rfl, rfl⟩
          rintro _ _ ⟨rfl, rfl⟩
          rintro _ _ ⟨rfl, rfl⟩
          rintro _ _ ⟨rfl, rfl⟩
          rintro _ _ ⟨rfl, rfl⟩
          rintro _ _ ⟨rfl, rfl⟩
          rintro _ _ ⟨rfl, rfl⟩
          rintro _ _ ⟨rfl, rfl⟩
          rintro _ _ ⟨rfl, rfl⟩
          rintro _ _ ⟨rfl, rfl⟩
          rintro _ _ ⟨rfl, rfl⟩
          rintro _ _ ⟨rfl, rfl⟩
          obtain ⟨y488, h489, he490, hm⟩ := idx_some hm
          refine W_indexO (List.mem_cons_of_mem _ (List.mem_cons_of_mem _ (List.mem_cons_self ..))) rfl rfl Proofs.Try.runUnderlying35 Proofs.Try.sizeOf3 rfl rfl h489 (List.getElem?_eq_some_iff.1 he490).1 ?_
          obtain ⟨_, rfl, hg491⟩ := (hr384).elem he490
          refine W_perm (List.Perm.trans (List.Perm.cons _ (List.Perm.swap _ _ _)) (List.Perm.swap _ _ _)) ?_
          obtain ⟨hr492, he493, hg494⟩ := Rw.put (cs := [.int .i64 (min (IntKind.i64.wrap (y482 + 1)) y394.Wait)]) (o := 0) (c := [.int .i64 (y488)]) (out := [.int .i64 (min (IntKind.i64.wrap (y482 + 1)) y394.Wait)]) (e2 := (min (IntKind.i64.wrap (y482 + 1)) y394.Wait)) (hr384.mono hle487) he490 rfl hg491 rfl rfl rfl
          refine W_storeO2 (i := ((k102 : Int) : Int).toNat * Rep.sz Int + 0) (cs := [.int .i64 (min (IntKind.i64.wrap (y482 + 1)) y394.Wait)]) rfl Proofs.Try.sizeOf3 rfl (row_ad0 _ _) rfl rfl rfl (Rw.room (hr384.mono hle487) he490 rfl) rfl (all_cons rfl all_nil) (n' := (l383.set (((k102 : Int) : Int).toNat) (min (IntKind.i64.wrap (y482 + 1)) y394.Wait)).length) List.length_set ?_
          generalize over xs382 (((k102 : Int) : Int).toNat * Rep.sz Int + 0) [.int .i64 (min (IntKind.i64.wrap (y482 + 1)) y394.Wait)] = xs495 at hr492 hg494 ⊢
          refine W_end ?_
          refine E_then ?_
          refine C_seq ?_
          obtain ⟨y496, h497, he498, hm⟩ := idx_some hm
          obtain ⟨_, rfl, hg499⟩ := (hr492).elem he498
          cases hb500 : (decide (y496 = y394.Wait))
          · have hm := ite_f' hb500 hm
            refine C_region_tok0 16 (phiT [(fun H rs v => [] = rs ∧ .pointer (some ⟨b0, 0, none⟩) = v), (fun H rs v => [] = rs ∧ .pointer (some ⟨b0, 0, none⟩) = v), (fun H rs v => [] = rs ∧ .pointer (some ⟨b0, 1, none⟩) = v), (fun H rs v => [] = rs ∧ v1 = v), (fun H rs v => [] = rs ∧ .int .i64 ((k102 : Int)) = v), (fun H rs v => [] = rs ∧ .pointer (some ((Value.base (v1)).add (((k102 : Int) : Int).toNat * Rep.sz Int))) = v), (fun H rs v => [] = rs ∧ .int .i64 (y496) = v), (fun H rs v => [] = rs ∧ .pointer (some ⟨b472, 1, none⟩) = v), (fun H rs v => [] = rs ∧ .int .i64 (y394.Wait) = v), (fun H rs v => [] = rs ∧ .bool (false) = v), (fun H rs v => [] = rs ∧ .bool (false) = v), (fun H rs v => [] = rs ∧ undef = v), (fun H rs v => [] = rs ∧ undef = v), (fun H rs v => [] = rs ∧ undef = v), (fun H rs v => [] = rs ∧ undef = v), (fun H rs v => [] = rs ∧ undef = v)]) [[], [], [], [], [], [], [], [], [], [], [], [], [], [], [], []] [[], [], [], [], [], [], [], [], [], [], [], [], [], [], [], []] [] [0, 1, 2, 3, 4, 5, 6, 7, 8, 9, 10, 11, 12, 13, 14, 15] Facts.mixed (by kernel_rfl) rfl rfl rfl (by kernel_rfl) (phiT_mono ⟨eq_monoT _ _, eq_monoT _ _, eq_monoT _ _, eq_monoT _ _, eq_monoT _ _, eq_monoT _ _, eq_monoT _ _, eq_monoT _ _, eq_monoT _ _, eq_monoT _ _, eq_monoT _ _, eq_monoT _ _, eq_monoT _ _, eq_monoT _ _, eq_monoT _ _, eq_monoT _ _, trivial⟩) ⟨?_, ?_, ?_, ?_, ?_, ?_, ?_, ?_, ?_, ?_, ?_, ?_, ?_, ?_, ?_, ?_, trivial⟩ ?_
            · intro HX hX X Rest hR
              intro hU
              refine W_move rfl rfl rfl ?_
              exact W_end (OneT_end [] (Hp.le_refl _) ⟨rfl, rfl⟩)
            · intro HX hX X Rest hR
              rintro _ _ ⟨rfl, rfl⟩
              intro hU
              refine W_nilCheck rfl rfl rfl ?_
              exact W_end (OneT_end [] (Hp.le_refl _) ⟨rfl, rfl⟩)
            · intro HX hX X Rest hR
              rintro _ _ ⟨rfl, rfl⟩
              intro hU
              refine W_field (o := 1) rfl rfl Proofs.Try.runUnderlying58 rfl Proofs.Try.sizeOf35 rfl rfl rfl ?_
              exact W_end (OneT_end [] (Hp.le_refl _) ⟨rfl, rfl⟩)
            · intro HX hX X Rest hR
              rintro _ _ ⟨rfl, rfl⟩
              intro hU
              refine W_load rfl rfl Proofs.Try.isAgg35 rfl (own_at (hR _ (List.mem_cons_of_mem _ (List.mem_cons_of_mem _ (List.mem_cons_of_mem _ (List.mem_cons_of_mem _ (List.mem_cons_self ..)))))) rfl) ?_
              exact W_end (OneT_end [] (Hp.le_refl _) ⟨rfl, rfl⟩)
            · intro HX hX X Rest hR
              intro hU
              refine W_move rfl rfl rfl ?_
              exact W_end (OneT_end [] (Hp.le_refl _) ⟨rfl, rfl⟩)
            · intro HX hX X Rest hR
              rintro _ _ ⟨rfl, rfl⟩
              rintro _ _ ⟨rfl, rfl⟩
              intro hU
              refine W_indexO (hR _ (List.mem_cons_self ..)) rfl rfl Proofs.Try.runUnderlying35 Proofs.Try.sizeOf3 rfl rfl h497 (List.getElem?_eq_some_iff.1 he498).1 ?_
              exact W_end (OneT_end [] (Hp.le_refl _) ⟨rfl, rfl⟩)
            · intro HX hX X Rest hR
              rintro _ _ ⟨rfl, rfl⟩
              intro hU
              refine W_load rfl rfl Proofs.Try.isAgg3 rfl (row_one0 (hR _ (List.mem_cons_self ..)) hg499 rfl) ?_
              exact W_end (OneT_end [] (Hp.le_refl _) ⟨rfl, rfl⟩)
            · intro HX hX X Rest hR
              intro hU
              refine W_field (o := 1) rfl rfl Proofs.Try.runUnderlying43 rfl Proofs.Try.sizeOf3 rfl rfl rfl ?_
              exact W_end (OneT_end [] (Hp.le_refl _) ⟨rfl, rfl⟩)
            · intro HX hX X Rest hR
              rintro _ _ ⟨rfl, rfl⟩
              intro hU
              refine W_load rfl rfl Proofs.Try.isAgg3 rfl (own_at (hR _ (List.mem_cons_of_mem _ (List.mem_cons_self ..))) rfl) ?_
              exact W_end (OneT_end [] (Hp.le_refl _) ⟨rfl, rfl⟩)
            · intro HX hX X Rest hR
              rintro _ _ ⟨rfl, rfl⟩
              rintro _ _ ⟨rfl, rfl⟩
              intro hU
              refine W_bin rfl rfl rfl rfl rfl ?_
              exact W_end (OneT_end [] (Hp.le_refl _) ⟨rfl, (by rw [hb500]; try rfl)⟩)
            · intro HX hX X Rest hR
              rintro _ _ ⟨rfl, rfl⟩
              intro hU
              refine W_move rfl rfl rfl ?_
              exact W_end (OneT_end [] (Hp.le_refl _) ⟨rfl, rfl⟩)
            · intro HX hX X Rest hR
              rintro _ _ ⟨rfl, rfl⟩
              intro hU
              refine W_no rfl rfl rfl ?_
              exact W_end (OneT_end [] (Hp.le_refl _) ⟨rfl, rfl⟩)
            · intro HX hX X Rest hR
              rintro _ _ ⟨rfl, rfl⟩
              rintro _ _ ⟨rfl, rfl⟩
              intro hU
              refine W_no rfl rfl rfl ?_
              exact W_end (OneT_end [] (Hp.le_refl _) ⟨rfl, rfl⟩)
            · intro HX hX X Rest hR
              rintro _ _ ⟨rfl, rfl⟩
              rintro _ _ ⟨rfl, rfl⟩
              intro hU
              refine W_no rfl rfl rfl ?_
              exact W_end (OneT_end [] (Hp.le_refl _) ⟨rfl, rfl⟩)
            · intro HX hX X Rest hR
              rintro _ _ ⟨rfl, rfl⟩
              rintro _ _ ⟨rfl, rfl⟩
              intro hU
              refine W_no rfl rfl rfl ?_
              exact W_end (OneT_end [] (Hp.le_refl _) ⟨rfl, rfl⟩)
            · intro HX hX X Rest hR
              rintro _ _ ⟨rfl, rfl⟩
              intro hU
              refine W_no rfl rfl rfl ?_
              exact W_end (OneT_end [] (Hp.le_refl _) ⟨rfl, rfl⟩)
            intro H501 hle502
            rintro _ _ ⟨rfl, rfl⟩
            rintro _ _ ⟨rfl, rfl⟩
            rintro _ _ ⟨rfl, rfl⟩
            rintro _ _ ⟨rfl, rfl⟩
            rintro _ _ ⟨rfl, rfl⟩
            rintro _ _ ⟨rfl, rfl⟩
            rintro _ _ ⟨rfl, rfl⟩
            rintro _ _ ⟨rfl, rfl⟩
            rintro _ _ ⟨rfl, rfl⟩
            rintro _ _ ⟨rfl, rfl⟩
            rintro _ _ ⟨rfl, rfl⟩
            rintro _ _ ⟨rfl, rfl⟩
            rintro _ _ ⟨rfl, rfl⟩
            rintro _ _ ⟨rfl, rfl⟩
            rintro _ _ ⟨rfl, rfl⟩
            rintro _ _ ⟨rfl, rfl⟩
            refine W_no rfl rfl rfl ?_
            refine W_no rfl rfl rfl ?_
            refine W_pick rfl rfl rfl rfl ?_
            refine W_end ?_
            refine E_then ?_
            refine C_cond (b := false) rfl (fun hb => Bool.noConfusion hb) (fun _ => ?_)
            refine C_skip ?_
            refine E_normal_block ?_
            refine E_drop (List.Sublist.cons_cons _ (List.Sublist.cons _ (List.Sublist.refl _))) ?_
            exact E_keepJ (J468 _ _ _ ⟨l379, (l383.set (((k102 : Int) : Int).toNat) (min (IntKind.i64.wrap (y482 + 1)) y394.Wait)), l387, v377, xs378, xs495, v385, xs386, hm, ((hr380.mono hle487).mono hle502), (hr492.mono hle502), ((hr388.mono hle487).mono hle502), (Hp.le_trans hle487 hle502), rfl, rfl⟩) (List.Perm.swap _ _ _) ⟨rfl, rfl, rfl, rfl, rfl, rfl, trivial⟩
          · have hm := ite_t' hb500 hm
            refine C_region_tok0 16 (phiT [(fun H rs v => [] = rs ∧ .pointer (some ⟨b0, 0, none⟩) = v), (fun H rs v => [] = rs ∧ .pointer (some ⟨b0, 0, none⟩) = v), (fun H rs v => [] = rs ∧ .pointer (some ⟨b0, 1, none⟩) = v), (fun H rs v => [] = rs ∧ v1 = v), (fun H rs v => [] = rs ∧ .int .i64 ((k102 : Int)) = v), (fun H rs v => [] = rs ∧ .pointer (some ((Value.base (v1)).add (((k102 : Int) : Int).toNat * Rep.sz Int))) = v), (fun H rs v => [] = rs ∧ .int .i64 (y496) = v), (fun H rs v => [] = rs ∧ .pointer (some ⟨b472, 1, none⟩) = v), (fun H rs v => [] = rs ∧ .int .i64 (y394.Wait) = v), (fun H rs v => [] = rs ∧ .bool (true) = v), (fun H rs v => [] = rs ∧ .bool (true) = v), (fun H rs v => [] = rs ∧ .pointer (some ⟨b0, 0, none⟩) = v), (fun H rs v => [] = rs ∧ .pointer (some ⟨b0, 0, none⟩) = v), (fun H rs v => [] = rs ∧ .pointer (some ⟨b0, 2, none⟩) = v), (fun H rs v => [] = rs ∧ v385 = v), (fun H rs v => [] = rs ∧ .int .i64 ((k102 : Int)) = v)]) [[], [], [], [], [], [], [], [], [], [], [], [], [], [], [], []] [[], [], [], [], [], [], [], [], [], [], [], [], [], [], [], []] [] [0, 1, 2, 3, 4, 5, 6, 7, 8, 9, 10, 11, 12, 13, 14, 15] Facts.mixed (by kernel_rfl) rfl rfl rfl (by kernel_rfl) (phiT_mono ⟨eq_monoT _ _, eq_monoT _ _, eq_monoT _ _, eq_monoT _ _, eq_monoT _ _, eq_monoT _ _, eq_monoT _ _, eq_monoT _ _, eq_monoT _ _, eq_monoT _ _, eq_monoT _ _, eq_monoT _ _, eq_monoT _ _, eq_monoT _ _, eq_monoT _ _, eq_monoT _ _, trivial⟩) ⟨?_, ?_, ?_, ?_, ?_, ?_, ?_, ?_, ?_, ?_, ?_, ?_, ?_, ?_, ?_, ?_, trivial⟩ ?_
            · intro HX hX X Rest hR
              intro hU
              refine W_move rfl rfl rfl ?_
              exact W_end (OneT_end [] (Hp.le_refl _) ⟨rfl, rfl⟩)
            · intro HX hX X Rest hR
              rintro _ _ ⟨rfl, rfl⟩
              intro hU
              refine W_nilCheck rfl rfl rfl ?_
              exact W_end (OneT_end [] (Hp.le_refl _) ⟨rfl, rfl⟩)
            · intro HX hX X Rest hR
              rintro _ _ ⟨rfl, rfl⟩
              intro hU
              refine W_field (o := 1) rfl rfl Proofs.Try.runUnderlying58 rfl Proofs.Try.sizeOf35 rfl rfl rfl ?_
              exact W_end (OneT_end [] (Hp.le_refl _) ⟨rfl, rfl⟩)
            · intro HX hX X Rest hR
              rintro _ _ ⟨rfl, rfl⟩
              intro hU
              refine W_load rfl rfl Proofs.Try.isAgg35 rfl (own_at (hR _ (List.mem_cons_of_mem _ (List.mem_cons_of_mem _ (List.mem_cons_of_mem _ (List.mem_cons_of_mem _ (List.mem_cons_self ..)))))) rfl) ?_
              exact W_end (OneT_end [] (Hp.le_refl _) ⟨rfl, rfl⟩)
            · intro HX hX X Rest hR
              intro hU
              refine W_move rfl rfl rfl ?_
              exact W_end (OneT_end [] (Hp.le_refl _) ⟨rfl, rfl⟩)
            · intro HX hX X Rest hR
              rintro _ _ ⟨rfl, rfl⟩
              rintro _ _ ⟨rfl, rfl⟩
              intro hU
              refine W_indexO (hR _ (List.mem_cons_self ..)) rfl rfl Proofs.Try.runUnderlying35 Proofs.Try.sizeOf3 rfl rfl h497 (List.getElem?_eq_some_iff.1 he498).1 ?_
              exact W_end (OneT_end [] (Hp.le_refl _) ⟨rfl, rfl⟩)
            · intro HX hX X Rest hR
              rintro _ _ ⟨rfl, rfl⟩
              intro hU
              refine W_load rfl rfl Proofs.Try.isAgg3 rfl (row_one0 (hR _ (List.mem_cons_self ..)) hg499 rfl) ?_
              exact W_end (OneT_end [] (Hp.le_refl _) ⟨rfl, rfl⟩)
            · intro HX hX X Rest hR
              intro hU
              refine W_field (o := 1) rfl rfl Proofs.Try.runUnderlying43 rfl Proofs.Try.sizeOf3 rfl rfl rfl ?_
              exact W_end (OneT_end [] (Hp.le_refl _) ⟨rfl, rfl⟩)
            · intro HX hX X Rest hR
              rintro _ _ ⟨rfl, rfl⟩
              intro hU
              refine W_load rfl rfl Proofs.Try.isAgg3 rfl (own_at (hR _ (List.mem_cons_of_mem _ (List.mem_cons_self ..))) rfl) ?_
              exact W_end (OneT_end [] (Hp.le_refl _) ⟨rfl, rfl⟩)
            · intro HX hX X Rest hR
              rintro _ _ ⟨rfl, rfl⟩
              rintro _ _ ⟨rfl, rfl⟩
              intro hU
              refine W_bin rfl rfl rfl rfl rfl ?_
              exact W_end (OneT_end [] (Hp.le_refl _) ⟨rfl, (by rw [hb500]; try rfl)⟩)
            · intro HX hX X Rest hR
              rintro _ _ ⟨rfl, rfl⟩
              intro hU
              refine W_move rfl rfl rfl ?_
              exact W_end (OneT_end [] (Hp.le_refl _) ⟨rfl, rfl⟩)
            · intro HX hX X Rest hR
              rintro _ _ ⟨rfl, rfl⟩
              intro hU
              refine W_move rfl rfl rfl ?_
              exact W_end (OneT_end [] (Hp.le_refl _) ⟨rfl, rfl⟩)
            · intro HX hX X Rest hR
              rintro _ _ ⟨rfl, rfl⟩
              rintro _ _ ⟨rfl, rfl⟩
              intro hU
              refine W_nilCheck rfl rfl rfl ?_
              exact W_end (OneT_end [] (Hp.le_refl _) ⟨rfl, rfl⟩)
            · intro HX hX X Rest hR
              rintro _ _ ⟨rfl, rfl⟩
              rintro _ _ ⟨rfl, rfl⟩
              intro hU
              refine W_field (o := 2) rfl rfl Proofs.Try.runUnderlying58 rfl Proofs.Try.sizeOf35 rfl rfl rfl ?_
              exact W_end (OneT_end [] (Hp.le_refl _) ⟨rfl, rfl⟩)
            · intro HX hX X Rest hR
              rintro _ _ ⟨rfl, rfl⟩
              rintro _ _ ⟨rfl, rfl⟩
              intro hU
              refine W_load rfl rfl Proofs.Try.isAgg35 rfl (own_at (hR _ (List.mem_cons_of_mem _ (List.mem_cons_of_mem _ (List.mem_cons_of_mem _ (List.mem_cons_of_mem _ (List.mem_cons_self ..)))))) rfl) ?_
              exact W_end (OneT_end [] (Hp.le_refl _) ⟨rfl, rfl⟩)
            · intro HX hX X Rest hR
              rintro _ _ ⟨rfl, rfl⟩
              intro hU
              refine W_move rfl rfl rfl ?_
              exact W_end (OneT_end [] (Hp.le_refl _) ⟨rfl, rfl⟩)
            intro H503 hle504
            rintro _ _ ⟨rfl, rfl⟩
            rintro _ _ ⟨rfl, rfl⟩
            rintro _ _ ⟨rfl, rfl⟩
            rintro _ _ ⟨rfl, rfl⟩
            rintro _ _ ⟨rfl, rfl⟩
            rintro _ _ ⟨rfl, rfl⟩
            rintro _ _ ⟨rfl, rfl⟩
            rintro _ _ ⟨rfl, rfl⟩
            rintro _ _ ⟨rfl, rfl⟩
            rintro _ _ ⟨rfl, rfl⟩
            rintro _ _ ⟨rfl, rfl⟩
            rintro _ _ ⟨rfl, rfl⟩
            rintro _ _ ⟨rfl, rfl⟩
            rintro _ _ ⟨rfl, rfl⟩
            rintro _ _ ⟨rfl, rfl⟩
            rintro _ _ ⟨rfl, rfl⟩
            refine W_perm (List.Perm.trans (List.Perm.cons _ (List.Perm.cons _ (List.Perm.swap _ _ _))) (List.Perm.trans (List.Perm.cons _ (List.Perm.swap _ _ _)) (List.Perm.swap _ _ _))) ?_
            obtain ⟨r505, hc506, hm⟩ := bind_some hm
            refine W_call Proofs.Try.call33 rfl rfl rfl (fun w ht => by obtain ⟨H0_, hl0_, ht0_, hr0_, bk0_⟩ := ht.lendRow ((hr388.mono hle487).mono hle504) rfl; have h := m_slices_Contains_int_int_c (hm := hc506) hr0_ ht0_; exact lend_back bk0_ (h)) ?_
            rintro _ _ _ ⟨rfl, ⟨_, rfl, rfl, rfl⟩⟩
            refine W_un rfl rfl rfl rfl ?_
            refine W_pick rfl rfl rfl rfl ?_
            refine W_end ?_
            refine E_then ?_
            refine C_cond (b := !r505) rfl (fun hb507 => ?_) (fun hb507 => ?_)
            · have hm := ite_t' hb507 hm
              refine C_seq ?_
              refine C_region ?_
              refine W_move rfl rfl rfl ?_
              refine W_move rfl rfl rfl ?_
              refine W_nilCheck rfl rfl rfl ?_
              refine W_field (o := 2) rfl rfl Proofs.Try.runUnderlying58 rfl Proofs.Try.sizeOf35 rfl rfl rfl ?_
              refine W_load rfl rfl Proofs.Try.isAgg35 rfl (own_at (List.mem_cons_of_mem _ (List.mem_cons_of_mem _ (List.mem_cons_of_mem _ (List.mem_cons_of_mem _ (List.mem_cons_self ..))))) rfl) ?_
              refine W_move rfl rfl rfl ?_
              refine W_buildSlice (α := Int) (css := [[.int .i64 ((k102 : Int))]]) (zs := [.int .i64 (0)]) (out := [.int .i64 ((k102 : Int))]) (ys := [((k102 : Int))]) rfl rfl rfl ⟨rfl, trivial⟩ Proofs.Try.runUnderlying35 Proofs.Try.sizeOf3 rfl Proofs.Try.zeroValue3 (by kernel_rfl) rfl rfl rfl rfl ⟨[.int .i64 ((k102 : Int))], [], rfl, rfl, rfl⟩ rfl ?_
              intro b508 v509 H510 hv511 hle512 h513
              have hc514 : Value.cap' v509 = ([((k102 : Int))]).length := by rw [hv511]; rfl
              obtain ⟨hz515, hm⟩ := need_some hm
              refine W_appendO (α := Int) (l := l387) (ys := [((k102 : Int))]) rfl rfl Proofs.Try.underlying35 ⟨_, rfl, rfl, rfl, rfl⟩ rfl rfl rfl rfl rfl (((hr388.mono hle487).mono hle504).mono hle512) h513 hz515 ?_
              intro v516 xs517 hr518
              refine W_nilCheck rfl rfl rfl ?_
              refine W_field (o := 2) rfl rfl Proofs.Try.runUnderlying58 rfl Proofs.Try.sizeOf35 rfl rfl rfl ?_
              refine W_perm (List.Perm.trans (List.Perm.cons _ (List.Perm.cons _ (List.Perm.cons _ (List.Perm.swap _ _ _)))) (List.Perm.trans (List.Perm.cons _ (List.Perm.cons _ (List.Perm.swap _ _ _))) (List.Perm.trans (List.Perm.cons _ (List.Perm.swap _ _ _)) (List.Perm.swap _ _ _)))) ?_
              refine W_store (cs := [v516]) (out := [v0, v1, v516]) rfl Proofs.Try.sizeOf35 rfl rfl (Rw.cells hr518) rfl rfl (all_cons (Rw.one hr518) all_nil) rfl ?_
              refine W_end ?_
              refine E_then ?_
              refine C_region ?_
              refine W_move rfl rfl rfl ?_
              refine W_field (o := 2) rfl rfl Proofs.Try.runUnderlying43 rfl Proofs.Try.sizeOf39 rfl rfl rfl ?_
              refine W_load rfl rfl Proofs.Try.isAgg39 rfl (own_at (List.mem_cons_of_mem _ (List.mem_cons_of_mem _ (List.mem_cons_of_mem _ (List.mem_cons_self ..)))) rfl) ?_
              obtain ⟨hz519, hm⟩ := need_some hm
              refine W_perm (List.Perm.trans (List.Perm.cons _ (List.Perm.cons _ (List.Perm.cons _ (List.Perm.swap _ _ _)))) (List.Perm.trans (List.Perm.cons _ (List.Perm.cons _ (List.Perm.swap _ _ _))) (List.Perm.trans (List.Perm.cons _ (List.Perm.swap _ _ _)) (List.Perm.swap _ _ _)))) ?_
              refine W_appendO (α := ByteArray) (l := l379) (ys := y394.Loads) rfl rfl Proofs.Try.underlying39 ⟨_, rfl, rfl, rfl, rfl⟩ rfl rfl rfl rfl rfl (((hr380.mono hle487).mono hle504).mono hle512) ((((h471.mono hle390).mono hle487).mono hle504).mono hle512) hz519 ?_
              intro v520 xs521 hr522
              refine W_assign rfl rfl rfl ?_
              refine W_end ?_
              refine E_normal_block ?_
              refine E_drop (List.Sublist.cons_cons _ (List.Sublist.cons_cons _ (List.Sublist.cons_cons _ (List.Sublist.cons_cons _ (List.Sublist.cons _ (List.Sublist.refl _)))))) ?_
              exact E_keepJ (J468 _ _ _ ⟨(l379 ++ y394.Loads), (l383.set (((k102 : Int) : Int).toNat) (min (IntKind.i64.wrap (y482 + 1)) y394.Wait)), (l387 ++ ([((k102 : Int))])), v520, xs521, xs495, v516, xs517, hm, hr522, ((hr492.mono hle504).mono hle512), hr518, (Hp.le_trans (Hp.le_trans hle487 hle504) hle512), rfl, rfl⟩) (List.Perm.trans (List.Perm.cons _ (List.Perm.cons _ (List.Perm.swap _ _ _))) (List.Perm.trans (List.Perm.cons _ (List.Perm.swap _ _ _)) (List.Perm.cons _ (List.Perm.cons _ (List.Perm.swap _ _ _))))) ⟨rfl, rfl, rfl, rfl, rfl, rfl, trivial⟩
            · have hm := ite_f' hb507 hm
              refine C_skip ?_
              refine E_normal_block ?_
              refine E_drop (List.Sublist.cons_cons _ (List.Sublist.cons_cons _ (List.Sublist.cons _ (List.Sublist.refl _)))) ?_
              exact E_keepJ (J468 _ _ _ ⟨l379, (l383.set (((k102 : Int) : Int).toNat) (min (IntKind.i64.wrap (y482 + 1)) y394.Wait)), l387, v377, xs378, xs495, v385, xs386, hm, ((hr380.mono hle487).mono hle504), (hr492.mono hle504), ((hr388.mono hle487).mono hle504), (Hp.le_trans hle487 hle504), rfl, rfl⟩) (List.Perm.trans (List.Perm.cons _ (List.Perm.swap _ _ _)) (List.Perm.trans (List.Perm.swap _ _ _) (List.Perm.cons _ (List.Perm.swap _ _ _)))) ⟨rfl, rfl, rfl, rfl, rfl, rfl, trivial⟩
    · obtain rfl := rng_f hd397 hb399
      have hm : (some (l379, 0, (S_shed_Shed.mk p0_s.stages l383 l387))) = some r := hm
      refine C_exit (E_exit_then ?_)
      refine E_exit_then ?_
      refine E_exit_hit ?_
      refine E_then ?_
      refine C_seq ?_
      refine C_region ?_
      refine W_move rfl rfl rfl ?_
      refine W_assign rfl rfl rfl ?_
      refine W_assign rfl rfl rfl ?_
      refine W_end ?_
      refine E_then ?_
      refine C_ret ?_
      obtain rfl := Option.some.inj hm
      refine E_perm (List.Perm.trans (List.Perm.cons _ (List.Perm.cons _ (List.Perm.swap _ _ _))) (List.Perm.cons _ (List.Perm.swap _ _ _))) ?_
      exact end2 rfl rfl rfl ⟨hle390, v377, xs378, v0, v1, xs382, v385, xs386, rfl, rfl, hr380, (h0.mono hle390), hr384, hr388⟩

theorem m_slices_Equal_string_string_c {B : Nat} {w0 w : World} {H : Hp} {M : List Res} {p0_s1 : (List ByteArray)} {p1_s2 : (List ByteArray)} {v0 : Value} {v1 : Value} {r : Bool} (hm : m_slices_Equal_string_string p0_s1 p1_s2 = some r) (h0 : RdS H v0 p0_s1) (h1 : RdS H v1 p1_s2) (ht : St B w0 H (M) w) :
    Calls Proofs.Try.prog 22 [v0, v1].toArray w (Ret B w0 fun H' M' v => H = H' ∧ M = M' ∧ .bool (r) = v) := by
  unfold m_slices_Equal_string_string at hm
  refine enter Proofs.Try.func22 rfl rfl rfl ht ?_
  refine C_seq ?_
  refine C_region ?_
  refine W_assign rfl rfl rfl ?_
  refine W_end ?_
  refine E_then ?_
  refine C_seq ?_
  refine C_seq ?_
  refine C_region ?_
  refine W_move rfl rfl rfl ?_
  refine W_lenR rfl rfl Proofs.Try.runUnderlying39 rfl h0 ?_
  refine W_move rfl rfl rfl ?_
  refine W_lenR rfl rfl Proofs.Try.runUnderlying39 rfl h1 ?_
  refine W_bin rfl rfl rfl rfl rfl ?_
  refine W_end ?_
  refine E_then ?_
  refine C_cond (b := !decide ((p0_s1.length : Int) = (p1_s2.length : Int))) rfl (fun hb101 => ?_) (fun hb101 => ?_)
  · have hm := ite_t' hb101 hm
    refine C_seq ?_
    refine C_region ?_
    refine W_assign rfl rfl rfl ?_
    refine W_end ?_
    refine E_then ?_
    refine C_ret ?_
    refine E_ret_then ?_
    obtain rfl := Option.some.inj hm
    refine E_weak (Hp.le_refl _) ?_
    exact end1 rfl rfl ⟨rfl, rfl, rfl⟩
  · have hm := ite_f' hb101 hm
    refine C_skip ?_
    refine E_then ?_
    refine C_seq ?_
    refine C_seq ?_
    refine C_region ?_
    refine W_move rfl rfl rfl ?_
    refine W_lenR rfl rfl Proofs.Try.runUnderlying39 rfl h0 ?_
    refine W_move rfl rfl rfl ?_
    refine W_end ?_
    refine E_then ?_
    refine C_block ?_
    refine C_keep (L' := [(0, v0), (1, v1), (12, .int .i64 ((p0_s1.length : Int))), (13, .int .i64 (((0 : Nat) : Int)))]) ⟨rfl, rfl, rfl, rfl, trivial⟩ (List.Perm.refl _) ?_
    refine C_loop (fun n H' M' L' => ∃ (k102 : Nat) (zs135' : Nat), k102 + zs135' = ((p0_s1.length : Int) : Int).toNat ∧ zs135' = n ∧ forN (fun k s n => m_slices_Equal_string_string_b1 p0_s1 p1_s2 k n) (fun _ => some true) zs135' k102 () = some r ∧ H.le H' ∧ M = M' ∧ [(0, v0), (1, v1), (12, .int .i64 ((p0_s1.length : Int))), (13, .int .i64 ((k102 : Int)))] = L') _ ⟨0, _, Nat.zero_add _, rfl, hm, (Hp.le_refl _), rfl, rfl⟩ ?_
    rintro _ H129 _ _ ⟨k102, zs135', hd137, rfl, hm, hle130, rfl, rfl⟩
    refine C_seq ?_
    refine C_region ?_
    refine W_bin rfl rfl rfl rfl rfl ?_
    refine W_end (E_then ?_)
    refine C_seq ?_
    refine C_cond (b := decide ((k102 : Int) < (p0_s1.length : Int))) rfl (fun hb139 => ?_) (fun hb139 => ?_)
    · obtain ⟨zs135, rfl, hd138, hy136⟩ := rngN_t hd137 hb139
      have hm : m_slices_Equal_string_string_b1 p0_s1 p1_s2 k102 (forN (fun k s n => m_slices_Equal_string_string_b1 p0_s1 p1_s2 k n) (fun _ => some true) zs135 (k102 + 1)) = some r := hm
      generalize hn132 : forN (fun k s n => m_slices_Equal_string_string_b1 p0_s1 p1_s2 k n) (fun _ => some true) zs135 (k102 + 1) = nx131 at hm
      unfold m_slices_Equal_string_string_b1 at hm
      refine C_skip (E_then ?_)
      refine C_seq ?_
      refine C_block ?_
      refine C_seq ?_
      refine C_region ?_
      refine W_move rfl rfl rfl ?_
      refine W_assign rfl rfl rfl ?_
      refine W_end ?_
      refine E_then ?_
      refine C_seq ?_
      obtain ⟨y140, h141, he142, hm⟩ := idx_some hm
      obtain ⟨_, rfl, hc143⟩ := (h0).elem he142
      obtain ⟨y144, h145, he146, hm⟩ := idx_some hm
      obtain ⟨_, rfl, hc147⟩ := (h1).elem he146
      refine C_region_tok0 8 (phiT [(fun H rs v => [] = rs ∧ v0 = v), (fun H rs v => [] = rs ∧ .int .i64 ((k102 : Int)) = v), (fun H rs v => [] = rs ∧ .pointer (some ((Value.base (v0)).add (((k102 : Int) : Int).toNat * 1))) = v), (fun H rs v => [] = rs ∧ .string (y140) = v), (fun H rs v => [] = rs ∧ v1 = v), (fun H rs v => [] = rs ∧ .int .i64 ((k102 : Int)) = v), (fun H rs v => [] = rs ∧ .pointer (some ((Value.base (v1)).add (((k102 : Int) : Int).toNat * 1))) = v), (fun H rs v => [] = rs ∧ .string (y144) = v)]) [[], [], [], [], [], [], [], []] [[], [], [], [], [], [], [], []] [] [0, 1, 2, 3, 4, 5, 6, 7] Facts.mixed (by kernel_rfl) rfl rfl rfl (by kernel_rfl) (phiT_mono ⟨eq_monoT _ _, eq_monoT _ _, eq_monoT _ _, eq_monoT _ _, eq_monoT _ _, eq_monoT _ _, eq_monoT _ _, eq_monoT _ _, trivial⟩) ⟨?_, ?_, ?_, ?_, ?_, ?_, ?_, ?_, trivial⟩ ?_
      · intro HX hX X Rest hR
        intro hU
        refine W_move rfl rfl rfl ?_
        exact W_end (OneT_end [] (Hp.le_refl _) ⟨rfl, rfl⟩)
      · intro HX hX X Rest hR
        intro hU
        refine W_move rfl rfl rfl ?_
        exact W_end (OneT_end [] (Hp.le_refl _) ⟨rfl, rfl⟩)
      · intro HX hX X Rest hR
        rintro _ _ ⟨rfl, rfl⟩
        rintro _ _ ⟨rfl, rfl⟩
        intro hU
        refine W_indexS rfl rfl Proofs.Try.runUnderlying39 Proofs.Try.sizeOf9 rfl ((h0.mono hle130).mono hX) rfl h141 he142 ?_
        exact W_end (OneT_end [] (Hp.le_refl _) ⟨rfl, rfl⟩)
      · intro HX hX X Rest hR
        rintro _ _ ⟨rfl, rfl⟩
        intro hU
        refine W_load rfl rfl Proofs.Try.isAgg9 rfl (HCells.one ((hc143.mono hle130).mono hX) 0 rfl).at ?_
        exact W_end (OneT_end [] (Hp.le_refl _) ⟨rfl, rfl⟩)
      · intro HX hX X Rest hR
        intro hU
        refine W_move rfl rfl rfl ?_
        exact W_end (OneT_end [] (Hp.le_refl _) ⟨rfl, rfl⟩)
      · intro HX hX X Rest hR
        intro hU
        refine W_move rfl rfl rfl ?_
        exact W_end (OneT_end [] (Hp.le_refl _) ⟨rfl, rfl⟩)
      · intro HX hX X Rest hR
        rintro _ _ ⟨rfl, rfl⟩
        rintro _ _ ⟨rfl, rfl⟩
        intro hU
        refine W_indexS rfl rfl Proofs.Try.runUnderlying39 Proofs.Try.sizeOf9 rfl ((h1.mono hle130).mono hX) rfl h145 he146 ?_
        exact W_end (OneT_end [] (Hp.le_refl _) ⟨rfl, rfl⟩)
      · intro HX hX X Rest hR
        rintro _ _ ⟨rfl, rfl⟩
        intro hU
        refine W_load rfl rfl Proofs.Try.isAgg9 rfl (HCells.one ((hc147.mono hle130).mono hX) 0 rfl).at ?_
        exact W_end (OneT_end [] (Hp.le_refl _) ⟨rfl, rfl⟩)
      intro H148 hle149
      rintro _ _ ⟨rfl, rfl⟩
      rintro _ _ ⟨rfl, rfl⟩
      rintro _ _ ⟨rfl, rfl⟩
      rintro _ _ ⟨rfl, rfl⟩
      rintro _ _ ⟨rfl, rfl⟩
      rintro _ _ ⟨rfl, rfl⟩
      rintro _ _ ⟨rfl, rfl⟩
      rintro _ _ ⟨rfl, rfl⟩
      refine W_bin rfl rfl rfl rfl rfl ?_
      refine W_end ?_
      refine E_then ?_
      refine C_cond (b := !decide (y140 = y144)) rfl (fun hb150 => ?_) (fun hb150 => ?_)
      · have hm := ite_t' hb150 hm
        refine C_seq ?_
        refine C_region ?_
        refine W_assign rfl rfl rfl ?_
        refine W_end ?_
        refine E_then ?_
        refine C_ret ?_
        refine E_ret_block ?_
        refine E_ret_then ?_
        refine E_ret_then ?_
        refine E_ret_block ?_
        refine E_ret_then ?_
        obtain rfl := Option.some.inj hm
        refine E_weak (Hp.le_trans hle130 hle149) ?_
        exact end1 rfl rfl ⟨rfl, rfl, rfl⟩
      · have hm := ite_f' hb150 hm
        refine C_skip ?_
        refine E_normal_block ?_
        refine E_then ?_
        refine C_region ?_
        refine W_bin rfl rfl rfl rfl rfl ?_
        refine W_move rfl rfl rfl ?_
        refine W_end ?_
        exact E_keepJ (E_back (Nat.lt_succ_self _) ⟨k102 + 1, zs135, hd138, rfl, (by rw [hn132]; exact hm), (Hp.le_trans hle130 hle149), rfl, rfl⟩) (List.Perm.refl _) ⟨rfl, rfl, rfl, (congrArg (fun z => some (Value.int .i64 z)) (i64_succN hy136 (toNat_max (len_max (h0).lenMax)))), trivial⟩
    · obtain rfl := rngN_f hd137 hb139
      have hm : (some true) = some r := hm
      refine C_exit (E_exit_then ?_)
      refine E_exit_then ?_
      refine E_exit_hit ?_
      refine E_then ?_
      refine C_seq ?_
      refine C_region ?_
      refine W_assign rfl rfl rfl ?_
      refine W_end ?_
      refine E_then ?_
      refine C_ret ?_
      obtain rfl := Option.some.inj hm
      refine E_weak hle130 ?_
      exact end1 rfl rfl ⟨rfl, rfl, rfl⟩

theorem m_gridhallkeep4_shedFact_c {B : Nat} {w0 w : World} {H : Hp} {M : List Res} {r : Bool} (hm : m_gridhallkeep4_shedFact = some r) (ht : St B w0 H (M) w) :
    Calls Proofs.Try.prog 16 [].toArray w (Ret B w0 fun H' M' v => H = H' ∧ M = M' ∧ .bool (r) = v) := by
  unfold m_gridhallkeep4_shedFact at hm
  refine enter Proofs.Try.func16 rfl rfl rfl ht ?_
  refine C_seq ?_
  refine C_region ?_
  refine W_assign rfl rfl rfl ?_
  refine W_end ?_
  refine E_then ?_
  refine C_seq ?_
  refine C_region ?_
  refine W_buildSliceO (α := ByteArray) (css := [[.string (⟨#[65]⟩)]]) (zs := [.string (⟨#[]⟩)]) (out := [.string (⟨#[65]⟩)]) (ys := [(⟨#[65]⟩)]) rfl rfl rfl ⟨rfl, trivial⟩ Proofs.Try.runUnderlying39 Proofs.Try.sizeOf9 rfl Proofs.Try.zeroValue9 (by kernel_rfl) rfl rfl rfl rfl ⟨[.string (⟨#[65]⟩)], [], rfl, rfl, rfl⟩ rfl ?_
  intro v101 xs102 hr103
  refine W_build (css := [[.int .i64 ((-200))], [.int .i64 (2)], [v101]]) (zs := [.int .i64 (0), .int .i64 (0), .slice none 0 0]) (out := [.int .i64 ((-200)), .int .i64 (2), v101]) (places := [(0, 1), (1, 1), (2, 1)]) rfl rfl rfl ⟨rfl, rfl, (Rw.cells hr103), trivial⟩ Proofs.Try.zeroValue43 rfl Proofs.Try.runUnderlying43 (fun w => by kernel_rfl) rfl ?_
  refine W_freeze (hr103).rd rfl (fun H104 hle105 h106 => ?_)
  refine W_buildSliceO (α := S_api_ShedStage) (css := [[.int .i64 ((-200)), .int .i64 (2), v101]]) (zs := [.int .i64 (0), .int .i64 (0), .slice none 0 0]) (out := [.int .i64 ((-200)), .int .i64 (2), v101]) (ys := [(S_api_ShedStage.mk ((-200)) 2 ([(⟨#[65]⟩)]))]) rfl rfl rfl ⟨rfl, trivial⟩ Proofs.Try.runUnderlying34 Proofs.Try.sizeOf43 rfl Proofs.Try.zeroValue43 (by kernel_rfl) rfl rfl rfl rfl ⟨[.int .i64 ((-200)), .int .i64 (2), v101], [], rfl, ⟨v101, rfl, h106⟩, rfl⟩ rfl ?_
  intro v107 xs108 hr109
  refine W_freeze (hr109).rd rfl (fun H110 hle111 h112 => ?_)
  obtain ⟨r113, hc114, hm⟩ := bind_some hm
  refine W_call Proofs.Try.call15 rfl rfl rfl (fun w ht => by have h := m_shed_New_c (hm := hc114) h112 ht; exact h) ?_
  rintro _ H131 _ (⟨hn125, hle127, rfl, rfl⟩ | ⟨sp115, hn128, hle130, b116, v117, v119, xs120, v122, xs123, rfl, rfl, h118, h121, h124⟩)
  · have hm := optC_n hn125 hm
    refine W_move rfl rfl rfl ?_
    refine W_extract rfl rfl rfl rfl ?_
    refine W_extract rfl rfl rfl rfl ?_
    refine W_assign rfl rfl rfl ?_
    refine W_assign rfl rfl rfl ?_
    refine W_end ?_
    refine E_then ?_
    refine C_seq ?_
    refine C_seq_join (fun H' M' L' => H131 = H' ∧ M = M' ∧ [(1, .pointer none), (19, .bool (true))] = L') ?_ (fun J133 => ?_)
    · rintro _ _ _ ⟨rfl, rfl, rfl⟩
      refine C_cond (b := true) rfl (fun _ => ?_) (fun hb => Bool.noConfusion hb)
      refine C_seq ?_
      refine C_region ?_
      refine W_assign rfl rfl rfl ?_
      refine W_end ?_
      refine E_then ?_
      refine C_ret ?_
      refine E_ret_then ?_
      obtain rfl := Option.some.inj hm
      refine E_weak (Hp.le_trans (Hp.le_trans hle105 hle111) hle127) ?_
      exact end1 rfl rfl ⟨rfl, rfl, rfl⟩
    · refine C_region ?_
      refine W_move rfl rfl rfl ?_
      refine W_bin rfl rfl rfl rfl rfl ?_
      refine W_move rfl rfl rfl ?_
      cases hb134 : (decide (r113.2 = 0))
      · refine W_no rfl rfl rfl ?_
        refine W_no rfl rfl rfl ?_
        refine W_pick rfl rfl rfl rfl ?_
        refine W_end ?_
        exact E_keepJ (J133 _ _ _ ⟨rfl, rfl, rfl⟩) (List.Perm.refl _) ⟨rfl, rfl, trivial⟩
      · refine W_move rfl rfl rfl ?_
        refine W_ptrNil rfl rfl Proofs.Try.runUnderlying36 rfl rfl ?_
        refine W_pick rfl rfl rfl rfl ?_
        refine W_end ?_
        exact E_keepJ (J133 _ _ _ ⟨rfl, rfl, rfl⟩) (List.Perm.refl _) ⟨rfl, rfl, trivial⟩
  · have hm := optC_s hn128 hm
    refine W_move rfl rfl rfl ?_
    refine W_extract rfl rfl rfl rfl ?_
    refine W_extract rfl rfl rfl rfl ?_
    refine W_assign rfl rfl rfl ?_
    refine W_assign rfl rfl rfl ?_
    refine W_end ?_
    refine E_then ?_
    refine C_seq ?_
    refine C_seq_join (fun H' M' L' => H131 = H' ∧ .obj b116 (.cells [v117, v119, v122].toArray 58 (0, 0)) :: .row v119 3 (Rep.sz Int) sp115.count.length xs120 :: .row v122 3 (Rep.sz Int) sp115.acted.length xs123 :: M = M' ∧ [(1, .pointer (some ⟨b116, 0, none⟩)), (19, .bool (!decide (r113.2 = 0)))] = L') ?_ (fun J136 => ?_)
    · rintro _ _ _ ⟨rfl, rfl, rfl⟩
      refine C_cond (b := !decide (r113.2 = 0)) rfl (fun hb137 => ?_) (fun hb137 => ?_)
      · have hm := ite_t' hb137 hm
        refine C_seq ?_
        refine C_region ?_
        refine W_assign rfl rfl rfl ?_
        refine W_end ?_
        refine E_then ?_
        refine C_ret ?_
        refine E_ret_then ?_
        obtain rfl := Option.some.inj hm
        refine E_drop (List.Sublist.cons _ (List.Sublist.cons _ (List.Sublist.cons _ (List.Sublist.refl _)))) ?_
        refine E_weak (Hp.le_trans (Hp.le_trans hle105 hle111) hle130) ?_
        exact end1 rfl rfl ⟨rfl, rfl, rfl⟩
      · have hm := ite_f' hb137 hm
        refine C_skip ?_
        refine E_then ?_
        refine C_seq ?_
        refine C_region ?_
        refine W_move rfl rfl rfl ?_
        obtain ⟨r138, hc139, hm⟩ := bind_some hm
        refine W_call Proofs.Try.call17 rfl rfl rfl (fun w ht => by have h := m_shed_Shed_Step_c (hm := hc139) h118 h121 h124 ht; exact h) ?_
        rintro _ H152 _ ⟨hle153, v140, xs141, v144, v146, xs147, v149, xs150, rfl, rfl, h142, h145, h148, h151⟩
        refine W_move rfl rfl rfl ?_
        refine W_extract rfl rfl rfl rfl ?_
        refine W_extract rfl rfl rfl rfl ?_
        refine W_assign rfl rfl rfl ?_
        refine W_assign rfl rfl rfl ?_
        refine W_end ?_
        refine E_then ?_
        refine C_seq ?_
        refine C_region ?_
        refine W_move rfl rfl rfl ?_
        refine W_perm (List.Perm.trans (List.Perm.swap _ _ _) (List.Perm.trans (List.Perm.cons _ (List.Perm.swap _ _ _)) (List.Perm.cons _ (List.Perm.cons _ (List.Perm.swap _ _ _))))) ?_
        obtain ⟨r154, hc155, hm⟩ := bind_some hm
        refine W_call Proofs.Try.call17 rfl rfl rfl (fun w ht => by have h := m_shed_Shed_Step_c (hm := hc155) h145 h148 h151 ht; exact h) ?_
        rintro _ H168 _ ⟨hle169, v156, xs157, v160, v162, xs163, v165, xs166, rfl, rfl, h158, h161, h164, h167⟩
        refine W_move rfl rfl rfl ?_
        refine W_extract rfl rfl rfl rfl ?_
        refine W_extract rfl rfl rfl rfl ?_
        refine W_assign rfl rfl rfl ?_
        refine W_assign rfl rfl rfl ?_
        refine W_end ?_
        refine E_then ?_
        refine C_seq ?_
        refine C_region ?_
        refine W_move rfl rfl rfl ?_
        refine W_bin rfl rfl rfl rfl rfl ?_
        refine W_move rfl rfl rfl ?_
        cases hb170 : (decide (r138.2.1 = 0))
        · have hm := ite_f' hb170 hm
          refine W_no rfl rfl rfl ?_
          refine W_no rfl rfl rfl ?_
          refine W_pick rfl rfl rfl rfl ?_
          refine W_move rfl rfl rfl ?_
          refine W_no rfl rfl rfl ?_
          refine W_no rfl rfl rfl ?_
          refine W_no rfl rfl rfl ?_
          refine W_pick rfl rfl rfl rfl ?_
          refine W_move rfl rfl rfl ?_
          refine W_no rfl rfl rfl ?_
          refine W_no rfl rfl rfl ?_
          refine W_no rfl rfl rfl ?_
          refine W_pick rfl rfl rfl rfl ?_
          refine W_assign rfl rfl rfl ?_
          refine W_end ?_
          refine E_then ?_
          refine C_ret ?_
          obtain rfl := Option.some.inj hm
          refine E_drop (List.Sublist.cons _ (List.Sublist.cons _ (List.Sublist.cons _ (List.Sublist.cons _ (List.Sublist.cons _ (List.Sublist.refl _)))))) ?_
          refine E_weak (Hp.le_trans (Hp.le_trans (Hp.le_trans (Hp.le_trans hle105 hle111) hle130) hle153) hle169) ?_
          exact end1 rfl rfl ⟨rfl, rfl, rfl⟩
        · have hm := ite_t' hb170 hm
          refine W_move rfl rfl rfl ?_
          refine W_bin rfl rfl rfl rfl rfl ?_
          refine W_pick rfl rfl rfl rfl ?_
          refine W_move rfl rfl rfl ?_
          cases hb171 : (decide (r154.2.1 = 0))
          · have hm := ite_f' hb171 hm
            refine W_no rfl rfl rfl ?_
            refine W_no rfl rfl rfl ?_
            refine W_no rfl rfl rfl ?_
            refine W_pick rfl rfl rfl rfl ?_
            refine W_move rfl rfl rfl ?_
            refine W_no rfl rfl rfl ?_
            refine W_no rfl rfl rfl ?_
            refine W_no rfl rfl rfl ?_
            refine W_pick rfl rfl rfl rfl ?_
            refine W_assign rfl rfl rfl ?_
            refine W_end ?_
            refine E_then ?_
            refine C_ret ?_
            obtain rfl := Option.some.inj hm
            refine E_drop (List.Sublist.cons _ (List.Sublist.cons _ (List.Sublist.cons _ (List.Sublist.cons _ (List.Sublist.cons _ (List.Sublist.refl _)))))) ?_
            refine E_weak (Hp.le_trans (Hp.le_trans (Hp.le_trans (Hp.le_trans hle105 hle111) hle130) hle153) hle169) ?_
            exact end1 rfl rfl ⟨rfl, rfl, rfl⟩
          · have hm := ite_t' hb171 hm
            refine W_move rfl rfl rfl ?_
            refine W_lenO (List.mem_cons_of_mem _ (List.mem_cons_of_mem _ (List.mem_cons_of_mem _ (List.mem_cons_of_mem _ (List.mem_cons_self ..))))) rfl rfl Proofs.Try.runUnderlying39 rfl ?_
            refine W_bin rfl rfl rfl rfl rfl ?_
            refine W_pick rfl rfl rfl rfl ?_
            refine W_move rfl rfl rfl ?_
            cases hb172 : (decide ((r138.1.length : Int) = 0))
            · have hm := ite_f' hb172 hm
              refine W_no rfl rfl rfl ?_
              refine W_no rfl rfl rfl ?_
              refine W_no rfl rfl rfl ?_
              refine W_pick rfl rfl rfl rfl ?_
              refine W_assign rfl rfl rfl ?_
              refine W_end ?_
              refine E_then ?_
              refine C_ret ?_
              obtain rfl := Option.some.inj hm
              refine E_drop (List.Sublist.cons _ (List.Sublist.cons _ (List.Sublist.cons _ (List.Sublist.cons _ (List.Sublist.cons _ (List.Sublist.refl _)))))) ?_
              refine E_weak (Hp.le_trans (Hp.le_trans (Hp.le_trans (Hp.le_trans hle105 hle111) hle130) hle153) hle169) ?_
              exact end1 rfl rfl ⟨rfl, rfl, rfl⟩
            · have hm := ite_t' hb172 hm
              refine W_move rfl rfl rfl ?_
              refine W_buildSliceO (α := ByteArray) (css := [[.string (⟨#[65]⟩)]]) (zs := [.string (⟨#[]⟩)]) (out := [.string (⟨#[65]⟩)]) (ys := [(⟨#[65]⟩)]) rfl rfl rfl ⟨rfl, trivial⟩ Proofs.Try.runUnderlying39 Proofs.Try.sizeOf9 rfl Proofs.Try.zeroValue9 (by kernel_rfl) rfl rfl rfl rfl ⟨[.string (⟨#[65]⟩)], [], rfl, rfl, rfl⟩ rfl ?_
              intro v173 xs174 hr175
              refine W_perm (List.Perm.swap _ _ _) ?_
              obtain ⟨r176, hc177, hm⟩ := bind_some hm
              refine W_call Proofs.Try.call22 rfl rfl rfl (fun w ht => by obtain ⟨H0_, hl0_, ht0_, hr0_, bk0_⟩ := ht.lendRow h158 rfl; obtain ⟨H1_, hl1_, ht1_, hr1_, bk1_⟩ := ht0_.lendRow (hr175.mono hl0_) rfl; have h := m_slices_Equal_string_string_c (hm := hc177) (hr0_.mono hl1_) hr1_ ht1_; exact lend_back bk0_ (lend_back bk1_ (h))) ?_
              rintro _ _ _ ⟨rfl, ⟨_, rfl, ⟨_, rfl, rfl, rfl⟩⟩⟩
              refine W_pick rfl rfl rfl rfl ?_
              refine W_assign rfl rfl rfl ?_
              refine W_end ?_
              refine E_then ?_
              refine C_ret ?_
              obtain rfl := Option.some.inj hm
              refine E_drop (List.Sublist.cons _ (List.Sublist.cons _ (List.Sublist.cons _ (List.Sublist.cons _ (List.Sublist.cons _ (List.Sublist.cons _ (List.Sublist.refl _))))))) ?_
              refine E_weak (Hp.le_trans (Hp.le_trans (Hp.le_trans (Hp.le_trans hle105 hle111) hle130) hle153) hle169) ?_
              exact end1 rfl rfl ⟨rfl, rfl, rfl⟩
    · refine C_region ?_
      refine W_move rfl rfl rfl ?_
      refine W_bin rfl rfl rfl rfl rfl ?_
      refine W_move rfl rfl rfl ?_
      cases hb178 : (decide (r113.2 = 0))
      · refine W_no rfl rfl rfl ?_
        refine W_no rfl rfl rfl ?_
        refine W_pick rfl rfl rfl rfl ?_
        refine W_end ?_
        exact E_keepJ (J136 _ _ _ ⟨rfl, rfl, rfl⟩) (List.Perm.refl _) ⟨rfl, (by show some (Value.bool (true)) = some (Value.bool (!decide (r113.2 = 0))); simp only [hb178, Bool.and_true, Bool.true_and, Bool.false_and, Bool.and_false, Bool.or_true, Bool.true_or, Bool.or_false, Bool.false_or, Bool.not_true, Bool.not_false]), trivial⟩
      · refine W_move rfl rfl rfl ?_
        refine W_ptrNil rfl rfl Proofs.Try.runUnderlying36 rfl rfl ?_
        refine W_pick rfl rfl rfl rfl ?_
        refine W_end ?_
        exact E_keepJ (J136 _ _ _ ⟨rfl, rfl, rfl⟩) (List.Perm.refl _) ⟨rfl, (by show some (Value.bool (false)) = some (Value.bool (!decide (r113.2 = 0))); simp only [hb178, Bool.and_true, Bool.true_and, Bool.false_and, Bool.and_false, Bool.or_true, Bool.true_or, Bool.or_false, Bool.false_or, Bool.not_true, Bool.not_false]), trivial⟩

theorem m_gridhallref4_Cut_c {B : Nat} {w0 w : World} {H : Hp} {M : List Res} {p0_n : Int} {p1_low : Int} {p2_high : Int} {r : Int} (hm : m_gridhallref4_Cut p0_n p1_low p2_high = some r) (ht : St B w0 H (M) w) :
    Calls Proofs.Try.prog 9 [.int .i64 (p0_n), .int .i64 (p1_low), .int .i64 (p2_high)].toArray w (Ret B w0 fun H' M' v => H = H' ∧ M = M' ∧ .int .i64 (r) = v) := by
  unfold m_gridhallref4_Cut at hm
  refine enter Proofs.Try.func9 rfl rfl rfl ht ?_
  refine C_seq ?_
  refine C_region ?_
  refine W_assign rfl rfl rfl ?_
  refine W_end ?_
  refine E_then ?_
  refine C_seq ?_
  refine C_region ?_
  refine W_move rfl rfl rfl ?_
  refine W_move rfl rfl rfl ?_
  refine W_bin rfl rfl rfl rfl rfl ?_
  refine W_bin rfl rfl rfl rfl rfl ?_
  refine W_assign rfl rfl rfl ?_
  refine W_end ?_
  refine E_then ?_
  refine C_seq ?_
  refine C_region ?_
  refine W_move rfl rfl rfl ?_
  refine W_move rfl rfl rfl ?_
  obtain ⟨hq101, hm⟩ := need_some hm
  refine W_rem rfl rfl rfl rfl hq101 ?_
  refine W_assign rfl rfl rfl ?_
  refine W_end ?_
  refine E_then ?_
  refine C_seq_join (fun H' M' L' => ∃ n103 : Int, m_gridhallref4_Cut_b1 p1_low n103 = some r ∧ H = H' ∧ M = M' ∧ [(0, .int .i64 (n103)), (1, .int .i64 (p1_low))] = L') ?_ (fun J104 => ?_)
  · rintro _ _ _ ⟨n103, hm, rfl, rfl, rfl⟩
    unfold m_gridhallref4_Cut_b1 at hm
    refine C_seq ?_
    refine C_region ?_
    refine W_move rfl rfl rfl ?_
    refine W_move rfl rfl rfl ?_
    refine W_bin rfl rfl rfl rfl rfl ?_
    refine W_assign rfl rfl rfl ?_
    refine W_end ?_
    refine E_then ?_
    refine C_ret ?_
    obtain rfl := Option.some.inj hm
    refine E_weak (Hp.le_refl _) ?_
    exact end1 rfl rfl ⟨rfl, rfl, rfl⟩
  · refine C_seq ?_
    refine C_region ?_
    refine W_move rfl rfl rfl ?_
    refine W_bin rfl rfl rfl rfl rfl ?_
    refine W_end ?_
    refine E_then ?_
    refine C_cond (b := decide ((Int.tmod p0_n (IntKind.i64.wrap ((IntKind.i64.wrap (p2_high - p1_low)) + 1))) < 0)) rfl (fun hb105 => ?_) (fun hb105 => ?_)
    · have hm := ite_t' hb105 hm
      refine C_region ?_
      refine W_move rfl rfl rfl ?_
      refine W_move rfl rfl rfl ?_
      refine W_bin rfl rfl rfl rfl rfl ?_
      refine W_assign rfl rfl rfl ?_
      refine W_end ?_
      exact E_keepJ (J104 _ _ _ ⟨IntKind.i64.wrap ((Int.tmod p0_n (IntKind.i64.wrap ((IntKind.i64.wrap (p2_high - p1_low)) + 1))) + (IntKind.i64.wrap ((IntKind.i64.wrap (p2_high - p1_low)) + 1))), hm, rfl, rfl, rfl⟩) (List.Perm.refl _) ⟨rfl, rfl, trivial⟩
    · have hm := ite_f' hb105 hm
      refine C_skip ?_
      exact E_keepJ (J104 _ _ _ ⟨Int.tmod p0_n (IntKind.i64.wrap ((IntKind.i64.wrap (p2_high - p1_low)) + 1)), hm, rfl, rfl, rfl⟩) (List.Perm.refl _) ⟨rfl, rfl, trivial⟩

theorem m_shed_Shed_Off_c {B : Nat} {w0 w : World} {H : Hp} {M : List Res} {p0_s : S_shed_Shed} {b0 : Nat} {v0 : Value} {v1 : Value} {xs0 : List Value} {v2 : Value} {xs1 : List Value} {r : (List ByteArray)} (hm : m_shed_Shed_Off p0_s = some r) (h0 : RdS H v0 p0_s.stages) (h1 : Rw H v1 xs0 p0_s.count) (h2 : Rw H v2 xs1 p0_s.acted) (ht : St B w0 H (.obj b0 (.cells [v0, v1, v2].toArray 58 (0, 0)) :: .row v1 3 (Rep.sz Int) p0_s.count.length xs0 :: .row v2 3 (Rep.sz Int) p0_s.acted.length xs1 :: M) w) :
    Calls Proofs.Try.prog 18 [.pointer (some ⟨b0, 0, none⟩)].toArray w (Ret B w0 fun H' M' v => H = H' ∧ ∃ qv0 : Value, ∃ qxs0 : List Value, .row qv0 9 (Rep.sz ByteArray) r.length qxs0 :: .obj b0 (.cells [v0, v1, v2].toArray 58 (0, 0)) :: .row v1 3 (Rep.sz Int) p0_s.count.length xs0 :: .row v2 3 (Rep.sz Int) p0_s.acted.length xs1 :: M = M' ∧ qv0 = v ∧ RwF qv0 qxs0 r) := by
  unfold m_shed_Shed_Off at hm
  refine enter Proofs.Try.func18 rfl rfl rfl ht ?_
  refine C_seq ?_
  refine C_region ?_
  refine W_assign rfl rfl rfl ?_
  refine W_end ?_
  refine E_then ?_
  refine C_seq ?_
  refine C_region ?_
  refine W_assign rfl rfl rfl ?_
  refine W_end ?_
  refine E_then ?_
  refine C_seq ?_
  refine C_seq ?_
  refine C_region ?_
  refine W_move rfl rfl rfl ?_
  refine W_nilCheck rfl rfl rfl ?_
  refine W_field (o := 2) rfl rfl Proofs.Try.runUnderlying58 rfl Proofs.Try.sizeOf35 rfl rfl rfl ?_
  refine W_load rfl rfl Proofs.Try.isAgg35 rfl (own_at (List.mem_cons_self ..) rfl) ?_
  refine W_lenO (List.mem_cons_of_mem _ (List.mem_cons_of_mem _ (List.mem_cons_self ..))) rfl rfl Proofs.Try.runUnderlying35 rfl ?_
  refine W_move rfl rfl rfl ?_
  refine W_end ?_
  refine E_then ?_
  refine C_block ?_
  refine C_rowMax (List.mem_cons_of_mem _ (List.mem_cons_of_mem _ (List.mem_cons_self ..))) (fun hmx141 => ?_)
  refine C_nilRow 9 (Rep.sz ByteArray) ?_
  refine C_keep (L' := [(0, .pointer (some ⟨b0, 0, none⟩)), (3, (.slice none 0 0)), (9, v2), (10, .int .i64 ((p0_s.acted.length : Int))), (11, .int .i64 (((0 : Nat) : Int)))]) ⟨rfl, rfl, rfl, rfl, rfl, trivial⟩ (List.Perm.refl _) ?_
  refine C_loop (fun n H' M' L' => ∃ (k101 : Nat) (zs143' : List Int), ∃ l134 : List ByteArray, ∃ v132 : Value, ∃ xs133 : List Value, (p0_s.acted).drop k101 = zs143' ∧ zs143'.length = n ∧ forI (fun k y s n => m_shed_Shed_Off_b1 p0_s k y s n) (fun s => some s) k101 zs143' l134 = some r ∧ Rw H' v132 xs133 l134 ∧ H.le H' ∧ .row v132 9 (Rep.sz ByteArray) l134.length xs133 :: .obj b0 (.cells [v0, v1, v2].toArray 58 (0, 0)) :: .row v1 3 (Rep.sz Int) p0_s.count.length xs0 :: .row v2 3 (Rep.sz Int) p0_s.acted.length xs1 :: M = M' ∧ [(0, .pointer (some ⟨b0, 0, none⟩)), (3, v132), (9, v2), (10, .int .i64 ((p0_s.acted.length : Int))), (11, .int .i64 ((k101 : Int)))] = L') _ ⟨0, _, ([] : List ByteArray), (.slice none 0 0), ([]), rfl, rfl, hm, Rw.nil, (Hp.le_refl _), rfl, rfl⟩ ?_
  rintro _ H136 _ _ ⟨k101, zs143', l134, v132, xs133, hd145, rfl, hm, hr135, hle137, rfl, rfl⟩
  refine C_seq ?_
  refine C_region ?_
  refine W_bin rfl rfl rfl rfl rfl ?_
  refine W_end (E_then ?_)
  refine C_seq ?_
  refine C_cond (b := decide ((k101 : Int) < (p0_s.acted.length : Int))) rfl (fun hb147 => ?_) (fun hb147 => ?_)
  · obtain ⟨y142, zs143, rfl, hy144, hd146⟩ := rng_t hd145 hb147
    have hm : m_shed_Shed_Off_b1 p0_s k101 y142 l134 (forI (fun k y s n => m_shed_Shed_Off_b1 p0_s k y s n) (fun s => some s) (k101 + 1) zs143) = some r := hm
    generalize hn139 : forI (fun k y s n => m_shed_Shed_Off_b1 p0_s k y s n) (fun s => some s) (k101 + 1) zs143 = nx138 at hm
    unfold m_shed_Shed_Off_b1 at hm
    refine C_skip (E_then ?_)
    refine C_seq ?_
    refine C_block ?_
    refine C_seq ?_
    refine C_region ?_
    refine W_indexO (List.mem_cons_of_mem _ (List.mem_cons_of_mem _ (List.mem_cons_of_mem _ (List.mem_cons_self ..)))) rfl rfl Proofs.Try.runUnderlying35 Proofs.Try.sizeOf3 rfl rfl (Int.natCast_nonneg _) (List.getElem?_eq_some_iff.1 hy144).1 ?_
    obtain ⟨_, rfl, hg148⟩ := (h2).elem hy144
    refine W_load rfl rfl Proofs.Try.isAgg3 rfl (row_one0 (List.mem_cons_of_mem _ (List.mem_cons_of_mem _ (List.mem_cons_of_mem _ (List.mem_cons_self ..)))) hg148 rfl) ?_
    refine W_assign rfl rfl rfl ?_
    refine W_end ?_
    refine E_then ?_
    refine C_region ?_
    refine W_move rfl rfl rfl ?_
    refine W_move rfl rfl rfl ?_
    refine W_nilCheck rfl rfl rfl ?_
    refine W_field (o := 0) rfl rfl Proofs.Try.runUnderlying58 rfl Proofs.Try.sizeOf34 rfl rfl rfl ?_
    refine W_load rfl rfl Proofs.Try.isAgg34 rfl (own_at (List.mem_cons_of_mem _ (List.mem_cons_self ..)) rfl) ?_
    refine W_move rfl rfl rfl ?_
    obtain ⟨y149, h150, he151, hm⟩ := idx_some hm
    obtain ⟨_, ⟨v153, rfl, h154⟩, hc152⟩ := (h0).elem he151
    refine W_indexS rfl rfl Proofs.Try.runUnderlying34 Proofs.Try.sizeOf43 rfl (h0.mono hle137) rfl h150 he151 ?_
    refine W_field (o := 2) rfl rfl Proofs.Try.runUnderlying43 rfl Proofs.Try.sizeOf39 rfl rfl rfl ?_
    refine W_load rfl rfl Proofs.Try.isAgg39 rfl (HCells.one (hc152.mono hle137) 2 rfl).at ?_
    obtain ⟨hz155, hm⟩ := need_some hm
    refine W_appendO (α := ByteArray) (l := l134) (ys := y149.Loads) rfl rfl Proofs.Try.underlying39 ⟨_, rfl, rfl, rfl, rfl⟩ rfl rfl rfl rfl rfl hr135 (h154.mono hle137) hz155 ?_
    intro v156 xs157 hr158
    refine W_assign rfl rfl rfl ?_
    refine W_end ?_
    refine E_normal_block ?_
    refine E_then ?_
    refine C_region ?_
    refine W_bin rfl rfl rfl rfl rfl ?_
    refine W_move rfl rfl rfl ?_
    refine W_end ?_
    exact E_keepJ (E_back (Nat.lt_succ_self _) ⟨k101 + 1, zs143, (l134 ++ y149.Loads), v156, xs157, hd146, rfl, (by rw [hn139]; exact hm), hr158, hle137, rfl, rfl⟩) (List.Perm.refl _) ⟨rfl, rfl, rfl, rfl, (congrArg (fun z => some (Value.int .i64 z)) (i64_succ hy144 hmx141)), trivial⟩
  · obtain rfl := rng_f hd145 hb147
    have hm : (some l134) = some r := hm
    refine C_exit (E_exit_then ?_)
    refine E_exit_then ?_
    refine E_exit_hit ?_
    refine E_then ?_
    refine C_seq ?_
    refine C_region ?_
    refine W_move rfl rfl rfl ?_
    refine W_assign rfl rfl rfl ?_
    refine W_end ?_
    refine E_then ?_
    refine C_ret ?_
    obtain rfl := Option.some.inj hm
    refine E_weak hle137 ?_
    exact end1 rfl rfl ⟨rfl, v132, xs133, rfl, rfl, (hr135).toF⟩

theorem m_slices_Index_string_string_c {B : Nat} {w0 w : World} {H : Hp} {M : List Res} {p0_s : (List ByteArray)} {p1_v : ByteArray} {v0 : Value} {r : Int} (hm : m_slices_Index_string_string p0_s p1_v = some r) (h0 : RdS H v0 p0_s) (ht : St B w0 H (M) w) :
    Calls Proofs.Try.prog 34 [v0, .string (p1_v)].toArray w (Ret B w0 fun H' M' v => H = H' ∧ M = M' ∧ .int .i64 (r) = v) := by
  unfold m_slices_Index_string_string at hm
  refine enter Proofs.Try.func34 rfl rfl rfl ht ?_
  refine C_seq ?_
  refine C_region ?_
  refine W_assign rfl rfl rfl ?_
  refine W_end ?_
  refine E_then ?_
  refine C_seq ?_
  refine C_seq ?_
  refine C_region ?_
  refine W_move rfl rfl rfl ?_
  refine W_lenR rfl rfl Proofs.Try.runUnderlying39 rfl h0 ?_
  refine W_move rfl rfl rfl ?_
  refine W_end ?_
  refine E_then ?_
  refine C_block ?_
  refine C_keep (L' := [(0, v0), (1, .string (p1_v)), (7, .int .i64 ((p0_s.length : Int))), (8, .int .i64 (((0 : Nat) : Int)))]) ⟨rfl, rfl, rfl, rfl, trivial⟩ (List.Perm.refl _) ?_
  refine C_loop (fun n H' M' L' => ∃ (k101 : Nat) (zs118' : Nat), k101 + zs118' = ((p0_s.length : Int) : Int).toNat ∧ zs118' = n ∧ forN (fun k s n => m_slices_Index_string_string_b1 p0_s p1_v k n) (fun _ => some ((-1))) zs118' k101 () = some r ∧ H.le H' ∧ M = M' ∧ [(0, v0), (1, .string (p1_v)), (7, .int .i64 ((p0_s.length : Int))), (8, .int .i64 ((k101 : Int)))] = L') _ ⟨0, _, Nat.zero_add _, rfl, hm, (Hp.le_refl _), rfl, rfl⟩ ?_
  rintro _ H112 _ _ ⟨k101, zs118', hd120, rfl, hm, hle113, rfl, rfl⟩
  refine C_seq ?_
  refine C_region ?_
  refine W_bin rfl rfl rfl rfl rfl ?_
  refine W_end (E_then ?_)
  refine C_seq ?_
  refine C_cond (b := decide ((k101 : Int) < (p0_s.length : Int))) rfl (fun hb122 => ?_) (fun hb122 => ?_)
  · obtain ⟨zs118, rfl, hd121, hy119⟩ := rngN_t hd120 hb122
    have hm : m_slices_Index_string_string_b1 p0_s p1_v k101 (forN (fun k s n => m_slices_Index_string_string_b1 p0_s p1_v k n) (fun _ => some ((-1))) zs118 (k101 + 1)) = some r := hm
    generalize hn115 : forN (fun k s n => m_slices_Index_string_string_b1 p0_s p1_v k n) (fun _ => some ((-1))) zs118 (k101 + 1) = nx114 at hm
    unfold m_slices_Index_string_string_b1 at hm
    refine C_skip (E_then ?_)
    refine C_seq ?_
    refine C_block ?_
    refine C_seq ?_
    refine C_region ?_
    refine W_move rfl rfl rfl ?_
    refine W_assign rfl rfl rfl ?_
    refine W_end ?_
    refine E_then ?_
    refine C_seq ?_
    refine C_region ?_
    refine W_move rfl rfl rfl ?_
    refine W_move rfl rfl rfl ?_
    refine W_move rfl rfl rfl ?_
    obtain ⟨y123, h124, he125, hm⟩ := idx_some hm
    obtain ⟨_, rfl, hc126⟩ := (h0).elem he125
    refine W_indexS rfl rfl Proofs.Try.runUnderlying39 Proofs.Try.sizeOf9 rfl (h0.mono hle113) rfl h124 he125 ?_
    refine W_load rfl rfl Proofs.Try.isAgg9 rfl (HCells.one (hc126.mono hle113) 0 rfl).at ?_
    refine W_bin rfl rfl rfl rfl rfl ?_
    refine W_end ?_
    refine E_then ?_
    refine C_cond (b := decide (p1_v = y123)) rfl (fun hb127 => ?_) (fun hb127 => ?_)
    · have hm := ite_t' hb127 hm
      refine C_seq ?_
      refine C_region ?_
      refine W_move rfl rfl rfl ?_
      refine W_assign rfl rfl rfl ?_
      refine W_end ?_
      refine E_then ?_
      refine C_ret ?_
      refine E_ret_block ?_
      refine E_ret_then ?_
      refine E_ret_then ?_
      refine E_ret_block ?_
      refine E_ret_then ?_
      obtain rfl := Option.some.inj hm
      refine E_weak hle113 ?_
      exact end1 rfl rfl ⟨rfl, rfl, rfl⟩
    · have hm := ite_f' hb127 hm
      refine C_skip ?_
      refine E_normal_block ?_
      refine E_then ?_
      refine C_region ?_
      refine W_bin rfl rfl rfl rfl rfl ?_
      refine W_move rfl rfl rfl ?_
      refine W_end ?_
      exact E_keepJ (E_back (Nat.lt_succ_self _) ⟨k101 + 1, zs118, hd121, rfl, (by rw [hn115]; exact hm), hle113, rfl, rfl⟩) (List.Perm.refl _) ⟨rfl, rfl, rfl, (congrArg (fun z => some (Value.int .i64 z)) (i64_succN hy119 (toNat_max (len_max (h0).lenMax)))), trivial⟩
  · obtain rfl := rngN_f hd120 hb122
    have hm : (some ((-1))) = some r := hm
    refine C_exit (E_exit_then ?_)
    refine E_exit_then ?_
    refine E_exit_hit ?_
    refine E_then ?_
    refine C_seq ?_
    refine C_region ?_
    refine W_assign rfl rfl rfl ?_
    refine W_end ?_
    refine E_then ?_
    refine C_ret ?_
    obtain rfl := Option.some.inj hm
    refine E_weak hle113 ?_
    exact end1 rfl rfl ⟨rfl, rfl, rfl⟩

theorem m_slices_Contains_string_string_c {B : Nat} {w0 w : World} {H : Hp} {M : List Res} {p0_s : (List ByteArray)} {p1_v : ByteArray} {v0 : Value} {r : Bool} (hm : m_slices_Contains_string_string p0_s p1_v = some r) (h0 : RdS H v0 p0_s) (ht : St B w0 H (M) w) :
    Calls Proofs.Try.prog 19 [v0, .string (p1_v)].toArray w (Ret B w0 fun H' M' v => H = H' ∧ M = M' ∧ .bool (r) = v) := by
  unfold m_slices_Contains_string_string at hm
  refine enter Proofs.Try.func19 rfl rfl rfl ht ?_
  refine C_seq ?_
  refine C_region ?_
  refine W_assign rfl rfl rfl ?_
  refine W_end ?_
  refine E_then ?_
  refine C_seq ?_
  refine C_region ?_
  refine W_move rfl rfl rfl ?_
  refine W_move rfl rfl rfl ?_
  obtain ⟨r101, hc102, hm⟩ := bind_some hm
  refine W_call Proofs.Try.call34 rfl rfl rfl (fun w ht => by have h := m_slices_Index_string_string_c (hm := hc102) h0 ht; exact h) ?_
  rintro _ _ _ ⟨rfl, rfl, rfl⟩
  refine W_bin rfl rfl rfl rfl rfl ?_
  refine W_assign rfl rfl rfl ?_
  refine W_end ?_
  refine E_then ?_
  refine C_ret ?_
  obtain rfl := Option.some.inj hm
  refine E_weak (Hp.le_refl _) ?_
  exact end1 rfl rfl ⟨rfl, rfl, rfl⟩
end Go.Sim
