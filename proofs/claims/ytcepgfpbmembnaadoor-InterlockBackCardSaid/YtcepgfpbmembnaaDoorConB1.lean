/-
  Printed by a program: each Go function computes its model.
-/
import Derived.Test.YtcepgfpbmembnaaDoorModB
import Derived.Test.YtcepgfpbmembnaaDoorRows
import Derived.KernelRfl
namespace Go.Sim
open Go
set_option linter.unusedVariables false
set_option linter.unusedSimpArgs false
set_option maxRecDepth 100000
theorem Facts.mixed : Proofs.Tryd.prog.follows .mixedOrders = true := by kernel_rfl

theorem m_netmodel_Name_c {B : Nat} {w0 w : World} {H : Hp} {M : List Res} {p0_s : ByteArray} {r : Bool} (hm : m_netmodel_Name p0_s = some r) (ht : St B w0 H (M) w) :
    Calls Proofs.Tryd.prog 21 [.string (p0_s)].toArray w (Ret B w0 fun H' M' v => H = H' ∧ M = M' ∧ .bool (r) = v) := by
  unfold m_netmodel_Name at hm
  refine enter Proofs.Tryd.func21 rfl rfl rfl ht ?_
  refine C_seq ?_
  refine C_region ?_
  refine W_assign rfl rfl rfl ?_
  refine W_end ?_
  refine E_then ?_
  refine C_seq ?_
  refine C_seq ?_
  refine C_region ?_
  refine W_move rfl rfl rfl ?_
  obtain ⟨hz101, hm⟩ := need_some hm
  refine W_convBytes rfl rfl Proofs.Tryd.runUnderlying9 Proofs.Tryd.runUnderlying66 Proofs.Tryd.runUnderlying5 rfl hz101 ?_
  intro v102 H103 hle104 h105
  refine W_lenR rfl rfl Proofs.Tryd.runUnderlying66 rfl h105 ?_
  refine W_move rfl rfl rfl ?_
  refine W_end ?_
  refine E_then ?_
  refine C_block ?_
  refine C_keep (L' := [(0, .string (p0_s)), (6, v102), (7, .int .i64 (((bytesL p0_s).length : Int))), (8, .int .i64 (((0 : Nat) : Int)))]) ⟨rfl, rfl, rfl, rfl, trivial⟩ (List.Perm.refl _) ?_
  refine C_loop (fun n H' M' L' => ∃ (k106 : Nat) (zs144' : List U8), (bytesL p0_s).drop k106 = zs144' ∧ zs144'.length = n ∧ forI (fun k y s139 n => m_netmodel_Name_b1 k y n) (fun _ => some ((decide (1 ≤ (p0_s.size : Int))) && (decide ((p0_s.size : Int) ≤ 8)))) k106 zs144' () = some r ∧ H103.le H' ∧ M = M' ∧ [(0, .string (p0_s)), (6, v102), (7, .int .i64 (((bytesL p0_s).length : Int))), (8, .int .i64 ((k106 : Int)))] = L') _ ⟨0, _, rfl, rfl, hm, (Hp.le_refl _), rfl, rfl⟩ ?_
  rintro _ H137 _ _ ⟨k106, zs144', hd146, rfl, hm, hle138, rfl, rfl⟩
  refine C_seq ?_
  refine C_region ?_
  refine W_bin rfl rfl rfl rfl rfl ?_
  refine W_end (E_then ?_)
  refine C_seq ?_
  refine C_cond (b := decide ((k106 : Int) < ((bytesL p0_s).length : Int))) rfl (fun hb148 => ?_) (fun hb148 => ?_)
  · obtain ⟨y143, zs144, rfl, hy145, hd147⟩ := rng_t hd146 hb148
    have hm : m_netmodel_Name_b1 k106 y143 (forI (fun k y s139 n => m_netmodel_Name_b1 k y n) (fun _ => some ((decide (1 ≤ (p0_s.size : Int))) && (decide ((p0_s.size : Int) ≤ 8)))) (k106 + 1) zs144) = some r := hm
    generalize hn141 : forI (fun k y s139 n => m_netmodel_Name_b1 k y n) (fun _ => some ((decide (1 ≤ (p0_s.size : Int))) && (decide ((p0_s.size : Int) ≤ 8)))) (k106 + 1) zs144 = nx140 at hm
    unfold m_netmodel_Name_b1 at hm
    refine C_skip (E_then ?_)
    refine C_seq ?_
    refine C_block ?_
    refine C_seq ?_
    refine C_region ?_
    refine W_move rfl rfl rfl ?_
    obtain ⟨_, rfl, hc149⟩ := (h105).elem hy145
    refine W_indexS rfl rfl Proofs.Tryd.runUnderlying66 Proofs.Tryd.sizeOf5 rfl (h105.mono hle138) rfl (Int.natCast_nonneg _) hy145 ?_
    refine W_load rfl rfl Proofs.Tryd.isAgg5 rfl (HCells.one (hc149.mono hle138) 0 rfl).at ?_
    refine W_assign rfl rfl rfl ?_
    refine W_assign rfl rfl rfl ?_
    refine W_end ?_
    refine E_then ?_
    refine C_seq_join (fun H' M' L' => H137 = H' ∧ M = M' ∧ [(0, .string (p0_s)), (6, v102), (7, .int .i64 (((bytesL p0_s).length : Int))), (8, .int .i64 ((k106 : Int))), (31, .bool (!(((decide (65 ≤ y143.n)) && (decide (y143.n ≤ 90))) || (((decide (0 < (k106 : Int))) && (decide (48 ≤ y143.n))) && (decide (y143.n ≤ 57))))))] = L') ?_ (fun J156 => ?_)
    · rintro _ _ _ ⟨rfl, rfl, rfl⟩
      refine C_cond (b := !(((decide (65 ≤ y143.n)) && (decide (y143.n ≤ 90))) || (((decide (0 < (k106 : Int))) && (decide (48 ≤ y143.n))) && (decide (y143.n ≤ 57))))) rfl (fun hb157 => ?_) (fun hb157 => ?_)
      · have hm := ite_t' hb157 hm
        refine C_seq ?_
        refine C_region ?_
        refine W_assign rfl rfl rfl ?_
        refine W_end ?_
        refine E_then ?_
        refine C_ret ?_
        refine E_ret_block ?_
        refine E_ret_then ?_
        refine E_ret_then ?_
        refine E_ret_block ?_
        refine E_ret_then ?_
        obtain rfl := Option.some.inj hm
        refine E_weak (Hp.le_trans hle104 hle138) ?_
        exact end1 rfl rfl ⟨rfl, rfl, rfl⟩
      · have hm := ite_f' hb157 hm
        refine C_skip ?_
        refine E_normal_block ?_
        refine E_then ?_
        refine C_region ?_
        refine W_bin rfl rfl rfl rfl rfl ?_
        refine W_move rfl rfl rfl ?_
        refine W_end ?_
        exact E_keepJ (E_back (Nat.lt_succ_self _) ⟨k106 + 1, zs144, hd147, rfl, (by rw [hn141]; exact hm), hle138, rfl, rfl⟩) (List.Perm.refl _) ⟨rfl, rfl, rfl, (congrArg (fun z => some (Value.int .i64 z)) (i64_succ hy145 ((h105.mono hle138)).lenMax)), trivial⟩
    · refine C_region ?_
      refine W_move rfl rfl rfl ?_
      refine W_bin rfl rfl rfl rfl rfl ?_
      refine W_move rfl rfl rfl ?_
      cases hb158 : (decide (65 ≤ y143.n))
      · refine W_no rfl rfl rfl ?_
        refine W_no rfl rfl rfl ?_
        refine W_pick rfl rfl rfl rfl ?_
        refine W_move rfl rfl rfl ?_
        refine W_move rfl rfl rfl ?_
        refine W_bin rfl rfl rfl rfl rfl ?_
        refine W_move rfl rfl rfl ?_
        cases hb159 : (decide (0 < (k106 : Int)))
        · refine W_no rfl rfl rfl ?_
          refine W_no rfl rfl rfl ?_
          refine W_pick rfl rfl rfl rfl ?_
          refine W_move rfl rfl rfl ?_
          refine W_no rfl rfl rfl ?_
          refine W_no rfl rfl rfl ?_
          refine W_pick rfl rfl rfl rfl ?_
          refine W_pick rfl rfl rfl rfl ?_
          refine W_un rfl rfl rfl rfl ?_
          refine W_end ?_
          exact E_keepJ (J156 _ _ _ ⟨rfl, rfl, rfl⟩) (List.Perm.refl _) ⟨rfl, rfl, rfl, rfl, (by show some (Value.bool (true)) = some (Value.bool (!(((decide (65 ≤ y143.n)) && (decide (y143.n ≤ 90))) || (((decide (0 < (k106 : Int))) && (decide (48 ≤ y143.n))) && (decide (y143.n ≤ 57)))))); simp only [hb158, hb159, Bool.and_true, Bool.true_and, Bool.false_and, Bool.and_false, Bool.or_true, Bool.true_or, Bool.or_false, Bool.false_or, Bool.not_true, Bool.not_false]), trivial⟩
        · refine W_move rfl rfl rfl ?_
          refine W_bin rfl rfl rfl rfl rfl ?_
          refine W_pick rfl rfl rfl rfl ?_
          refine W_move rfl rfl rfl ?_
          cases hb160 : (decide (48 ≤ y143.n))
          · refine W_no rfl rfl rfl ?_
            refine W_no rfl rfl rfl ?_
            refine W_pick rfl rfl rfl rfl ?_
            refine W_pick rfl rfl rfl rfl ?_
            refine W_un rfl rfl rfl rfl ?_
            refine W_end ?_
            exact E_keepJ (J156 _ _ _ ⟨rfl, rfl, rfl⟩) (List.Perm.refl _) ⟨rfl, rfl, rfl, rfl, (by show some (Value.bool (true)) = some (Value.bool (!(((decide (65 ≤ y143.n)) && (decide (y143.n ≤ 90))) || (((decide (0 < (k106 : Int))) && (decide (48 ≤ y143.n))) && (decide (y143.n ≤ 57)))))); simp only [hb158, hb159, hb160, Bool.and_true, Bool.true_and, Bool.false_and, Bool.and_false, Bool.or_true, Bool.true_or, Bool.or_false, Bool.false_or, Bool.not_true, Bool.not_false]), trivial⟩
          · refine W_move rfl rfl rfl ?_
            refine W_bin rfl rfl rfl rfl rfl ?_
            refine W_pick rfl rfl rfl rfl ?_
            refine W_pick rfl rfl rfl rfl ?_
            refine W_un rfl rfl rfl rfl ?_
            refine W_end ?_
            exact E_keepJ (J156 _ _ _ ⟨rfl, rfl, rfl⟩) (List.Perm.refl _) ⟨rfl, rfl, rfl, rfl, (by show some (Value.bool (!(decide (y143.n ≤ 57)))) = some (Value.bool (!(((decide (65 ≤ y143.n)) && (decide (y143.n ≤ 90))) || (((decide (0 < (k106 : Int))) && (decide (48 ≤ y143.n))) && (decide (y143.n ≤ 57)))))); simp only [hb158, hb159, hb160, Bool.and_true, Bool.true_and, Bool.false_and, Bool.and_false, Bool.or_true, Bool.true_or, Bool.or_false, Bool.false_or, Bool.not_true, Bool.not_false]), trivial⟩
      · refine W_move rfl rfl rfl ?_
        refine W_bin rfl rfl rfl rfl rfl ?_
        refine W_pick rfl rfl rfl rfl ?_
        refine W_move rfl rfl rfl ?_
        cases hb161 : (decide (y143.n ≤ 90))
        · refine W_move rfl rfl rfl ?_
          refine W_bin rfl rfl rfl rfl rfl ?_
          refine W_move rfl rfl rfl ?_
          cases hb162 : (decide (0 < (k106 : Int)))
          · refine W_no rfl rfl rfl ?_
            refine W_no rfl rfl rfl ?_
            refine W_pick rfl rfl rfl rfl ?_
            refine W_move rfl rfl rfl ?_
            refine W_no rfl rfl rfl ?_
            refine W_no rfl rfl rfl ?_
            refine W_pick rfl rfl rfl rfl ?_
            refine W_pick rfl rfl rfl rfl ?_
            refine W_un rfl rfl rfl rfl ?_
            refine W_end ?_
            exact E_keepJ (J156 _ _ _ ⟨rfl, rfl, rfl⟩) (List.Perm.refl _) ⟨rfl, rfl, rfl, rfl, (by show some (Value.bool (true)) = some (Value.bool (!(((decide (65 ≤ y143.n)) && (decide (y143.n ≤ 90))) || (((decide (0 < (k106 : Int))) && (decide (48 ≤ y143.n))) && (decide (y143.n ≤ 57)))))); simp only [hb158, hb161, hb162, Bool.and_true, Bool.true_and, Bool.false_and, Bool.and_false, Bool.or_true, Bool.true_or, Bool.or_false, Bool.false_or, Bool.not_true, Bool.not_false]), trivial⟩
          · refine W_move rfl rfl rfl ?_
            refine W_bin rfl rfl rfl rfl rfl ?_
            refine W_pick rfl rfl rfl rfl ?_
            refine W_move rfl rfl rfl ?_
            cases hb163 : (decide (48 ≤ y143.n))
            · refine W_no rfl rfl rfl ?_
              refine W_no rfl rfl rfl ?_
              refine W_pick rfl rfl rfl rfl ?_
              refine W_pick rfl rfl rfl rfl ?_
              refine W_un rfl rfl rfl rfl ?_
              refine W_end ?_
              exact E_keepJ (J156 _ _ _ ⟨rfl, rfl, rfl⟩) (List.Perm.refl _) ⟨rfl, rfl, rfl, rfl, (by show some (Value.bool (true)) = some (Value.bool (!(((decide (65 ≤ y143.n)) && (decide (y143.n ≤ 90))) || (((decide (0 < (k106 : Int))) && (decide (48 ≤ y143.n))) && (decide (y143.n ≤ 57)))))); simp only [hb158, hb161, hb162, hb163, Bool.and_true, Bool.true_and, Bool.false_and, Bool.and_false, Bool.or_true, Bool.true_or, Bool.or_false, Bool.false_or, Bool.not_true, Bool.not_false]), trivial⟩
            · refine W_move rfl rfl rfl ?_
              refine W_bin rfl rfl rfl rfl rfl ?_
              refine W_pick rfl rfl rfl rfl ?_
              refine W_pick rfl rfl rfl rfl ?_
              refine W_un rfl rfl rfl rfl ?_
              refine W_end ?_
              exact E_keepJ (J156 _ _ _ ⟨rfl, rfl, rfl⟩) (List.Perm.refl _) ⟨rfl, rfl, rfl, rfl, (by show some (Value.bool (!(decide (y143.n ≤ 57)))) = some (Value.bool (!(((decide (65 ≤ y143.n)) && (decide (y143.n ≤ 90))) || (((decide (0 < (k106 : Int))) && (decide (48 ≤ y143.n))) && (decide (y143.n ≤ 57)))))); simp only [hb158, hb161, hb162, hb163, Bool.and_true, Bool.true_and, Bool.false_and, Bool.and_false, Bool.or_true, Bool.true_or, Bool.or_false, Bool.false_or, Bool.not_true, Bool.not_false]), trivial⟩
        · refine W_no rfl rfl rfl ?_
          refine W_no rfl rfl rfl ?_
          refine W_no rfl rfl rfl ?_
          refine W_no rfl rfl rfl ?_
          refine W_no rfl rfl rfl ?_
          refine W_no rfl rfl rfl ?_
          refine W_no rfl rfl rfl ?_
          refine W_no rfl rfl rfl ?_
          refine W_no rfl rfl rfl ?_
          refine W_no rfl rfl rfl ?_
          refine W_pick rfl rfl rfl rfl ?_
          refine W_un rfl rfl rfl rfl ?_
          refine W_end ?_
          exact E_keepJ (J156 _ _ _ ⟨rfl, rfl, rfl⟩) (List.Perm.refl _) ⟨rfl, rfl, rfl, rfl, (by show some (Value.bool (false)) = some (Value.bool (!(((decide (65 ≤ y143.n)) && (decide (y143.n ≤ 90))) || (((decide (0 < (k106 : Int))) && (decide (48 ≤ y143.n))) && (decide (y143.n ≤ 57)))))); simp only [hb158, hb161, Bool.and_true, Bool.true_and, Bool.false_and, Bool.and_false, Bool.or_true, Bool.true_or, Bool.or_false, Bool.false_or, Bool.not_true, Bool.not_false]), trivial⟩
  · obtain rfl := rng_f hd146 hb148
    have hm : (some ((decide (1 ≤ (p0_s.size : Int))) && (decide ((p0_s.size : Int) ≤ 8)))) = some r := hm
    refine C_exit (E_exit_then ?_)
    refine E_exit_then ?_
    refine E_exit_hit ?_
    refine E_then ?_
    refine C_seq_join (fun H' M' L' => H137 = H' ∧ M = M' ∧ [(2, .bool ((decide (1 ≤ (p0_s.size : Int))) && (decide ((p0_s.size : Int) ≤ 8))))] = L') ?_ (fun J165 => ?_)
    · rintro _ _ _ ⟨rfl, rfl, rfl⟩
      refine C_ret ?_
      obtain rfl := Option.some.inj hm
      refine E_weak (Hp.le_trans hle104 hle138) ?_
      exact end1 rfl rfl ⟨rfl, rfl, rfl⟩
    · refine C_region ?_
      refine W_move rfl rfl rfl ?_
      refine W_lenStr rfl rfl Proofs.Tryd.runUnderlying9 rfl ?_
      refine W_bin rfl rfl rfl rfl rfl ?_
      refine W_move rfl rfl rfl ?_
      cases hb166 : (decide (1 ≤ (p0_s.size : Int)))
      · refine W_no rfl rfl rfl ?_
        refine W_no rfl rfl rfl ?_
        refine W_no rfl rfl rfl ?_
        refine W_pick rfl rfl rfl rfl ?_
        refine W_assign rfl rfl rfl ?_
        refine W_end ?_
        exact E_keepJ (J165 _ _ _ ⟨rfl, rfl, rfl⟩) (List.Perm.refl _) ⟨(by show some (Value.bool (false)) = some (Value.bool ((decide (1 ≤ (p0_s.size : Int))) && (decide ((p0_s.size : Int) ≤ 8)))); simp only [hb166, Bool.and_true, Bool.true_and, Bool.false_and, Bool.and_false, Bool.or_true, Bool.true_or, Bool.or_false, Bool.false_or, Bool.not_true, Bool.not_false]), trivial⟩
      · refine W_move rfl rfl rfl ?_
        refine W_lenStr rfl rfl Proofs.Tryd.runUnderlying9 rfl ?_
        refine W_bin rfl rfl rfl rfl rfl ?_
        refine W_pick rfl rfl rfl rfl ?_
        refine W_assign rfl rfl rfl ?_
        refine W_end ?_
        exact E_keepJ (J165 _ _ _ ⟨rfl, rfl, rfl⟩) (List.Perm.refl _) ⟨(by show some (Value.bool (decide ((p0_s.size : Int) ≤ 8))) = some (Value.bool ((decide (1 ≤ (p0_s.size : Int))) && (decide ((p0_s.size : Int) ≤ 8)))); simp only [hb166, Bool.and_true, Bool.true_and, Bool.false_and, Bool.and_false, Bool.or_true, Bool.true_or, Bool.or_false, Bool.false_or, Bool.not_true, Bool.not_false]), trivial⟩

theorem m_interlock_condition_c {B : Nat} {w0 w : World} {H : Hp} {M : List Res} {p0_l : (List S_api_InterlockNode)} {v0 : Value} {r : Int} (hm : m_interlock_condition p0_l = some r) (h0 : RdS H v0 p0_l) (ht : St B w0 H (M) w) :
    Calls Proofs.Tryd.prog 22 [v0].toArray w (Ret B w0 fun H' M' v => H = H' ∧ M = M' ∧ .int .i64 (r) = v) := by
  unfold m_interlock_condition at hm
  refine enter Proofs.Tryd.func22 rfl rfl rfl ht ?_
  refine C_seq ?_
  refine C_region ?_
  refine W_assign rfl rfl rfl ?_
  refine W_end ?_
  refine E_then ?_
  refine C_seq ?_
  refine C_block ?_
  refine C_seq ?_
  refine C_region ?_
  refine W_move rfl rfl rfl ?_
  refine W_lenR rfl rfl Proofs.Tryd.runUnderlying32 rfl h0 ?_
  refine W_bin rfl rfl rfl rfl rfl ?_
  refine W_assign rfl rfl rfl ?_
  refine W_end ?_
  refine E_then ?_
  refine C_cond (b := decide (40 < (p0_l.length : Int))) rfl (fun hb101 => ?_) (fun hb101 => ?_)
  · have hm := ite_t' hb101 hm
    refine C_seq ?_
    refine C_region ?_
    refine W_assign rfl rfl rfl ?_
    refine W_end ?_
    refine E_then ?_
    refine C_ret ?_
    refine E_ret_block ?_
    refine E_ret_then ?_
    obtain rfl := Option.some.inj hm
    refine E_weak (Hp.le_refl _) ?_
    exact end1 rfl rfl ⟨rfl, rfl, rfl⟩
  · have hm := ite_f' hb101 hm
    refine C_seq ?_
    refine C_region ?_
    refine W_move rfl rfl rfl ?_
    refine W_lenR rfl rfl Proofs.Tryd.runUnderlying32 rfl h0 ?_
    refine W_bin rfl rfl rfl rfl rfl ?_
    refine W_assign rfl rfl rfl ?_
    refine W_end ?_
    refine E_then ?_
    refine C_cond (b := decide ((p0_l.length : Int) = 0)) rfl (fun hb102 => ?_) (fun hb102 => ?_)
    · have hm := ite_t' hb102 hm
      refine C_seq ?_
      refine C_region ?_
      refine W_assign rfl rfl rfl ?_
      refine W_end ?_
      refine E_then ?_
      refine C_ret ?_
      refine E_ret_block ?_
      refine E_ret_then ?_
      obtain rfl := Option.some.inj hm
      refine E_weak (Hp.le_refl _) ?_
      exact end1 rfl rfl ⟨rfl, rfl, rfl⟩
    · have hm := ite_f' hb102 hm
      refine C_skip ?_
      refine E_normal_block ?_
      refine E_then ?_
      refine C_seq ?_
      refine C_region ?_
      refine W_move rfl rfl rfl ?_
      refine W_lenR rfl rfl Proofs.Tryd.runUnderlying32 rfl h0 ?_
      obtain ⟨hz103, hm⟩ := need_some hm
      refine W_makeSlice (α := Int) (zs := [.int .i64 (0)]) (ze := 0) rfl rfl Proofs.Tryd.underlying51 ⟨_, rfl, rfl, rfl, rfl⟩ rfl rfl rfl rfl rfl rfl hz103.1 hz103.2 ?_
      intro v104 xs105 hr106
      refine W_assign rfl rfl rfl ?_
      refine W_end ?_
      refine E_then ?_
      refine C_seq ?_
      refine C_seq ?_
      refine C_region ?_
      refine W_move rfl rfl rfl ?_
      refine W_lenR rfl rfl Proofs.Tryd.runUnderlying32 rfl h0 ?_
      refine W_move rfl rfl rfl ?_
      refine W_end ?_
      refine E_then ?_
      refine C_block ?_
      refine C_keep (L' := [(0, v0), (3, v104), (18, v0), (19, .int .i64 ((p0_l.length : Int))), (20, .int .i64 (((0 : Nat) : Int)))]) ⟨rfl, rfl, rfl, rfl, rfl, trivial⟩ (List.Perm.refl _) ?_
      refine C_loop (fun n H' M' L' => ∃ (k107 : Nat) (zs753' : List S_api_InterlockNode), ∃ l744 : List Int, ∃ xs743 : List Value, (p0_l).drop k107 = zs753' ∧ zs753'.length = n ∧ forI (fun k y s748 n => m_interlock_condition_b11 k y s748 n) (fun s748 => idx s748 (IntKind.i64.wrap ((p0_l.length : Int) - 1)) fun y1069 => if !decide (y1069 = 0) then (some 3) else (some 0)) k107 zs753' l744 = some r ∧ Rw H' v104 xs743 l744 ∧ H.le H' ∧ .row v104 3 (Rep.sz Int) l744.length xs743 :: M = M' ∧ [(0, v0), (3, v104), (18, v0), (19, .int .i64 ((p0_l.length : Int))), (20, .int .i64 ((k107 : Int)))] = L') _ ⟨0, _, (List.replicate ((p0_l.length : Int) : Int).toNat (0 : Int)), xs105, rfl, rfl, hm, hr106, (Hp.le_refl _), rfl, rfl⟩ ?_
      rintro _ H746 _ _ ⟨k107, zs753', l744, xs743, hd755, rfl, hm, hr745, hle747, rfl, rfl⟩
      refine C_seq ?_
      refine C_region ?_
      refine W_bin rfl rfl rfl rfl rfl ?_
      refine W_end (E_then ?_)
      refine C_seq ?_
      refine C_cond (b := decide ((k107 : Int) < (p0_l.length : Int))) rfl (fun hb757 => ?_) (fun hb757 => ?_)
      · obtain ⟨y752, zs753, rfl, hy754, hd756⟩ := rng_t hd755 hb757
        have hm : m_interlock_condition_b11 k107 y752 l744 (forI (fun k y s748 n => m_interlock_condition_b11 k y s748 n) (fun s748 => idx s748 (IntKind.i64.wrap ((p0_l.length : Int) - 1)) fun y1069 => if !decide (y1069 = 0) then (some 3) else (some 0)) (k107 + 1) zs753) = some r := hm
        generalize hn750 : forI (fun k y s748 n => m_interlock_condition_b11 k y s748 n) (fun s748 => idx s748 (IntKind.i64.wrap ((p0_l.length : Int) - 1)) fun y1069 => if !decide (y1069 = 0) then (some 3) else (some 0)) (k107 + 1) zs753 = nx749 at hm
        unfold m_interlock_condition_b11 at hm
        refine C_skip (E_then ?_)
        refine C_seq_join (fun H' M' L' => ∃ l912 : List Int, ∃ xs911 : List Value, m_interlock_condition_b14 nx749 l912 = some r ∧ Rw H' v104 xs911 l912 ∧ H746.le H' ∧ .row v104 3 (Rep.sz Int) l912.length xs911 :: M = M' ∧ [(0, v0), (3, v104), (18, v0), (19, .int .i64 ((p0_l.length : Int))), (20, .int .i64 ((k107 : Int)))] = L') ?_ (fun J916 => ?_)
        · rintro H914 _ _ ⟨l912, xs911, hm, hr913, hle915, rfl, rfl⟩
          unfold m_interlock_condition_b14 at hm
          refine C_region ?_
          refine W_bin rfl rfl rfl rfl rfl ?_
          refine W_move rfl rfl rfl ?_
          refine W_end ?_
          exact E_keepJ (E_back (Nat.lt_succ_self _) ⟨k107 + 1, zs753, l912, xs911, hd756, rfl, (by rw [hn750]; exact hm), hr913, (Hp.le_trans hle747 hle915), rfl, rfl⟩) (List.Perm.refl _) ⟨rfl, rfl, rfl, rfl, (congrArg (fun z => some (Value.int .i64 z)) (i64_succ hy754 ((h0.mono hle747)).lenMax)), trivial⟩
        · refine C_block ?_
          refine C_seq ?_
          refine C_region ?_
          refine W_move rfl rfl rfl ?_
          obtain ⟨_, ⟨rfl⟩, hc917⟩ := (h0).elem hy754
          refine W_indexS rfl rfl Proofs.Tryd.runUnderlying32 Proofs.Tryd.sizeOf49 rfl (h0.mono hle747) rfl (Int.natCast_nonneg _) hy754 ?_
          refine W_loadAgg rfl rfl Proofs.Tryd.isAgg49 Proofs.Tryd.sizeOf49 rfl (hc917.mono hle747).at rfl ?_
          refine W_alloc (cs := [.int .i64 (0), .string (⟨#[]⟩), .int .i64 (0), .int .i64 (0)]) rfl rfl Proofs.Tryd.zeroValue49 rfl (fun b918 => ?_)
          refine W_assign rfl rfl rfl ?_
          refine W_store (cs := [.int .i64 (y752.Kind), .string (y752.Name), .int .i64 (y752.A), .int .i64 (y752.B_)]) (out := [.int .i64 (y752.Kind), .string (y752.Name), .int .i64 (y752.A), .int .i64 (y752.B_)]) rfl Proofs.Tryd.sizeOf49 rfl rfl rfl rfl rfl (all_cons rfl (all_cons rfl (all_cons rfl (all_cons rfl all_nil)))) (over_all rfl) ?_
          refine W_end ?_
          refine E_then ?_
          refine C_seq_join (fun H' M' L' => H746 = H' ∧ .obj b918 (.cells [.int .i64 (y752.Kind), .string (y752.Name), .int .i64 (y752.A), .int .i64 (y752.B_)].toArray 49 (0, 0)) :: .row v104 3 (Rep.sz Int) l744.length xs743 :: M = M' ∧ [(0, v0), (3, v104), (4, .int .i64 ((k107 : Int))), (5, .pointer (some ⟨b918, 0, none⟩)), (6, .bool ((decide (y752.Kind = 2)) || (decide (y752.Kind = 3)))), (18, v0), (19, .int .i64 ((p0_l.length : Int))), (20, .int .i64 ((k107 : Int)))] = L') ?_ (fun J920 => ?_)
          · rintro _ _ _ ⟨rfl, rfl, rfl⟩
            refine C_seq ?_
            refine C_block ?_
            refine C_seq_join (fun H' M' L' => H746 = H' ∧ .obj b918 (.cells [.int .i64 (y752.Kind), .string (y752.Name), .int .i64 (y752.A), .int .i64 (y752.B_)].toArray 49 (0, 0)) :: .row v104 3 (Rep.sz Int) l744.length xs743 :: M = M' ∧ [(0, v0), (3, v104), (4, .int .i64 ((k107 : Int))), (5, .pointer (some ⟨b918, 0, none⟩)), (6, .bool ((decide (y752.Kind = 2)) || (decide (y752.Kind = 3)))), (18, v0), (19, .int .i64 ((p0_l.length : Int))), (20, .int .i64 ((k107 : Int))), (33, .bool ((decide (y752.Kind < 0)) || (decide (6 < y752.Kind))))] = L') ?_ (fun J922 => ?_)
            · rintro _ _ _ ⟨rfl, rfl, rfl⟩
              refine C_cond (b := (decide (y752.Kind < 0)) || (decide (6 < y752.Kind))) rfl (fun hb923 => ?_) (fun hb923 => ?_)
              · have hm := ite_t' hb923 hm
                refine C_seq ?_
                refine C_region ?_
                refine W_assign rfl rfl rfl ?_
                refine W_end ?_
                refine E_then ?_
                refine C_ret ?_
                refine E_ret_block ?_
                refine E_ret_then ?_
                refine E_ret_block ?_
                refine E_ret_then ?_
                refine E_ret_then ?_
                refine E_ret_block ?_
                refine E_ret_then ?_
                obtain rfl := Option.some.inj hm
                refine E_drop (List.Sublist.cons _ (List.Sublist.cons _ (List.Sublist.refl _))) ?_
                refine E_weak hle747 ?_
                exact end1 rfl rfl ⟨rfl, rfl, rfl⟩
              · have hm := ite_f' hb923 hm
                refine C_seq ?_
                refine C_region ?_
                refine W_move rfl rfl rfl ?_
                refine W_move rfl rfl rfl ?_
                cases hb924 : ((decide (y752.Kind = 2)) || (decide (y752.Kind = 3)))
                · have hm := ite_f' hb924 hm
                  refine W_no rfl rfl rfl ?_
                  refine W_no rfl rfl rfl ?_
                  refine W_no rfl rfl rfl ?_
                  refine W_no rfl rfl rfl ?_
                  refine W_pick rfl rfl rfl rfl ?_
                  refine W_assign rfl rfl rfl ?_
                  refine W_end ?_
                  refine E_then ?_
                  refine C_cond (b := false) rfl (fun hb => Bool.noConfusion hb) (fun _ => ?_)
                  refine C_seq_join (fun H' M' L' => H746 = H' ∧ .obj b918 (.cells [.int .i64 (y752.Kind), .string (y752.Name), .int .i64 (y752.A), .int .i64 (y752.B_)].toArray 49 (0, 0)) :: .row v104 3 (Rep.sz Int) l744.length xs743 :: M = M' ∧ [(0, v0), (3, v104), (4, .int .i64 ((k107 : Int))), (5, .pointer (some ⟨b918, 0, none⟩)), (18, v0), (19, .int .i64 ((p0_l.length : Int))), (20, .int .i64 ((k107 : Int))), (50, .bool (!decide (y752.Name = (⟨#[]⟩))))] = L') ?_ (fun J925 => ?_)
                  · rintro _ _ _ ⟨rfl, rfl, rfl⟩
                    refine C_cond (b := !decide (y752.Name = (⟨#[]⟩))) rfl (fun hb926 => ?_) (fun hb926 => ?_)
                    · have hm := ite_t' hb926 hm
                      refine C_seq ?_
                      refine C_region ?_
                      refine W_assign rfl rfl rfl ?_
                      refine W_end ?_
                      refine E_then ?_
                      refine C_ret ?_
                      refine E_ret_block ?_
                      refine E_ret_then ?_
                      refine E_ret_block ?_
                      refine E_ret_then ?_
                      refine E_ret_then ?_
                      refine E_ret_block ?_
                      refine E_ret_then ?_
                      obtain rfl := Option.some.inj hm
                      refine E_drop (List.Sublist.cons _ (List.Sublist.cons _ (List.Sublist.refl _))) ?_
                      refine E_weak hle747 ?_
                      exact end1 rfl rfl ⟨rfl, rfl, rfl⟩
                    · have hm := ite_f' hb926 hm
                      refine C_skip ?_
                      refine E_normal_block ?_
                      refine E_then ?_
                      refine C_seq ?_
                      refine C_region ?_
                      refine W_move rfl rfl rfl ?_
                      refine W_move rfl rfl rfl ?_
                      refine W_move rfl rfl rfl ?_
                      obtain ⟨y927, h928, he929, hm⟩ := idx_some hm
                      refine W_indexO (List.mem_cons_of_mem _ (List.mem_cons_self ..)) rfl rfl Proofs.Tryd.runUnderlying51 Proofs.Tryd.sizeOf3 rfl rfl h928 (List.getElem?_eq_some_iff.1 he929).1 ?_
                      obtain ⟨_, rfl, hg930⟩ := (hr745).elem he929
                      refine W_perm (List.Perm.swap _ _ _) ?_
                      obtain ⟨hr931, he932, hg933⟩ := Rw.put (cs := [.int .i64 ((k107 : Int))]) (o := 0) (c := [.int .i64 (y927)]) (out := [.int .i64 ((k107 : Int))]) (e2 := ((k107 : Int))) hr745 he929 rfl hg930 rfl rfl rfl
                      refine W_storeO2 (i := ((k107 : Int) : Int).toNat * Rep.sz Int + 0) (cs := [.int .i64 ((k107 : Int))]) rfl Proofs.Tryd.sizeOf3 rfl (row_ad0 _ _) rfl rfl rfl (Rw.room hr745 he929 rfl) rfl (all_cons rfl all_nil) (n' := (l744.set (((k107 : Int) : Int).toNat) ((k107 : Int))).length) List.length_set ?_
                      generalize over xs743 (((k107 : Int) : Int).toNat * Rep.sz Int + 0) [.int .i64 ((k107 : Int))] = xs934 at hr931 hg933 ⊢
                      refine W_end ?_
                      refine E_then ?_
                      refine C_seq ?_
                      refine C_region ?_
                      refine W_field (o := 0) rfl rfl Proofs.Tryd.runUnderlying49 rfl Proofs.Tryd.sizeOf3 rfl rfl rfl ?_
                      refine W_load rfl rfl Proofs.Tryd.isAgg3 rfl (own_at (List.mem_cons_of_mem _ (List.mem_cons_self ..)) rfl) ?_
                      refine W_end ?_
                      refine E_then ?_
                      refine C_block ?_
                      refine C_seq ?_
                      refine C_region ?_
                      refine W_bin rfl rfl rfl rfl rfl ?_
                      refine W_assign rfl rfl rfl ?_
                      refine W_end ?_
                      refine E_then ?_
                      refine C_cond (b := decide (y752.Kind = 4)) rfl (fun hb935 => ?_) (fun hb935 => ?_)
                      · have hm := ite_t' hb935 hm
                        refine C_seq ?_
                        refine C_seq_join (fun H' M' L' => H746 = H' ∧ .row v104 3 (Rep.sz Int) (l744.set (((k107 : Int) : Int).toNat) ((k107 : Int))).length xs934 :: .obj b918 (.cells [.int .i64 (y752.Kind), .string (y752.Name), .int .i64 (y752.A), .int .i64 (y752.B_)].toArray 49 (0, 0)) :: M = M' ∧ [(0, v0), (3, v104), (4, .int .i64 ((k107 : Int))), (5, .pointer (some ⟨b918, 0, none⟩)), (18, v0), (19, .int .i64 ((p0_l.length : Int))), (20, .int .i64 ((k107 : Int))), (87, .bool (((decide ((k107 : Int) = 0)) || (!decide (y752.A = (IntKind.i64.wrap ((k107 : Int) - 1))))) || (!decide (y752.B_ = 0))))] = L') ?_ (fun J938 => ?_)
                        · rintro _ _ _ ⟨rfl, rfl, rfl⟩
                          refine C_cond (b := ((decide ((k107 : Int) = 0)) || (!decide (y752.A = (IntKind.i64.wrap ((k107 : Int) - 1))))) || (!decide (y752.B_ = 0))) rfl (fun hb939 => ?_) (fun hb939 => ?_)
                          · have hm := ite_t' hb939 hm
                            refine C_seq ?_
                            refine C_region ?_
                            refine W_assign rfl rfl rfl ?_
                            refine W_end ?_
                            refine E_then ?_
                            refine C_ret ?_
                            refine E_ret_then ?_
                            refine E_ret_block ?_
                            refine E_ret_block ?_
                            refine E_ret_then ?_
                            refine E_ret_then ?_
                            refine E_ret_block ?_
                            refine E_ret_then ?_
                            obtain rfl := Option.some.inj hm
                            refine E_drop (List.Sublist.cons _ (List.Sublist.cons _ (List.Sublist.refl _))) ?_
                            refine E_weak hle747 ?_
                            exact end1 rfl rfl ⟨rfl, rfl, rfl⟩
                          · have hm := ite_f' hb939 hm
                            refine C_skip ?_
                            refine E_then ?_
                            refine C_region ?_
                            refine W_move rfl rfl rfl ?_
                            refine W_move rfl rfl rfl ?_
                            refine W_move rfl rfl rfl ?_
                            refine W_field (o := 2) rfl rfl Proofs.Tryd.runUnderlying49 rfl Proofs.Tryd.sizeOf3 rfl rfl rfl ?_
                            refine W_load rfl rfl Proofs.Tryd.isAgg3 rfl (own_at (List.mem_cons_of_mem _ (List.mem_cons_self ..)) rfl) ?_
                            obtain ⟨y940, h941, he942, hm⟩ := idx_some hm
                            refine W_indexO (List.mem_cons_self ..) rfl rfl Proofs.Tryd.runUnderlying51 Proofs.Tryd.sizeOf3 rfl rfl h941 (List.getElem?_eq_some_iff.1 he942).1 ?_
                            obtain ⟨_, rfl, hg943⟩ := (hr931).elem he942
                            refine W_load rfl rfl Proofs.Tryd.isAgg3 rfl (row_one0 (List.mem_cons_self ..) hg943 rfl) ?_
                            obtain ⟨y944, h945, he946, hm⟩ := idx_some hm
                            refine W_indexO (List.mem_cons_self ..) rfl rfl Proofs.Tryd.runUnderlying51 Proofs.Tryd.sizeOf3 rfl rfl h945 (List.getElem?_eq_some_iff.1 he946).1 ?_
                            obtain ⟨_, rfl, hg947⟩ := (hr931).elem he946
                            obtain ⟨hr948, he949, hg950⟩ := Rw.put (cs := [.int .i64 (y940)]) (o := 0) (c := [.int .i64 (y944)]) (out := [.int .i64 (y940)]) (e2 := y940) hr931 he946 rfl hg947 rfl rfl rfl
                            refine W_storeO2 (i := ((k107 : Int) : Int).toNat * Rep.sz Int + 0) (cs := [.int .i64 (y940)]) rfl Proofs.Tryd.sizeOf3 rfl (row_ad0 _ _) rfl rfl rfl (Rw.room hr931 he946 rfl) rfl (all_cons rfl all_nil) (n' := ((l744.set (((k107 : Int) : Int).toNat) ((k107 : Int))).set (((k107 : Int) : Int).toNat) y940).length) List.length_set ?_
                            generalize over xs934 (((k107 : Int) : Int).toNat * Rep.sz Int + 0) [.int .i64 (y940)] = xs951 at hr948 hg950 ⊢
                            refine W_end ?_
                            refine E_normal_block ?_
                            refine E_normal_block ?_
                            refine E_drop (List.Sublist.cons_cons _ (List.Sublist.cons _ (List.Sublist.refl _))) ?_
                            exact E_keepJ (J916 _ _ _ ⟨((l744.set (((k107 : Int) : Int).toNat) ((k107 : Int))).set (((k107 : Int) : Int).toNat) y940), xs951, hm, hr948, (Hp.le_refl _), rfl, rfl⟩) (List.Perm.refl _) ⟨rfl, rfl, rfl, rfl, rfl, trivial⟩
                        · refine C_region ?_
                          refine W_move rfl rfl rfl ?_
                          refine W_bin rfl rfl rfl rfl rfl ?_
                          refine W_move rfl rfl rfl ?_
                          cases hb952 : (decide ((k107 : Int) = 0))
                          · refine W_field (o := 2) rfl rfl Proofs.Tryd.runUnderlying49 rfl Proofs.Tryd.sizeOf3 rfl rfl rfl ?_
                            refine W_load rfl rfl Proofs.Tryd.isAgg3 rfl (own_at (List.mem_cons_of_mem _ (List.mem_cons_self ..)) rfl) ?_
                            refine W_move rfl rfl rfl ?_
                            refine W_bin rfl rfl rfl rfl rfl ?_
                            refine W_bin rfl rfl rfl rfl rfl ?_
                            refine W_pick rfl rfl rfl rfl ?_
                            refine W_move rfl rfl rfl ?_
                            cases hb953 : (decide (y752.A = (IntKind.i64.wrap ((k107 : Int) - 1))))
                            · refine W_no rfl rfl rfl ?_
                              refine W_no rfl rfl rfl ?_
                              refine W_no rfl rfl rfl ?_
                              refine W_pick rfl rfl rfl rfl ?_
                              refine W_end ?_
                              exact E_keepJ (J938 _ _ _ ⟨rfl, rfl, rfl⟩) (List.Perm.refl _) ⟨rfl, rfl, rfl, rfl, rfl, rfl, rfl, (by show some (Value.bool (true)) = some (Value.bool (((decide ((k107 : Int) = 0)) || (!decide (y752.A = (IntKind.i64.wrap ((k107 : Int) - 1))))) || (!decide (y752.B_ = 0)))); simp only [hb101, hb102, hb923, hb924, hb926, hb935, hb952, hb953, Bool.and_true, Bool.true_and, Bool.false_and, Bool.and_false, Bool.or_true, Bool.true_or, Bool.or_false, Bool.false_or, Bool.not_true, Bool.not_false]), trivial⟩
                            · refine W_field (o := 3) rfl rfl Proofs.Tryd.runUnderlying49 rfl Proofs.Tryd.sizeOf3 rfl rfl rfl ?_
                              refine W_load rfl rfl Proofs.Tryd.isAgg3 rfl (own_at (List.mem_cons_of_mem _ (List.mem_cons_self ..)) rfl) ?_
                              refine W_bin rfl rfl rfl rfl rfl ?_
                              refine W_pick rfl rfl rfl rfl ?_
                              refine W_end ?_
                              exact E_keepJ (J938 _ _ _ ⟨rfl, rfl, rfl⟩) (List.Perm.refl _) ⟨rfl, rfl, rfl, rfl, rfl, rfl, rfl, (by show some (Value.bool (!decide (y752.B_ = 0))) = some (Value.bool (((decide ((k107 : Int) = 0)) || (!decide (y752.A = (IntKind.i64.wrap ((k107 : Int) - 1))))) || (!decide (y752.B_ = 0)))); simp only [hb101, hb102, hb923, hb924, hb926, hb935, hb952, hb953, Bool.and_true, Bool.true_and, Bool.false_and, Bool.and_false, Bool.or_true, Bool.true_or, Bool.or_false, Bool.false_or, Bool.not_true, Bool.not_false]), trivial⟩
                          · refine W_no rfl rfl rfl ?_
                            refine W_no rfl rfl rfl ?_
                            refine W_no rfl rfl rfl ?_
                            refine W_no rfl rfl rfl ?_
                            refine W_no rfl rfl rfl ?_
                            refine W_pick rfl rfl rfl rfl ?_
                            refine W_move rfl rfl rfl ?_
                            refine W_no rfl rfl rfl ?_
                            refine W_no rfl rfl rfl ?_
                            refine W_no rfl rfl rfl ?_
                            refine W_pick rfl rfl rfl rfl ?_
                            refine W_end ?_
                            exact E_keepJ (J938 _ _ _ ⟨rfl, rfl, rfl⟩) (List.Perm.refl _) ⟨rfl, rfl, rfl, rfl, rfl, rfl, rfl, (by show some (Value.bool (true)) = some (Value.bool (((decide ((k107 : Int) = 0)) || (!decide (y752.A = (IntKind.i64.wrap ((k107 : Int) - 1))))) || (!decide (y752.B_ = 0)))); simp only [hb101, hb102, hb923, hb924, hb926, hb935, hb952, Bool.and_true, Bool.true_and, Bool.false_and, Bool.and_false, Bool.or_true, Bool.true_or, Bool.or_false, Bool.false_or, Bool.not_true, Bool.not_false]), trivial⟩
                      · have hm := ite_f' hb935 hm
                        refine C_seq_join (fun H' M' L' => ∃ c955 : Bool, m_interlock_condition_b15 l744 nx749 y752 k107 c955 = some r ∧ H746 = H' ∧ .row v104 3 (Rep.sz Int) (l744.set (((k107 : Int) : Int).toNat) ((k107 : Int))).length xs934 :: .obj b918 (.cells [.int .i64 (y752.Kind), .string (y752.Name), .int .i64 (y752.A), .int .i64 (y752.B_)].toArray 49 (0, 0)) :: M = M' ∧ [(0, v0), (3, v104), (4, .int .i64 ((k107 : Int))), (5, .pointer (some ⟨b918, 0, none⟩)), (18, v0), (19, .int .i64 ((p0_l.length : Int))), (20, .int .i64 ((k107 : Int))), (96, .bool (c955))] = L') ?_ (fun J956 => ?_)
                        · rintro _ _ _ ⟨c955, hm, rfl, rfl, rfl⟩
                          unfold m_interlock_condition_b15 at hm
                          refine C_cond (b := c955) rfl (fun hb957 => ?_) (fun hb957 => ?_)
                          · have hm := ite_t' hb957 hm
                            refine C_seq ?_
                            refine C_seq ?_
                            cases hb958 : (decide ((k107 : Int) = 0))
                            · have hm := ite_f' hb958 hm
                              cases hb959 : (decide (y752.B_ = (IntKind.i64.wrap ((k107 : Int) - 1))))
                              · have hm := ite_f' hb959 hm
                                refine C_region_tok0 26 (phiT [(fun H rs v => [] = rs ∧ .int .i64 ((k107 : Int)) = v), (fun H rs v => [] = rs ∧ .bool (false) = v), (fun H rs v => [] = rs ∧ .bool (false) = v), (fun H rs v => [] = rs ∧ .pointer (some ⟨b918, 3, none⟩) = v), (fun H rs v => [] = rs ∧ .int .i64 (y752.B_) = v), (fun H rs v => [] = rs ∧ .int .i64 ((k107 : Int)) = v), (fun H rs v => [] = rs ∧ .int .i64 (IntKind.i64.wrap ((k107 : Int) - 1)) = v), (fun H rs v => [] = rs ∧ .bool (true) = v), (fun H rs v => [] = rs ∧ .bool (true) = v), (fun H rs v => [] = rs ∧ .bool (true) = v), (fun H rs v => [] = rs ∧ undef = v), (fun H rs v => [] = rs ∧ undef = v), (fun H rs v => [] = rs ∧ undef = v), (fun H rs v => [] = rs ∧ undef = v), (fun H rs v => [] = rs ∧ undef = v), (fun H rs v => [] = rs ∧ undef = v), (fun H rs v => [] = rs ∧ .bool (true) = v), (fun H rs v => [] = rs ∧ .bool (true) = v), (fun H rs v => [] = rs ∧ undef = v), (fun H rs v => [] = rs ∧ undef = v), (fun H rs v => [] = rs ∧ undef = v), (fun H rs v => [] = rs ∧ undef = v), (fun H rs v => [] = rs ∧ undef = v), (fun H rs v => [] = rs ∧ undef = v), (fun H rs v => [] = rs ∧ undef = v), (fun H rs v => [] = rs ∧ undef = v)]) [[], [], [], [], [], [], [], [], [], [], [], [], [], [], [], [], [], [], [], [], [], [], [], [], [], []] [[], [], [], [], [], [], [], [], [], [], [], [], [], [], [], [], [], [], [], [], [], [], [], [], [], []] [] [0, 1, 2, 3, 4, 5, 6, 7, 8, 9, 10, 11, 12, 13, 14, 15, 16, 17, 18, 19, 20, 21, 22, 23, 24, 25] Facts.mixed (by kernel_rfl) rfl rfl rfl (by kernel_rfl) (phiT_mono ⟨eq_monoT _ _, eq_monoT _ _, eq_monoT _ _, eq_monoT _ _, eq_monoT _ _, eq_monoT _ _, eq_monoT _ _, eq_monoT _ _, eq_monoT _ _, eq_monoT _ _, eq_monoT _ _, eq_monoT _ _, eq_monoT _ _, eq_monoT _ _, eq_monoT _ _, eq_monoT _ _, eq_monoT _ _, eq_monoT _ _, eq_monoT _ _, eq_monoT _ _, eq_monoT _ _, eq_monoT _ _, eq_monoT _ _, eq_monoT _ _, eq_monoT _ _, eq_monoT _ _, trivial⟩) ⟨?_, ?_, ?_, ?_, ?_, ?_, ?_, ?_, ?_, ?_, ?_, ?_, ?_, ?_, ?_, ?_, ?_, ?_, ?_, ?_, ?_, ?_, ?_, ?_, ?_, ?_, trivial⟩ ?_
                                · intro HX hX X Rest hR
                                  intro hU hUp
                                  refine W_move rfl rfl rfl ?_
                                  exact W_end (OneT_end [] (Hp.le_refl _) ⟨rfl, rfl⟩)
                                · intro HX hX X Rest hR
                                  rintro _ _ ⟨rfl, rfl⟩
                                  intro hU hUp
                                  refine W_bin rfl rfl rfl rfl rfl ?_
                                  exact W_end (OneT_end [] (Hp.le_refl _) ⟨rfl, (by first | rfl | (rw [hb958]; try rfl))⟩)
                                · intro HX hX X Rest hR
                                  rintro _ _ ⟨rfl, rfl⟩
                                  intro hU hUp
                                  refine W_move rfl rfl rfl ?_
                                  exact W_end (OneT_end [] (Hp.le_refl _) ⟨rfl, rfl⟩)
                                · intro HX hX X Rest hR
                                  rintro _ _ ⟨rfl, rfl⟩
                                  intro hU hUp
                                  refine W_field (o := 3) rfl rfl Proofs.Tryd.runUnderlying49 rfl Proofs.Tryd.sizeOf3 rfl rfl rfl ?_
                                  exact W_end (OneT_end [] (Hp.le_refl _) ⟨rfl, rfl⟩)
                                · intro HX hX X Rest hR
                                  rintro _ _ ⟨rfl, rfl⟩
                                  rintro _ _ ⟨rfl, rfl⟩
                                  intro hU hUp
                                  refine W_load rfl rfl Proofs.Tryd.isAgg3 rfl (own_at (hR _ (List.mem_cons_of_mem _ (List.mem_cons_self ..))) rfl) ?_
                                  exact W_end (OneT_end [] (Hp.le_refl _) ⟨rfl, rfl⟩)
                                · intro HX hX X Rest hR
                                  rintro _ _ ⟨rfl, rfl⟩
                                  intro hU hUp
                                  refine W_move rfl rfl rfl ?_
                                  exact W_end (OneT_end [] (Hp.le_refl _) ⟨rfl, rfl⟩)
                                · intro HX hX X Rest hR
                                  rintro _ _ ⟨rfl, rfl⟩
                                  rintro _ _ ⟨rfl, rfl⟩
                                  intro hU hUp
                                  refine W_bin rfl rfl rfl rfl rfl ?_
                                  exact W_end (OneT_end [] (Hp.le_refl _) ⟨rfl, rfl⟩)
                                · intro HX hX X Rest hR
                                  rintro _ _ ⟨rfl, rfl⟩
                                  rintro _ _ ⟨rfl, rfl⟩
                                  rintro _ _ ⟨rfl, rfl⟩
                                  intro hU hUp
                                  refine W_bin rfl rfl rfl rfl rfl ?_
                                  exact W_end (OneT_end [] (Hp.le_refl _) ⟨rfl, (by first | rfl | (rw [hb959]; try rfl))⟩)
                                · intro HX hX X Rest hR
                                  rintro _ _ ⟨rfl, rfl⟩
                                  rintro _ _ ⟨rfl, rfl⟩
                                  intro hU hUp
                                  refine W_pick rfl rfl rfl rfl ?_
                                  exact W_end (OneT_end [] (Hp.le_refl _) ⟨rfl, rfl⟩)
                                · intro HX hX X Rest hR
                                  rintro _ _ ⟨rfl, rfl⟩
                                  rintro _ _ ⟨rfl, rfl⟩
                                  intro hU hUp
                                  refine W_move rfl rfl rfl ?_
                                  exact W_end (OneT_end [] (Hp.le_refl _) ⟨rfl, rfl⟩)
                                · intro HX hX X Rest hR
                                  rintro _ _ ⟨rfl, rfl⟩
                                  intro hU hUp
                                  refine W_no rfl rfl rfl ?_
                                  exact W_end (OneT_end [] (Hp.le_refl _) ⟨rfl, rfl⟩)
                                · intro HX hX X Rest hR
                                  rintro _ _ ⟨rfl, rfl⟩
                                  intro hU hUp
                                  refine W_no rfl rfl rfl ?_
                                  exact W_end (OneT_end [] (Hp.le_refl _) ⟨rfl, rfl⟩)
                                · intro HX hX X Rest hR
                                  rintro _ _ ⟨rfl, rfl⟩
                                  rintro _ _ ⟨rfl, rfl⟩
                                  intro hU hUp
                                  refine W_no rfl rfl rfl ?_
                                  exact W_end (OneT_end [] (Hp.le_refl _) ⟨rfl, rfl⟩)
                                · intro HX hX X Rest hR
                                  rintro _ _ ⟨rfl, rfl⟩
                                  rintro _ _ ⟨rfl, rfl⟩
                                  rintro _ _ ⟨rfl, rfl⟩
                                  intro hU hUp
                                  refine W_no rfl rfl rfl ?_
                                  exact W_end (OneT_end [] (Hp.le_refl _) ⟨rfl, rfl⟩)
                                · intro HX hX X Rest hR
                                  rintro _ _ ⟨rfl, rfl⟩
                                  rintro _ _ ⟨rfl, rfl⟩
                                  intro hU hUp
                                  refine W_no rfl rfl rfl ?_
                                  exact W_end (OneT_end [] (Hp.le_refl _) ⟨rfl, rfl⟩)
                                · intro HX hX X Rest hR
                                  rintro _ _ ⟨rfl, rfl⟩
                                  rintro _ _ ⟨rfl, rfl⟩
                                  intro hU hUp
                                  refine W_no rfl rfl rfl ?_
                                  exact W_end (OneT_end [] (Hp.le_refl _) ⟨rfl, rfl⟩)
                                · intro HX hX X Rest hR
                                  rintro _ _ ⟨rfl, rfl⟩
                                  rintro _ _ ⟨rfl, rfl⟩
                                  intro hU hUp
                                  refine W_pick rfl rfl rfl rfl ?_
                                  exact W_end (OneT_end [] (Hp.le_refl _) ⟨rfl, rfl⟩)
                                · intro HX hX X Rest hR
                                  rintro _ _ ⟨rfl, rfl⟩
                                  rintro _ _ ⟨rfl, rfl⟩
                                  intro hU hUp
                                  refine W_move rfl rfl rfl ?_
                                  exact W_end (OneT_end [] (Hp.le_refl _) ⟨rfl, rfl⟩)
                                · intro HX hX X Rest hR
                                  rintro _ _ ⟨rfl, rfl⟩
                                  intro hU hUp
                                  refine W_no rfl rfl rfl ?_
                                  exact W_end (OneT_end [] (Hp.le_refl _) ⟨rfl, rfl⟩)
                                · intro HX hX X Rest hR
                                  rintro _ _ ⟨rfl, rfl⟩
                                  rintro _ _ ⟨rfl, rfl⟩
                                  intro hU hUp
                                  refine W_no rfl rfl rfl ?_
                                  exact W_end (OneT_end [] (Hp.le_refl _) ⟨rfl, rfl⟩)
                                · intro HX hX X Rest hR
                                  rintro _ _ ⟨rfl, rfl⟩
                                  intro hU hUp
                                  refine W_no rfl rfl rfl ?_
                                  exact W_end (OneT_end [] (Hp.le_refl _) ⟨rfl, rfl⟩)
                                · intro HX hX X Rest hR
                                  rintro _ _ ⟨rfl, rfl⟩
                                  intro hU hUp
                                  refine W_no rfl rfl rfl ?_
                                  exact W_end (OneT_end [] (Hp.le_refl _) ⟨rfl, rfl⟩)
                                · intro HX hX X Rest hR
                                  rintro _ _ ⟨rfl, rfl⟩
                                  rintro _ _ ⟨rfl, rfl⟩
                                  intro hU hUp
                                  refine W_no rfl rfl rfl ?_
                                  exact W_end (OneT_end [] (Hp.le_refl _) ⟨rfl, rfl⟩)
                                · intro HX hX X Rest hR
                                  rintro _ _ ⟨rfl, rfl⟩
                                  rintro _ _ ⟨rfl, rfl⟩
                                  rintro _ _ ⟨rfl, rfl⟩
                                  intro hU hUp
                                  refine W_no rfl rfl rfl ?_
                                  exact W_end (OneT_end [] (Hp.le_refl _) ⟨rfl, rfl⟩)
                                · intro HX hX X Rest hR
                                  rintro _ _ ⟨rfl, rfl⟩
                                  rintro _ _ ⟨rfl, rfl⟩
                                  intro hU hUp
                                  refine W_no rfl rfl rfl ?_
                                  exact W_end (OneT_end [] (Hp.le_refl _) ⟨rfl, rfl⟩)
                                · intro HX hX X Rest hR
                                  rintro _ _ ⟨rfl, rfl⟩
                                  rintro _ _ ⟨rfl, rfl⟩
                                  intro hU hUp
                                  refine W_no rfl rfl rfl ?_
                                  exact W_end (OneT_end [] (Hp.le_refl _) ⟨rfl, rfl⟩)
                                intro H960 hle961
                                rintro _ _ ⟨rfl, rfl⟩
                                rintro _ _ ⟨rfl, rfl⟩
                                rintro _ _ ⟨rfl, rfl⟩
                                rintro _ _ ⟨rfl, rfl⟩
                                rintro _ _ ⟨rfl, rfl⟩
                                rintro _ _ ⟨rfl, rfl⟩
                                rintro _ _ ⟨rfl, rfl⟩
                                rintro _ _ ⟨rfl, rfl⟩
                                rintro _ _ ⟨rfl, rfl⟩
                                rintro _ _ ⟨rfl, rfl⟩
                                rintro _ _ ⟨rfl, rfl⟩
                                rintro _ _ ⟨rfl, rfl⟩
                                rintro _ _ ⟨rfl, rfl⟩
                                rintro _ _ ⟨rfl, rfl⟩
                                rintro _ _ ⟨rfl, rfl⟩
                                rintro _ _ ⟨rfl, rfl⟩
                                rintro _ _ ⟨rfl, rfl⟩
                                rintro _ _ ⟨rfl, rfl⟩
                                rintro _ _ ⟨rfl, rfl⟩
                                rintro _ _ ⟨rfl, rfl⟩
                                rintro _ _ ⟨rfl, rfl⟩
                                rintro _ _ ⟨rfl, rfl⟩
                                rintro _ _ ⟨rfl, rfl⟩
                                rintro _ _ ⟨rfl, rfl⟩
                                rintro _ _ ⟨rfl, rfl⟩
                                rintro _ _ ⟨rfl, rfl⟩
                                refine W_no rfl rfl rfl ?_
                                refine W_pick rfl rfl rfl rfl ?_
                                refine W_end ?_
                                refine E_then ?_
                                refine C_cond (b := true) rfl (fun _ => ?_) (fun hb => Bool.noConfusion hb)
                                refine C_seq ?_
                                refine C_region ?_
                                refine W_assign rfl rfl rfl ?_
                                refine W_end ?_
                                refine E_then ?_
                                refine C_ret ?_
                                refine E_ret_then ?_
                                refine E_ret_block ?_
                                refine E_ret_block ?_
                                refine E_ret_then ?_
                                refine E_ret_then ?_
                                refine E_ret_block ?_
                                refine E_ret_then ?_
                                obtain rfl := Option.some.inj hm
                                refine E_drop (List.Sublist.cons _ (List.Sublist.cons _ (List.Sublist.refl _))) ?_
                                refine E_weak (Hp.le_trans hle747 hle961) ?_
                                exact end1 rfl rfl ⟨rfl, rfl, rfl⟩
                              · have hm := ite_t' hb959 hm
                                obtain ⟨y962, h963, he964, hm⟩ := idx_some hm
                                obtain ⟨_, rfl, hg965⟩ := (hr931).elem he964
                                cases hb966 : (decide (y962 = 0))
                                · have hm := ite_f' hb966 hm
                                  obtain ⟨y967, h968, he969, hm⟩ := idx_some hm
                                  obtain ⟨_, rfl, hg970⟩ := (hr931).elem he969
                                  refine C_region_tok0 26 (phiT [(fun H rs v => [] = rs ∧ .int .i64 ((k107 : Int)) = v), (fun H rs v => [] = rs ∧ .bool (false) = v), (fun H rs v => [] = rs ∧ .bool (false) = v), (fun H rs v => [] = rs ∧ .pointer (some ⟨b918, 3, none⟩) = v), (fun H rs v => [] = rs ∧ .int .i64 (y752.B_) = v), (fun H rs v => [] = rs ∧ .int .i64 ((k107 : Int)) = v), (fun H rs v => [] = rs ∧ .int .i64 (IntKind.i64.wrap ((k107 : Int) - 1)) = v), (fun H rs v => [] = rs ∧ .bool (false) = v), (fun H rs v => [] = rs ∧ .bool (false) = v), (fun H rs v => [] = rs ∧ .bool (false) = v), (fun H rs v => [] = rs ∧ v104 = v), (fun H rs v => [] = rs ∧ .int .i64 ((k107 : Int)) = v), (fun H rs v => [] = rs ∧ .int .i64 (IntKind.i64.wrap ((k107 : Int) - 1)) = v), (fun H rs v => [] = rs ∧ .pointer (some ((Value.base (v104)).add ((IntKind.i64.wrap ((k107 : Int) - 1) : Int).toNat * Rep.sz Int))) = v), (fun H rs v => [] = rs ∧ .int .i64 (y962) = v), (fun H rs v => [] = rs ∧ .bool (false) = v), (fun H rs v => [] = rs ∧ .bool (false) = v), (fun H rs v => [] = rs ∧ .bool (false) = v), (fun H rs v => [] = rs ∧ .pointer (some ⟨b918, 2, none⟩) = v), (fun H rs v => [] = rs ∧ .int .i64 (y752.A) = v), (fun H rs v => [] = rs ∧ v104 = v), (fun H rs v => [] = rs ∧ .int .i64 ((k107 : Int)) = v), (fun H rs v => [] = rs ∧ .int .i64 (IntKind.i64.wrap ((k107 : Int) - 1)) = v), (fun H rs v => [] = rs ∧ .pointer (some ((Value.base (v104)).add ((IntKind.i64.wrap ((k107 : Int) - 1) : Int).toNat * Rep.sz Int))) = v), (fun H rs v => [] = rs ∧ .int .i64 (y967) = v), (fun H rs v => [] = rs ∧ .int .i64 (IntKind.i64.wrap (y967 - 1)) = v)]) [[], [], [], [], [], [], [], [], [], [], [], [], [], [], [], [], [], [], [], [], [], [], [], [], [], []] [[], [], [], [], [], [], [], [], [], [], [], [], [], [], [], [], [], [], [], [], [], [], [], [], [], []] [] [0, 1, 2, 3, 4, 5, 6, 7, 8, 9, 10, 11, 12, 13, 14, 15, 16, 17, 18, 19, 20, 21, 22, 23, 24, 25] Facts.mixed (by kernel_rfl) rfl rfl rfl (by kernel_rfl) (phiT_mono ⟨eq_monoT _ _, eq_monoT _ _, eq_monoT _ _, eq_monoT _ _, eq_monoT _ _, eq_monoT _ _, eq_monoT _ _, eq_monoT _ _, eq_monoT _ _, eq_monoT _ _, eq_monoT _ _, eq_monoT _ _, eq_monoT _ _, eq_monoT _ _, eq_monoT _ _, eq_monoT _ _, eq_monoT _ _, eq_monoT _ _, eq_monoT _ _, eq_monoT _ _, eq_monoT _ _, eq_monoT _ _, eq_monoT _ _, eq_monoT _ _, eq_monoT _ _, eq_monoT _ _, trivial⟩) ⟨?_, ?_, ?_, ?_, ?_, ?_, ?_, ?_, ?_, ?_, ?_, ?_, ?_, ?_, ?_, ?_, ?_, ?_, ?_, ?_, ?_, ?_, ?_, ?_, ?_, ?_, trivial⟩ ?_
                                  · intro HX hX X Rest hR
                                    intro hU hUp
                                    refine W_move rfl rfl rfl ?_
                                    exact W_end (OneT_end [] (Hp.le_refl _) ⟨rfl, rfl⟩)
                                  · intro HX hX X Rest hR
                                    rintro _ _ ⟨rfl, rfl⟩
                                    intro hU hUp
                                    refine W_bin rfl rfl rfl rfl rfl ?_
                                    exact W_end (OneT_end [] (Hp.le_refl _) ⟨rfl, (by first | rfl | (rw [hb958]; try rfl))⟩)
                                  · intro HX hX X Rest hR
                                    rintro _ _ ⟨rfl, rfl⟩
                                    intro hU hUp
                                    refine W_move rfl rfl rfl ?_
                                    exact W_end (OneT_end [] (Hp.le_refl _) ⟨rfl, rfl⟩)
                                  · intro HX hX X Rest hR
                                    rintro _ _ ⟨rfl, rfl⟩
                                    intro hU hUp
                                    refine W_field (o := 3) rfl rfl Proofs.Tryd.runUnderlying49 rfl Proofs.Tryd.sizeOf3 rfl rfl rfl ?_
                                    exact W_end (OneT_end [] (Hp.le_refl _) ⟨rfl, rfl⟩)
                                  · intro HX hX X Rest hR
                                    rintro _ _ ⟨rfl, rfl⟩
                                    rintro _ _ ⟨rfl, rfl⟩
                                    intro hU hUp
                                    refine W_load rfl rfl Proofs.Tryd.isAgg3 rfl (own_at (hR _ (List.mem_cons_of_mem _ (List.mem_cons_self ..))) rfl) ?_
                                    exact W_end (OneT_end [] (Hp.le_refl _) ⟨rfl, rfl⟩)
                                  · intro HX hX X Rest hR
                                    rintro _ _ ⟨rfl, rfl⟩
                                    intro hU hUp
                                    refine W_move rfl rfl rfl ?_
                                    exact W_end (OneT_end [] (Hp.le_refl _) ⟨rfl, rfl⟩)
                                  · intro HX hX X Rest hR
                                    rintro _ _ ⟨rfl, rfl⟩
                                    rintro _ _ ⟨rfl, rfl⟩
                                    intro hU hUp
                                    refine W_bin rfl rfl rfl rfl rfl ?_
                                    exact W_end (OneT_end [] (Hp.le_refl _) ⟨rfl, rfl⟩)
                                  · intro HX hX X Rest hR
                                    rintro _ _ ⟨rfl, rfl⟩
                                    rintro _ _ ⟨rfl, rfl⟩
                                    rintro _ _ ⟨rfl, rfl⟩
                                    intro hU hUp
                                    refine W_bin rfl rfl rfl rfl rfl ?_
                                    exact W_end (OneT_end [] (Hp.le_refl _) ⟨rfl, (by first | rfl | (rw [hb959]; try rfl))⟩)
                                  · intro HX hX X Rest hR
                                    rintro _ _ ⟨rfl, rfl⟩
                                    rintro _ _ ⟨rfl, rfl⟩
                                    intro hU hUp
                                    refine W_pick rfl rfl rfl rfl ?_
                                    exact W_end (OneT_end [] (Hp.le_refl _) ⟨rfl, rfl⟩)
                                  · intro HX hX X Rest hR
                                    rintro _ _ ⟨rfl, rfl⟩
                                    rintro _ _ ⟨rfl, rfl⟩
                                    intro hU hUp
                                    refine W_move rfl rfl rfl ?_
                                    exact W_end (OneT_end [] (Hp.le_refl _) ⟨rfl, rfl⟩)
                                  · intro HX hX X Rest hR
                                    rintro _ _ ⟨rfl, rfl⟩
                                    intro hU hUp
                                    refine W_move rfl rfl rfl ?_
                                    exact W_end (OneT_end [] (Hp.le_refl _) ⟨rfl, rfl⟩)
                                  · intro HX hX X Rest hR
                                    rintro _ _ ⟨rfl, rfl⟩
                                    intro hU hUp
                                    refine W_move rfl rfl rfl ?_
                                    exact W_end (OneT_end [] (Hp.le_refl _) ⟨rfl, rfl⟩)
                                  · intro HX hX X Rest hR
                                    rintro _ _ ⟨rfl, rfl⟩
                                    rintro _ _ ⟨rfl, rfl⟩
                                    intro hU hUp
                                    refine W_bin rfl rfl rfl rfl rfl ?_
                                    exact W_end (OneT_end [] (Hp.le_refl _) ⟨rfl, rfl⟩)
                                  · intro HX hX X Rest hR
                                    rintro _ _ ⟨rfl, rfl⟩
                                    rintro _ _ ⟨rfl, rfl⟩
                                    rintro _ _ ⟨rfl, rfl⟩
                                    intro hU hUp
                                    refine W_indexO (hR _ (List.mem_cons_self ..)) rfl rfl Proofs.Tryd.runUnderlying51 Proofs.Tryd.sizeOf3 rfl rfl h963 (List.getElem?_eq_some_iff.1 he964).1 ?_
                                    exact W_end (OneT_end [] (Hp.le_refl _) ⟨rfl, rfl⟩)
                                  · intro HX hX X Rest hR
                                    rintro _ _ ⟨rfl, rfl⟩
                                    rintro _ _ ⟨rfl, rfl⟩
                                    intro hU hUp
                                    refine W_load rfl rfl Proofs.Tryd.isAgg3 rfl (row_one0 (hR _ (List.mem_cons_self ..)) hg965 rfl) ?_
                                    exact W_end (OneT_end [] (Hp.le_refl _) ⟨rfl, rfl⟩)
                                  · intro HX hX X Rest hR
                                    rintro _ _ ⟨rfl, rfl⟩
                                    rintro _ _ ⟨rfl, rfl⟩
                                    intro hU hUp
                                    refine W_bin rfl rfl rfl rfl rfl ?_
                                    exact W_end (OneT_end [] (Hp.le_refl _) ⟨rfl, (by first | rfl | (rw [hb966]; try rfl))⟩)
                                  · intro HX hX X Rest hR
                                    rintro _ _ ⟨rfl, rfl⟩
                                    rintro _ _ ⟨rfl, rfl⟩
                                    intro hU hUp
                                    refine W_pick rfl rfl rfl rfl ?_
                                    exact W_end (OneT_end [] (Hp.le_refl _) ⟨rfl, rfl⟩)
                                  · intro HX hX X Rest hR
                                    rintro _ _ ⟨rfl, rfl⟩
                                    rintro _ _ ⟨rfl, rfl⟩
                                    intro hU hUp
                                    refine W_move rfl rfl rfl ?_
                                    exact W_end (OneT_end [] (Hp.le_refl _) ⟨rfl, rfl⟩)
                                  · intro HX hX X Rest hR
                                    rintro _ _ ⟨rfl, rfl⟩
                                    intro hU hUp
                                    refine W_field (o := 2) rfl rfl Proofs.Tryd.runUnderlying49 rfl Proofs.Tryd.sizeOf3 rfl rfl rfl ?_
                                    exact W_end (OneT_end [] (Hp.le_refl _) ⟨rfl, rfl⟩)
                                  · intro HX hX X Rest hR
                                    rintro _ _ ⟨rfl, rfl⟩
                                    rintro _ _ ⟨rfl, rfl⟩
                                    intro hU hUp
                                    refine W_load rfl rfl Proofs.Tryd.isAgg3 rfl (own_at (hR _ (List.mem_cons_of_mem _ (List.mem_cons_self ..))) rfl) ?_
                                    exact W_end (OneT_end [] (Hp.le_refl _) ⟨rfl, rfl⟩)
                                  · intro HX hX X Rest hR
                                    rintro _ _ ⟨rfl, rfl⟩
                                    intro hU hUp
                                    refine W_move rfl rfl rfl ?_
                                    exact W_end (OneT_end [] (Hp.le_refl _) ⟨rfl, rfl⟩)
                                  · intro HX hX X Rest hR
                                    rintro _ _ ⟨rfl, rfl⟩
                                    intro hU hUp
                                    refine W_move rfl rfl rfl ?_
                                    exact W_end (OneT_end [] (Hp.le_refl _) ⟨rfl, rfl⟩)
                                  · intro HX hX X Rest hR
                                    rintro _ _ ⟨rfl, rfl⟩
                                    rintro _ _ ⟨rfl, rfl⟩
                                    intro hU hUp
                                    refine W_bin rfl rfl rfl rfl rfl ?_
                                    exact W_end (OneT_end [] (Hp.le_refl _) ⟨rfl, rfl⟩)
                                  · intro HX hX X Rest hR
                                    rintro _ _ ⟨rfl, rfl⟩
                                    rintro _ _ ⟨rfl, rfl⟩
                                    rintro _ _ ⟨rfl, rfl⟩
                                    intro hU hUp
                                    refine W_indexO (hR _ (List.mem_cons_self ..)) rfl rfl Proofs.Tryd.runUnderlying51 Proofs.Tryd.sizeOf3 rfl rfl h968 (List.getElem?_eq_some_iff.1 he969).1 ?_
                                    exact W_end (OneT_end [] (Hp.le_refl _) ⟨rfl, rfl⟩)
                                  · intro HX hX X Rest hR
                                    rintro _ _ ⟨rfl, rfl⟩
                                    rintro _ _ ⟨rfl, rfl⟩
                                    intro hU hUp
                                    refine W_load rfl rfl Proofs.Tryd.isAgg3 rfl (row_one0 (hR _ (List.mem_cons_self ..)) hg970 rfl) ?_
                                    exact W_end (OneT_end [] (Hp.le_refl _) ⟨rfl, rfl⟩)
                                  · intro HX hX X Rest hR
                                    rintro _ _ ⟨rfl, rfl⟩
                                    rintro _ _ ⟨rfl, rfl⟩
                                    intro hU hUp
                                    refine W_bin rfl rfl rfl rfl rfl ?_
                                    exact W_end (OneT_end [] (Hp.le_refl _) ⟨rfl, rfl⟩)
                                  intro H971 hle972
                                  rintro _ _ ⟨rfl, rfl⟩
                                  rintro _ _ ⟨rfl, rfl⟩
                                  rintro _ _ ⟨rfl, rfl⟩
                                  rintro _ _ ⟨rfl, rfl⟩
                                  rintro _ _ ⟨rfl, rfl⟩
                                  rintro _ _ ⟨rfl, rfl⟩
                                  rintro _ _ ⟨rfl, rfl⟩
                                  rintro _ _ ⟨rfl, rfl⟩
                                  rintro _ _ ⟨rfl, rfl⟩
                                  rintro _ _ ⟨rfl, rfl⟩
                                  rintro _ _ ⟨rfl, rfl⟩
                                  rintro _ _ ⟨rfl, rfl⟩
                                  rintro _ _ ⟨rfl, rfl⟩
                                  rintro _ _ ⟨rfl, rfl⟩
                                  rintro _ _ ⟨rfl, rfl⟩
                                  rintro _ _ ⟨rfl, rfl⟩
                                  rintro _ _ ⟨rfl, rfl⟩
                                  rintro _ _ ⟨rfl, rfl⟩
                                  rintro _ _ ⟨rfl, rfl⟩
                                  rintro _ _ ⟨rfl, rfl⟩
                                  rintro _ _ ⟨rfl, rfl⟩
                                  rintro _ _ ⟨rfl, rfl⟩
                                  rintro _ _ ⟨rfl, rfl⟩
                                  rintro _ _ ⟨rfl, rfl⟩
                                  rintro _ _ ⟨rfl, rfl⟩
                                  rintro _ _ ⟨rfl, rfl⟩
                                  refine W_bin rfl rfl rfl rfl rfl ?_
                                  refine W_pick rfl rfl rfl rfl ?_
                                  refine W_end ?_
                                  refine E_then ?_
                                  refine C_cond (b := !decide (y752.A = (IntKind.i64.wrap (y967 - 1)))) rfl (fun hb973 => ?_) (fun hb973 => ?_)
                                  · have hm := ite_t' hb973 hm
                                    refine C_seq ?_
                                    refine C_region ?_
                                    refine W_assign rfl rfl rfl ?_
                                    refine W_end ?_
                                    refine E_then ?_
                                    refine C_ret ?_
                                    refine E_ret_then ?_
                                    refine E_ret_block ?_
                                    refine E_ret_block ?_
                                    refine E_ret_then ?_
                                    refine E_ret_then ?_
                                    refine E_ret_block ?_
                                    refine E_ret_then ?_
                                    obtain rfl := Option.some.inj hm
                                    refine E_drop (List.Sublist.cons _ (List.Sublist.cons _ (List.Sublist.refl _))) ?_
                                    refine E_weak (Hp.le_trans hle747 hle972) ?_
                                    exact end1 rfl rfl ⟨rfl, rfl, rfl⟩
                                  · have hm := ite_f' hb973 hm
                                    refine C_skip ?_
                                    refine E_then ?_
                                    refine C_region ?_
                                    refine W_move rfl rfl rfl ?_
                                    refine W_move rfl rfl rfl ?_
                                    refine W_move rfl rfl rfl ?_
                                    refine W_field (o := 2) rfl rfl Proofs.Tryd.runUnderlying49 rfl Proofs.Tryd.sizeOf3 rfl rfl rfl ?_
                                    refine W_load rfl rfl Proofs.Tryd.isAgg3 rfl (own_at (List.mem_cons_of_mem _ (List.mem_cons_self ..)) rfl) ?_
                                    obtain ⟨y974, h975, he976, hm⟩ := idx_some hm
                                    refine W_indexO (List.mem_cons_self ..) rfl rfl Proofs.Tryd.runUnderlying51 Proofs.Tryd.sizeOf3 rfl rfl h975 (List.getElem?_eq_some_iff.1 he976).1 ?_
                                    obtain ⟨_, rfl, hg977⟩ := (hr931).elem he976
                                    refine W_load rfl rfl Proofs.Tryd.isAgg3 rfl (row_one0 (List.mem_cons_self ..) hg977 rfl) ?_
                                    obtain ⟨y978, h979, he980, hm⟩ := idx_some hm
                                    refine W_indexO (List.mem_cons_self ..) rfl rfl Proofs.Tryd.runUnderlying51 Proofs.Tryd.sizeOf3 rfl rfl h979 (List.getElem?_eq_some_iff.1 he980).1 ?_
                                    obtain ⟨_, rfl, hg981⟩ := (hr931).elem he980
                                    obtain ⟨hr982, he983, hg984⟩ := Rw.put (cs := [.int .i64 (y974)]) (o := 0) (c := [.int .i64 (y978)]) (out := [.int .i64 (y974)]) (e2 := y974) (hr931.mono hle972) he980 rfl hg981 rfl rfl rfl
                                    refine W_storeO2 (i := ((k107 : Int) : Int).toNat * Rep.sz Int + 0) (cs := [.int .i64 (y974)]) rfl Proofs.Tryd.sizeOf3 rfl (row_ad0 _ _) rfl rfl rfl (Rw.room (hr931.mono hle972) he980 rfl) rfl (all_cons rfl all_nil) (n' := ((l744.set (((k107 : Int) : Int).toNat) ((k107 : Int))).set (((k107 : Int) : Int).toNat) y974).length) List.length_set ?_
                                    generalize over xs934 (((k107 : Int) : Int).toNat * Rep.sz Int + 0) [.int .i64 (y974)] = xs985 at hr982 hg984 ⊢
                                    refine W_end ?_
                                    refine E_normal_block ?_
                                    refine E_normal_block ?_
                                    refine E_drop (List.Sublist.cons_cons _ (List.Sublist.cons _ (List.Sublist.refl _))) ?_
                                    exact E_keepJ (J916 _ _ _ ⟨((l744.set (((k107 : Int) : Int).toNat) ((k107 : Int))).set (((k107 : Int) : Int).toNat) y974), xs985, hm, hr982, hle972, rfl, rfl⟩) (List.Perm.refl _) ⟨rfl, rfl, rfl, rfl, rfl, trivial⟩
                                · have hm := ite_t' hb966 hm
                                  refine C_region_tok0 26 (phiT [(fun H rs v => [] = rs ∧ .int .i64 ((k107 : Int)) = v), (fun H rs v => [] = rs ∧ .bool (false) = v), (fun H rs v => [] = rs ∧ .bool (false) = v), (fun H rs v => [] = rs ∧ .pointer (some ⟨b918, 3, none⟩) = v), (fun H rs v => [] = rs ∧ .int .i64 (y752.B_) = v), (fun H rs v => [] = rs ∧ .int .i64 ((k107 : Int)) = v), (fun H rs v => [] = rs ∧ .int .i64 (IntKind.i64.wrap ((k107 : Int) - 1)) = v), (fun H rs v => [] = rs ∧ .bool (false) = v), (fun H rs v => [] = rs ∧ .bool (false) = v), (fun H rs v => [] = rs ∧ .bool (false) = v), (fun H rs v => [] = rs ∧ v104 = v), (fun H rs v => [] = rs ∧ .int .i64 ((k107 : Int)) = v), (fun H rs v => [] = rs ∧ .int .i64 (IntKind.i64.wrap ((k107 : Int) - 1)) = v), (fun H rs v => [] = rs ∧ .pointer (some ((Value.base (v104)).add ((IntKind.i64.wrap ((k107 : Int) - 1) : Int).toNat * Rep.sz Int))) = v), (fun H rs v => [] = rs ∧ .int .i64 (y962) = v), (fun H rs v => [] = rs ∧ .bool (true) = v), (fun H rs v => [] = rs ∧ .bool (true) = v), (fun H rs v => [] = rs ∧ .bool (true) = v), (fun H rs v => [] = rs ∧ undef = v), (fun H rs v => [] = rs ∧ undef = v), (fun H rs v => [] = rs ∧ undef = v), (fun H rs v => [] = rs ∧ undef = v), (fun H rs v => [] = rs ∧ undef = v), (fun H rs v => [] = rs ∧ undef = v), (fun H rs v => [] = rs ∧ undef = v), (fun H rs v => [] = rs ∧ undef = v)]) [[], [], [], [], [], [], [], [], [], [], [], [], [], [], [], [], [], [], [], [], [], [], [], [], [], []] [[], [], [], [], [], [], [], [], [], [], [], [], [], [], [], [], [], [], [], [], [], [], [], [], [], []] [] [0, 1, 2, 3, 4, 5, 6, 7, 8, 9, 10, 11, 12, 13, 14, 15, 16, 17, 18, 19, 20, 21, 22, 23, 24, 25] Facts.mixed (by kernel_rfl) rfl rfl rfl (by kernel_rfl) (phiT_mono ⟨eq_monoT _ _, eq_monoT _ _, eq_monoT _ _, eq_monoT _ _, eq_monoT _ _, eq_monoT _ _, eq_monoT _ _, eq_monoT _ _, eq_monoT _ _, eq_monoT _ _, eq_monoT _ _, eq_monoT _ _, eq_monoT _ _, eq_monoT _ _, eq_monoT _ _, eq_monoT _ _, eq_monoT _ _, eq_monoT _ _, eq_monoT _ _, eq_monoT _ _, eq_monoT _ _, eq_monoT _ _, eq_monoT _ _, eq_monoT _ _, eq_monoT _ _, eq_monoT _ _, trivial⟩) ⟨?_, ?_, ?_, ?_, ?_, ?_, ?_, ?_, ?_, ?_, ?_, ?_, ?_, ?_, ?_, ?_, ?_, ?_, ?_, ?_, ?_, ?_, ?_, ?_, ?_, ?_, trivial⟩ ?_
                                  · intro HX hX X Rest hR
                                    intro hU hUp
                                    refine W_move rfl rfl rfl ?_
                                    exact W_end (OneT_end [] (Hp.le_refl _) ⟨rfl, rfl⟩)
                                  · intro HX hX X Rest hR
                                    rintro _ _ ⟨rfl, rfl⟩
                                    intro hU hUp
                                    refine W_bin rfl rfl rfl rfl rfl ?_
                                    exact W_end (OneT_end [] (Hp.le_refl _) ⟨rfl, (by first | rfl | (rw [hb958]; try rfl))⟩)
                                  · intro HX hX X Rest hR
                                    rintro _ _ ⟨rfl, rfl⟩
                                    intro hU hUp
                                    refine W_move rfl rfl rfl ?_
                                    exact W_end (OneT_end [] (Hp.le_refl _) ⟨rfl, rfl⟩)
                                  · intro HX hX X Rest hR
                                    rintro _ _ ⟨rfl, rfl⟩
                                    intro hU hUp
                                    refine W_field (o := 3) rfl rfl Proofs.Tryd.runUnderlying49 rfl Proofs.Tryd.sizeOf3 rfl rfl rfl ?_
                                    exact W_end (OneT_end [] (Hp.le_refl _) ⟨rfl, rfl⟩)
                                  · intro HX hX X Rest hR
                                    rintro _ _ ⟨rfl, rfl⟩
                                    rintro _ _ ⟨rfl, rfl⟩
                                    intro hU hUp
                                    refine W_load rfl rfl Proofs.Tryd.isAgg3 rfl (own_at (hR _ (List.mem_cons_of_mem _ (List.mem_cons_self ..))) rfl) ?_
                                    exact W_end (OneT_end [] (Hp.le_refl _) ⟨rfl, rfl⟩)
                                  · intro HX hX X Rest hR
                                    rintro _ _ ⟨rfl, rfl⟩
                                    intro hU hUp
                                    refine W_move rfl rfl rfl ?_
                                    exact W_end (OneT_end [] (Hp.le_refl _) ⟨rfl, rfl⟩)
                                  · intro HX hX X Rest hR
                                    rintro _ _ ⟨rfl, rfl⟩
                                    rintro _ _ ⟨rfl, rfl⟩
                                    intro hU hUp
                                    refine W_bin rfl rfl rfl rfl rfl ?_
                                    exact W_end (OneT_end [] (Hp.le_refl _) ⟨rfl, rfl⟩)
                                  · intro HX hX X Rest hR
                                    rintro _ _ ⟨rfl, rfl⟩
                                    rintro _ _ ⟨rfl, rfl⟩
                                    rintro _ _ ⟨rfl, rfl⟩
                                    intro hU hUp
                                    refine W_bin rfl rfl rfl rfl rfl ?_
                                    exact W_end (OneT_end [] (Hp.le_refl _) ⟨rfl, (by first | rfl | (rw [hb959]; try rfl))⟩)
                                  · intro HX hX X Rest hR
                                    rintro _ _ ⟨rfl, rfl⟩
                                    rintro _ _ ⟨rfl, rfl⟩
                                    intro hU hUp
                                    refine W_pick rfl rfl rfl rfl ?_
                                    exact W_end (OneT_end [] (Hp.le_refl _) ⟨rfl, rfl⟩)
                                  · intro HX hX X Rest hR
                                    rintro _ _ ⟨rfl, rfl⟩
                                    rintro _ _ ⟨rfl, rfl⟩
                                    intro hU hUp
                                    refine W_move rfl rfl rfl ?_
                                    exact W_end (OneT_end [] (Hp.le_refl _) ⟨rfl, rfl⟩)
                                  · intro HX hX X Rest hR
                                    rintro _ _ ⟨rfl, rfl⟩
                                    intro hU hUp
                                    refine W_move rfl rfl rfl ?_
                                    exact W_end (OneT_end [] (Hp.le_refl _) ⟨rfl, rfl⟩)
                                  · intro HX hX X Rest hR
                                    rintro _ _ ⟨rfl, rfl⟩
                                    intro hU hUp
                                    refine W_move rfl rfl rfl ?_
                                    exact W_end (OneT_end [] (Hp.le_refl _) ⟨rfl, rfl⟩)
                                  · intro HX hX X Rest hR
                                    rintro _ _ ⟨rfl, rfl⟩
                                    rintro _ _ ⟨rfl, rfl⟩
                                    intro hU hUp
                                    refine W_bin rfl rfl rfl rfl rfl ?_
                                    exact W_end (OneT_end [] (Hp.le_refl _) ⟨rfl, rfl⟩)
                                  · intro HX hX X Rest hR
                                    rintro _ _ ⟨rfl, rfl⟩
                                    rintro _ _ ⟨rfl, rfl⟩
                                    rintro _ _ ⟨rfl, rfl⟩
                                    intro hU hUp
                                    refine W_indexO (hR _ (List.mem_cons_self ..)) rfl rfl Proofs.Tryd.runUnderlying51 Proofs.Tryd.sizeOf3 rfl rfl h963 (List.getElem?_eq_some_iff.1 he964).1 ?_
                                    exact W_end (OneT_end [] (Hp.le_refl _) ⟨rfl, rfl⟩)
                                  · intro HX hX X Rest hR
                                    rintro _ _ ⟨rfl, rfl⟩
                                    rintro _ _ ⟨rfl, rfl⟩
                                    intro hU hUp
                                    refine W_load rfl rfl Proofs.Tryd.isAgg3 rfl (row_one0 (hR _ (List.mem_cons_self ..)) hg965 rfl) ?_
                                    exact W_end (OneT_end [] (Hp.le_refl _) ⟨rfl, rfl⟩)
                                  · intro HX hX X Rest hR
                                    rintro _ _ ⟨rfl, rfl⟩
                                    rintro _ _ ⟨rfl, rfl⟩
                                    intro hU hUp
                                    refine W_bin rfl rfl rfl rfl rfl ?_
                                    exact W_end (OneT_end [] (Hp.le_refl _) ⟨rfl, (by first | rfl | (rw [hb966]; try rfl))⟩)
                                  · intro HX hX X Rest hR
                                    rintro _ _ ⟨rfl, rfl⟩
                                    rintro _ _ ⟨rfl, rfl⟩
                                    intro hU hUp
                                    refine W_pick rfl rfl rfl rfl ?_
                                    exact W_end (OneT_end [] (Hp.le_refl _) ⟨rfl, rfl⟩)
                                  · intro HX hX X Rest hR
                                    rintro _ _ ⟨rfl, rfl⟩
                                    rintro _ _ ⟨rfl, rfl⟩
                                    intro hU hUp
                                    refine W_move rfl rfl rfl ?_
                                    exact W_end (OneT_end [] (Hp.le_refl _) ⟨rfl, rfl⟩)
                                  · intro HX hX X Rest hR
                                    rintro _ _ ⟨rfl, rfl⟩
                                    intro hU hUp
                                    refine W_no rfl rfl rfl ?_
                                    exact W_end (OneT_end [] (Hp.le_refl _) ⟨rfl, rfl⟩)
                                  · intro HX hX X Rest hR
                                    rintro _ _ ⟨rfl, rfl⟩
                                    rintro _ _ ⟨rfl, rfl⟩
                                    intro hU hUp
                                    refine W_no rfl rfl rfl ?_
                                    exact W_end (OneT_end [] (Hp.le_refl _) ⟨rfl, rfl⟩)
                                  · intro HX hX X Rest hR
                                    rintro _ _ ⟨rfl, rfl⟩
                                    intro hU hUp
                                    refine W_no rfl rfl rfl ?_
                                    exact W_end (OneT_end [] (Hp.le_refl _) ⟨rfl, rfl⟩)
                                  · intro HX hX X Rest hR
                                    rintro _ _ ⟨rfl, rfl⟩
                                    intro hU hUp
                                    refine W_no rfl rfl rfl ?_
                                    exact W_end (OneT_end [] (Hp.le_refl _) ⟨rfl, rfl⟩)
                                  · intro HX hX X Rest hR
                                    rintro _ _ ⟨rfl, rfl⟩
                                    rintro _ _ ⟨rfl, rfl⟩
                                    intro hU hUp
                                    refine W_no rfl rfl rfl ?_
                                    exact W_end (OneT_end [] (Hp.le_refl _) ⟨rfl, rfl⟩)
                                  · intro HX hX X Rest hR
                                    rintro _ _ ⟨rfl, rfl⟩
                                    rintro _ _ ⟨rfl, rfl⟩
                                    rintro _ _ ⟨rfl, rfl⟩
                                    intro hU hUp
                                    refine W_no rfl rfl rfl ?_
                                    exact W_end (OneT_end [] (Hp.le_refl _) ⟨rfl, rfl⟩)
                                  · intro HX hX X Rest hR
                                    rintro _ _ ⟨rfl, rfl⟩
                                    rintro _ _ ⟨rfl, rfl⟩
                                    intro hU hUp
                                    refine W_no rfl rfl rfl ?_
                                    exact W_end (OneT_end [] (Hp.le_refl _) ⟨rfl, rfl⟩)
                                  · intro HX hX X Rest hR
                                    rintro _ _ ⟨rfl, rfl⟩
                                    rintro _ _ ⟨rfl, rfl⟩
                                    intro hU hUp
                                    refine W_no rfl rfl rfl ?_
                                    exact W_end (OneT_end [] (Hp.le_refl _) ⟨rfl, rfl⟩)
                                  intro H986 hle987
                                  rintro _ _ ⟨rfl, rfl⟩
                                  rintro _ _ ⟨rfl, rfl⟩
                                  rintro _ _ ⟨rfl, rfl⟩
                                  rintro _ _ ⟨rfl, rfl⟩
                                  rintro _ _ ⟨rfl, rfl⟩
                                  rintro _ _ ⟨rfl, rfl⟩
                                  rintro _ _ ⟨rfl, rfl⟩
                                  rintro _ _ ⟨rfl, rfl⟩
                                  rintro _ _ ⟨rfl, rfl⟩
                                  rintro _ _ ⟨rfl, rfl⟩
                                  rintro _ _ ⟨rfl, rfl⟩
                                  rintro _ _ ⟨rfl, rfl⟩
                                  rintro _ _ ⟨rfl, rfl⟩
                                  rintro _ _ ⟨rfl, rfl⟩
                                  rintro _ _ ⟨rfl, rfl⟩
                                  rintro _ _ ⟨rfl, rfl⟩
                                  rintro _ _ ⟨rfl, rfl⟩
                                  rintro _ _ ⟨rfl, rfl⟩
                                  rintro _ _ ⟨rfl, rfl⟩
                                  rintro _ _ ⟨rfl, rfl⟩
                                  rintro _ _ ⟨rfl, rfl⟩
                                  rintro _ _ ⟨rfl, rfl⟩
                                  rintro _ _ ⟨rfl, rfl⟩
                                  rintro _ _ ⟨rfl, rfl⟩
                                  rintro _ _ ⟨rfl, rfl⟩
                                  rintro _ _ ⟨rfl, rfl⟩
                                  refine W_no rfl rfl rfl ?_
                                  refine W_pick rfl rfl rfl rfl ?_
                                  refine W_end ?_
                                  refine E_then ?_
                                  refine C_cond (b := true) rfl (fun _ => ?_) (fun hb => Bool.noConfusion hb)
                                  refine C_seq ?_
                                  refine C_region ?_
                                  refine W_assign rfl rfl rfl ?_
                                  refine W_end ?_
                                  refine E_then ?_
                                  refine C_ret ?_
                                  refine E_ret_then ?_
                                  refine E_ret_block ?_
                                  refine E_ret_block ?_
                                  refine E_ret_then ?_
                                  refine E_ret_then ?_
                                  refine E_ret_block ?_
                                  refine E_ret_then ?_
                                  obtain rfl := Option.some.inj hm
                                  refine E_drop (List.Sublist.cons _ (List.Sublist.cons _ (List.Sublist.refl _))) ?_
                                  refine E_weak (Hp.le_trans hle747 hle987) ?_
                                  exact end1 rfl rfl ⟨rfl, rfl, rfl⟩
                            · have hm := ite_t' hb958 hm
                              refine C_region_tok0 26 (phiT [(fun H rs v => [] = rs ∧ .int .i64 ((k107 : Int)) = v), (fun H rs v => [] = rs ∧ .bool (true) = v), (fun H rs v => [] = rs ∧ .bool (true) = v), (fun H rs v => [] = rs ∧ undef = v), (fun H rs v => [] = rs ∧ undef = v), (fun H rs v => [] = rs ∧ undef = v), (fun H rs v => [] = rs ∧ undef = v), (fun H rs v => [] = rs ∧ undef = v), (fun H rs v => [] = rs ∧ .bool (true) = v), (fun H rs v => [] = rs ∧ .bool (true) = v), (fun H rs v => [] = rs ∧ undef = v), (fun H rs v => [] = rs ∧ undef = v), (fun H rs v => [] = rs ∧ undef = v), (fun H rs v => [] = rs ∧ undef = v), (fun H rs v => [] = rs ∧ undef = v), (fun H rs v => [] = rs ∧ undef = v), (fun H rs v => [] = rs ∧ .bool (true) = v), (fun H rs v => [] = rs ∧ .bool (true) = v), (fun H rs v => [] = rs ∧ undef = v), (fun H rs v => [] = rs ∧ undef = v), (fun H rs v => [] = rs ∧ undef = v), (fun H rs v => [] = rs ∧ undef = v), (fun H rs v => [] = rs ∧ undef = v), (fun H rs v => [] = rs ∧ undef = v), (fun H rs v => [] = rs ∧ undef = v), (fun H rs v => [] = rs ∧ undef = v)]) [[], [], [], [], [], [], [], [], [], [], [], [], [], [], [], [], [], [], [], [], [], [], [], [], [], []] [[], [], [], [], [], [], [], [], [], [], [], [], [], [], [], [], [], [], [], [], [], [], [], [], [], []] [] [0, 1, 2, 3, 4, 5, 6, 7, 8, 9, 10, 11, 12, 13, 14, 15, 16, 17, 18, 19, 20, 21, 22, 23, 24, 25] Facts.mixed (by kernel_rfl) rfl rfl rfl (by kernel_rfl) (phiT_mono ⟨eq_monoT _ _, eq_monoT _ _, eq_monoT _ _, eq_monoT _ _, eq_monoT _ _, eq_monoT _ _, eq_monoT _ _, eq_monoT _ _, eq_monoT _ _, eq_monoT _ _, eq_monoT _ _, eq_monoT _ _, eq_monoT _ _, eq_monoT _ _, eq_monoT _ _, eq_monoT _ _, eq_monoT _ _, eq_monoT _ _, eq_monoT _ _, eq_monoT _ _, eq_monoT _ _, eq_monoT _ _, eq_monoT _ _, eq_monoT _ _, eq_monoT _ _, eq_monoT _ _, trivial⟩) ⟨?_, ?_, ?_, ?_, ?_, ?_, ?_, ?_, ?_, ?_, ?_, ?_, ?_, ?_, ?_, ?_, ?_, ?_, ?_, ?_, ?_, ?_, ?_, ?_, ?_, ?_, trivial⟩ ?_
                              · intro HX hX X Rest hR
                                intro hU hUp
                                refine W_move rfl rfl rfl ?_
                                exact W_end (OneT_end [] (Hp.le_refl _) ⟨rfl, rfl⟩)
                              · intro HX hX X Rest hR
                                rintro _ _ ⟨rfl, rfl⟩
                                intro hU hUp
                                refine W_bin rfl rfl rfl rfl rfl ?_
                                exact W_end (OneT_end [] (Hp.le_refl _) ⟨rfl, (by first | rfl | (rw [hb958]; try rfl))⟩)
                              · intro HX hX X Rest hR
                                rintro _ _ ⟨rfl, rfl⟩
                                intro hU hUp
                                refine W_move rfl rfl rfl ?_
                                exact W_end (OneT_end [] (Hp.le_refl _) ⟨rfl, rfl⟩)
                              · intro HX hX X Rest hR
                                rintro _ _ ⟨rfl, rfl⟩
                                intro hU hUp
                                refine W_no rfl rfl rfl ?_
                                exact W_end (OneT_end [] (Hp.le_refl _) ⟨rfl, rfl⟩)
                              · intro HX hX X Rest hR
                                rintro _ _ ⟨rfl, rfl⟩
                                rintro _ _ ⟨rfl, rfl⟩
                                intro hU hUp
                                refine W_no rfl rfl rfl ?_
                                exact W_end (OneT_end [] (Hp.le_refl _) ⟨rfl, rfl⟩)
                              · intro HX hX X Rest hR
                                rintro _ _ ⟨rfl, rfl⟩
                                intro hU hUp
                                refine W_no rfl rfl rfl ?_
                                exact W_end (OneT_end [] (Hp.le_refl _) ⟨rfl, rfl⟩)
                              · intro HX hX X Rest hR
                                rintro _ _ ⟨rfl, rfl⟩
                                rintro _ _ ⟨rfl, rfl⟩
                                intro hU hUp
                                refine W_no rfl rfl rfl ?_
                                exact W_end (OneT_end [] (Hp.le_refl _) ⟨rfl, rfl⟩)
                              · intro HX hX X Rest hR
                                rintro _ _ ⟨rfl, rfl⟩
                                rintro _ _ ⟨rfl, rfl⟩
                                rintro _ _ ⟨rfl, rfl⟩
                                intro hU hUp
                                refine W_no rfl rfl rfl ?_
                                exact W_end (OneT_end [] (Hp.le_refl _) ⟨rfl, rfl⟩)
                              · intro HX hX X Rest hR
                                rintro _ _ ⟨rfl, rfl⟩
                                rintro _ _ ⟨rfl, rfl⟩
                                intro hU hUp
                                refine W_pick rfl rfl rfl rfl ?_
                                exact W_end (OneT_end [] (Hp.le_refl _) ⟨rfl, rfl⟩)
                              · intro HX hX X Rest hR
                                rintro _ _ ⟨rfl, rfl⟩
                                rintro _ _ ⟨rfl, rfl⟩
                                intro hU hUp
                                refine W_move rfl rfl rfl ?_
                                exact W_end (OneT_end [] (Hp.le_refl _) ⟨rfl, rfl⟩)
                              · intro HX hX X Rest hR
                                rintro _ _ ⟨rfl, rfl⟩
                                intro hU hUp
                                refine W_no rfl rfl rfl ?_
                                exact W_end (OneT_end [] (Hp.le_refl _) ⟨rfl, rfl⟩)
                              · intro HX hX X Rest hR
                                rintro _ _ ⟨rfl, rfl⟩
                                intro hU hUp
                                refine W_no rfl rfl rfl ?_
                                exact W_end (OneT_end [] (Hp.le_refl _) ⟨rfl, rfl⟩)
                              · intro HX hX X Rest hR
                                rintro _ _ ⟨rfl, rfl⟩
                                rintro _ _ ⟨rfl, rfl⟩
                                intro hU hUp
                                refine W_no rfl rfl rfl ?_
                                exact W_end (OneT_end [] (Hp.le_refl _) ⟨rfl, rfl⟩)
                              · intro HX hX X Rest hR
                                rintro _ _ ⟨rfl, rfl⟩
                                rintro _ _ ⟨rfl, rfl⟩
                                rintro _ _ ⟨rfl, rfl⟩
                                intro hU hUp
                                refine W_no rfl rfl rfl ?_
                                exact W_end (OneT_end [] (Hp.le_refl _) ⟨rfl, rfl⟩)
                              · intro HX hX X Rest hR
                                rintro _ _ ⟨rfl, rfl⟩
                                rintro _ _ ⟨rfl, rfl⟩
                                intro hU hUp
                                refine W_no rfl rfl rfl ?_
                                exact W_end (OneT_end [] (Hp.le_refl _) ⟨rfl, rfl⟩)
                              · intro HX hX X Rest hR
                                rintro _ _ ⟨rfl, rfl⟩
                                rintro _ _ ⟨rfl, rfl⟩
                                intro hU hUp
                                refine W_no rfl rfl rfl ?_
                                exact W_end (OneT_end [] (Hp.le_refl _) ⟨rfl, rfl⟩)
                              · intro HX hX X Rest hR
                                rintro _ _ ⟨rfl, rfl⟩
                                rintro _ _ ⟨rfl, rfl⟩
                                intro hU hUp
                                refine W_pick rfl rfl rfl rfl ?_
                                exact W_end (OneT_end [] (Hp.le_refl _) ⟨rfl, rfl⟩)
                              · intro HX hX X Rest hR
                                rintro _ _ ⟨rfl, rfl⟩
                                rintro _ _ ⟨rfl, rfl⟩
                                intro hU hUp
                                refine W_move rfl rfl rfl ?_
                                exact W_end (OneT_end [] (Hp.le_refl _) ⟨rfl, rfl⟩)
                              · intro HX hX X Rest hR
                                rintro _ _ ⟨rfl, rfl⟩
                                intro hU hUp
                                refine W_no rfl rfl rfl ?_
                                exact W_end (OneT_end [] (Hp.le_refl _) ⟨rfl, rfl⟩)
                              · intro HX hX X Rest hR
                                rintro _ _ ⟨rfl, rfl⟩
                                rintro _ _ ⟨rfl, rfl⟩
                                intro hU hUp
                                refine W_no rfl rfl rfl ?_
                                exact W_end (OneT_end [] (Hp.le_refl _) ⟨rfl, rfl⟩)
                              · intro HX hX X Rest hR
                                rintro _ _ ⟨rfl, rfl⟩
                                intro hU hUp
                                refine W_no rfl rfl rfl ?_
                                exact W_end (OneT_end [] (Hp.le_refl _) ⟨rfl, rfl⟩)
                              · intro HX hX X Rest hR
                                rintro _ _ ⟨rfl, rfl⟩
                                intro hU hUp
                                refine W_no rfl rfl rfl ?_
                                exact W_end (OneT_end [] (Hp.le_refl _) ⟨rfl, rfl⟩)
                              · intro HX hX X Rest hR
                                rintro _ _ ⟨rfl, rfl⟩
                                rintro _ _ ⟨rfl, rfl⟩
                                intro hU hUp
                                refine W_no rfl rfl rfl ?_
                                exact W_end (OneT_end [] (Hp.le_refl _) ⟨rfl, rfl⟩)
                              · intro HX hX X Rest hR
                                rintro _ _ ⟨rfl, rfl⟩
                                rintro _ _ ⟨rfl, rfl⟩
                                rintro _ _ ⟨rfl, rfl⟩
                                intro hU hUp
                                refine W_no rfl rfl rfl ?_
                                exact W_end (OneT_end [] (Hp.le_refl _) ⟨rfl, rfl⟩)
                              · intro HX hX X Rest hR
                                rintro _ _ ⟨rfl, rfl⟩
                                rintro _ _ ⟨rfl, rfl⟩
                                intro hU hUp
                                refine W_no rfl rfl rfl ?_
                                exact W_end (OneT_end [] (Hp.le_refl _) ⟨rfl, rfl⟩)
                              · intro HX hX X Rest hR
                                rintro _ _ ⟨rfl, rfl⟩
                                rintro _ _ ⟨rfl, rfl⟩
                                intro hU hUp
                                refine W_no rfl rfl rfl ?_
                                exact W_end (OneT_end [] (Hp.le_refl _) ⟨rfl, rfl⟩)
                              intro H988 hle989
                              rintro _ _ ⟨rfl, rfl⟩
                              rintro _ _ ⟨rfl, rfl⟩
                              rintro _ _ ⟨rfl, rfl⟩
                              rintro _ _ ⟨rfl, rfl⟩
                              rintro _ _ ⟨rfl, rfl⟩
                              rintro _ _ ⟨rfl, rfl⟩
                              rintro _ _ ⟨rfl, rfl⟩
                              rintro _ _ ⟨rfl, rfl⟩
                              rintro _ _ ⟨rfl, rfl⟩
                              rintro _ _ ⟨rfl, rfl⟩
                              rintro _ _ ⟨rfl, rfl⟩
                              rintro _ _ ⟨rfl, rfl⟩
                              rintro _ _ ⟨rfl, rfl⟩
                              rintro _ _ ⟨rfl, rfl⟩
                              rintro _ _ ⟨rfl, rfl⟩
                              rintro _ _ ⟨rfl, rfl⟩
                              rintro _ _ ⟨rfl, rfl⟩
                              rintro _ _ ⟨rfl, rfl⟩
                              rintro _ _ ⟨rfl, rfl⟩
                              rintro _ _ ⟨rfl, rfl⟩
                              rintro _ _ ⟨rfl, rfl⟩
                              rintro _ _ ⟨rfl, rfl⟩
                              rintro _ _ ⟨rfl, rfl⟩
                              rintro _ _ ⟨rfl, rfl⟩
                              rintro _ _ ⟨rfl, rfl⟩
                              rintro _ _ ⟨rfl, rfl⟩
                              refine W_no rfl rfl rfl ?_
                              refine W_pick rfl rfl rfl rfl ?_
                              refine W_end ?_
                              refine E_then ?_
                              refine C_cond (b := true) rfl (fun _ => ?_) (fun hb => Bool.noConfusion hb)
                              refine C_seq ?_
                              refine C_region ?_
                              refine W_assign rfl rfl rfl ?_
                              refine W_end ?_
                              refine E_then ?_
                              refine C_ret ?_
                              refine E_ret_then ?_
                              refine E_ret_block ?_
                              refine E_ret_block ?_
                              refine E_ret_then ?_
                              refine E_ret_then ?_
                              refine E_ret_block ?_
                              refine E_ret_then ?_
                              obtain rfl := Option.some.inj hm
                              refine E_drop (List.Sublist.cons _ (List.Sublist.cons _ (List.Sublist.refl _))) ?_
                              refine E_weak (Hp.le_trans hle747 hle989) ?_
                              exact end1 rfl rfl ⟨rfl, rfl, rfl⟩
                          · have hm := ite_f' hb957 hm
                            refine C_seq_join (fun H' M' L' => H746 = H' ∧ .row v104 3 (Rep.sz Int) (l744.set (((k107 : Int) : Int).toNat) ((k107 : Int))).length xs934 :: M = M' ∧ [(0, v0), (3, v104), (18, v0), (19, .int .i64 ((p0_l.length : Int))), (20, .int .i64 ((k107 : Int))), (71, .bool ((!decide (y752.A = 0)) || (!decide (y752.B_ = 0))))] = L') ?_ (fun J991 => ?_)
                            · rintro _ _ _ ⟨rfl, rfl, rfl⟩
                              refine C_cond (b := (!decide (y752.A = 0)) || (!decide (y752.B_ = 0))) rfl (fun hb992 => ?_) (fun hb992 => ?_)
                              · have hm := ite_t' hb992 hm
                                refine C_seq ?_
                                refine C_region ?_
                                refine W_assign rfl rfl rfl ?_
                                refine W_end ?_
                                refine E_then ?_
                                refine C_ret ?_
                                refine E_ret_block ?_
                                refine E_ret_block ?_
                                refine E_ret_then ?_
                                refine E_ret_then ?_
                                refine E_ret_block ?_
                                refine E_ret_then ?_
                                obtain rfl := Option.some.inj hm
                                refine E_drop (List.Sublist.cons _ (List.Sublist.refl _)) ?_
                                refine E_weak hle747 ?_
                                exact end1 rfl rfl ⟨rfl, rfl, rfl⟩
                              · have hm := ite_f' hb992 hm
                                refine C_skip ?_
                                refine E_normal_block ?_
                                refine E_normal_block ?_
                                exact E_keepJ (J916 _ _ _ ⟨(l744.set (((k107 : Int) : Int).toNat) ((k107 : Int))), xs934, hm, hr931, (Hp.le_refl _), rfl, rfl⟩) (List.Perm.refl _) ⟨rfl, rfl, rfl, rfl, rfl, trivial⟩
                            · refine C_region ?_
                              refine W_field (o := 2) rfl rfl Proofs.Tryd.runUnderlying49 rfl Proofs.Tryd.sizeOf3 rfl rfl rfl ?_
                              refine W_load rfl rfl Proofs.Tryd.isAgg3 rfl (own_at (List.mem_cons_of_mem _ (List.mem_cons_self ..)) rfl) ?_
                              refine W_bin rfl rfl rfl rfl rfl ?_
                              refine W_move rfl rfl rfl ?_
                              cases hb993 : (decide (y752.A = 0))
                              · refine W_no rfl rfl rfl ?_
                                refine W_no rfl rfl rfl ?_
                                refine W_no rfl rfl rfl ?_
                                refine W_pick rfl rfl rfl rfl ?_
                                refine W_end ?_
                                refine E_drop (List.Sublist.cons_cons _ (List.Sublist.cons _ (List.Sublist.refl _))) ?_
                                exact E_keepJ (J991 _ _ _ ⟨rfl, rfl, rfl⟩) (List.Perm.refl _) ⟨rfl, rfl, rfl, rfl, rfl, (by show some (Value.bool (true)) = some (Value.bool ((!decide (y752.A = 0)) || (!decide (y752.B_ = 0)))); simp only [hb101, hb102, hb923, hb924, hb926, hb935, hb957, hb993, Bool.and_true, Bool.true_and, Bool.false_and, Bool.and_false, Bool.or_true, Bool.true_or, Bool.or_false, Bool.false_or, Bool.not_true, Bool.not_false]), trivial⟩
                              · refine W_field (o := 3) rfl rfl Proofs.Tryd.runUnderlying49 rfl Proofs.Tryd.sizeOf3 rfl rfl rfl ?_
                                refine W_load rfl rfl Proofs.Tryd.isAgg3 rfl (own_at (List.mem_cons_of_mem _ (List.mem_cons_self ..)) rfl) ?_
                                refine W_bin rfl rfl rfl rfl rfl ?_
                                refine W_pick rfl rfl rfl rfl ?_
                                refine W_end ?_
                                refine E_drop (List.Sublist.cons_cons _ (List.Sublist.cons _ (List.Sublist.refl _))) ?_
                                exact E_keepJ (J991 _ _ _ ⟨rfl, rfl, rfl⟩) (List.Perm.refl _) ⟨rfl, rfl, rfl, rfl, rfl, (by show some (Value.bool (!decide (y752.B_ = 0))) = some (Value.bool ((!decide (y752.A = 0)) || (!decide (y752.B_ = 0)))); simp only [hb101, hb102, hb923, hb924, hb926, hb935, hb957, hb993, Bool.and_true, Bool.true_and, Bool.false_and, Bool.and_false, Bool.or_true, Bool.true_or, Bool.or_false, Bool.false_or, Bool.not_true, Bool.not_false]), trivial⟩
                        · refine C_seq ?_
                          refine C_region ?_
                          refine W_bin rfl rfl rfl rfl rfl ?_
                          refine W_assign rfl rfl rfl ?_
                          refine W_end ?_
                          refine E_then ?_
                          refine C_cond (b := decide (y752.Kind = 5)) rfl (fun hb994 => ?_) (fun hb994 => ?_)
                          · have hm := ite_t' hb994 hm
                            refine C_skip ?_
                            exact E_keepJ (J956 _ _ _ ⟨decide (y752.Kind = 5), hm, rfl, rfl, rfl⟩) (List.Perm.refl _) ⟨rfl, rfl, rfl, rfl, rfl, rfl, rfl, rfl, trivial⟩
                          · have hm := ite_f' hb994 hm
                            refine C_region ?_
                            refine W_bin rfl rfl rfl rfl rfl ?_
                            refine W_assign rfl rfl rfl ?_
                            refine W_end ?_
                            exact E_keepJ (J956 _ _ _ ⟨decide (y752.Kind = 6), hm, rfl, rfl, rfl⟩) (List.Perm.refl _) ⟨rfl, rfl, rfl, rfl, rfl, rfl, rfl, rfl, trivial⟩
                  · refine C_region ?_
                    refine W_move rfl rfl rfl ?_
                    refine W_un rfl rfl rfl rfl ?_
                    refine W_move rfl rfl rfl ?_
                    refine W_field (o := 1) rfl rfl Proofs.Tryd.runUnderlying49 rfl Proofs.Tryd.sizeOf9 rfl rfl rfl ?_
                    refine W_load rfl rfl Proofs.Tryd.isAgg9 rfl (own_at (List.mem_cons_self ..) rfl) ?_
                    refine W_bin rfl rfl rfl rfl rfl ?_
                    refine W_pick rfl rfl rfl rfl ?_
                    refine W_assign rfl rfl rfl ?_
                    refine W_end ?_
                    exact E_keepJ (J925 _ _ _ ⟨rfl, rfl, rfl⟩) (List.Perm.refl _) ⟨rfl, rfl, rfl, rfl, rfl, rfl, rfl, rfl, trivial⟩
                · have hm := ite_t' hb924 hm
                  refine W_field (o := 1) rfl rfl Proofs.Tryd.runUnderlying49 rfl Proofs.Tryd.sizeOf9 rfl rfl rfl ?_
                  refine W_load rfl rfl Proofs.Tryd.isAgg9 rfl (own_at (List.mem_cons_self ..) rfl) ?_
                  obtain ⟨r995, hc996, hm⟩ := bind_some hm
                  refine W_call Proofs.Tryd.call21 rfl rfl rfl (fun w ht => by have h := m_netmodel_Name_c (hm := hc996)  ht; exact h) ?_
                  rintro _ _ _ ⟨rfl, rfl, rfl⟩
                  refine W_un rfl rfl rfl rfl ?_
                  refine W_pick rfl rfl rfl rfl ?_
                  refine W_assign rfl rfl rfl ?_
                  refine W_end ?_
                  refine E_then ?_
                  refine C_cond (b := !r995) rfl (fun hb997 => ?_) (fun hb997 => ?_)
                  · have hm := ite_t' hb997 hm
                    refine C_seq ?_
                    refine C_region ?_
                    refine W_assign rfl rfl rfl ?_
                    refine W_end ?_
                    refine E_then ?_
                    refine C_ret ?_
                    refine E_ret_block ?_
                    refine E_ret_then ?_
                    refine E_ret_block ?_
                    refine E_ret_then ?_
                    refine E_ret_then ?_
                    refine E_ret_block ?_
                    refine E_ret_then ?_
                    obtain rfl := Option.some.inj hm
                    refine E_drop (List.Sublist.cons _ (List.Sublist.cons _ (List.Sublist.refl _))) ?_
                    refine E_weak hle747 ?_
                    exact end1 rfl rfl ⟨rfl, rfl, rfl⟩
                  · have hm := ite_f' hb997 hm
                    refine C_seq_join (fun H' M' L' => H746 = H' ∧ .obj b918 (.cells [.int .i64 (y752.Kind), .string (y752.Name), .int .i64 (y752.A), .int .i64 (y752.B_)].toArray 49 (0, 0)) :: .row v104 3 (Rep.sz Int) l744.length xs743 :: M = M' ∧ [(0, v0), (3, v104), (4, .int .i64 ((k107 : Int))), (5, .pointer (some ⟨b918, 0, none⟩)), (18, v0), (19, .int .i64 ((p0_l.length : Int))), (20, .int .i64 ((k107 : Int))), (50, .bool (false))] = L') ?_ (fun J998 => ?_)
                    · rintro _ _ _ ⟨rfl, rfl, rfl⟩
                      refine C_cond (b := false) rfl (fun hb => Bool.noConfusion hb) (fun _ => ?_)
                      refine C_skip ?_
                      refine E_normal_block ?_
                      refine E_then ?_
                      refine C_seq ?_
                      refine C_region ?_
                      refine W_move rfl rfl rfl ?_
                      refine W_move rfl rfl rfl ?_
                      refine W_move rfl rfl rfl ?_
                      obtain ⟨y999, h1000, he1001, hm⟩ := idx_some hm
                      refine W_indexO (List.mem_cons_of_mem _ (List.mem_cons_self ..)) rfl rfl Proofs.Tryd.runUnderlying51 Proofs.Tryd.sizeOf3 rfl rfl h1000 (List.getElem?_eq_some_iff.1 he1001).1 ?_
                      obtain ⟨_, rfl, hg1002⟩ := (hr745).elem he1001
                      refine W_perm (List.Perm.swap _ _ _) ?_
                      obtain ⟨hr1003, he1004, hg1005⟩ := Rw.put (cs := [.int .i64 ((k107 : Int))]) (o := 0) (c := [.int .i64 (y999)]) (out := [.int .i64 ((k107 : Int))]) (e2 := ((k107 : Int))) hr745 he1001 rfl hg1002 rfl rfl rfl
                      refine W_storeO2 (i := ((k107 : Int) : Int).toNat * Rep.sz Int + 0) (cs := [.int .i64 ((k107 : Int))]) rfl Proofs.Tryd.sizeOf3 rfl (row_ad0 _ _) rfl rfl rfl (Rw.room hr745 he1001 rfl) rfl (all_cons rfl all_nil) (n' := (l744.set (((k107 : Int) : Int).toNat) ((k107 : Int))).length) List.length_set ?_
                      generalize over xs743 (((k107 : Int) : Int).toNat * Rep.sz Int + 0) [.int .i64 ((k107 : Int))] = xs1006 at hr1003 hg1005 ⊢
                      refine W_end ?_
                      refine E_then ?_
                      refine C_seq ?_
                      refine C_region ?_
                      refine W_field (o := 0) rfl rfl Proofs.Tryd.runUnderlying49 rfl Proofs.Tryd.sizeOf3 rfl rfl rfl ?_
                      refine W_load rfl rfl Proofs.Tryd.isAgg3 rfl (own_at (List.mem_cons_of_mem _ (List.mem_cons_self ..)) rfl) ?_
                      refine W_end ?_
                      refine E_then ?_
                      refine C_block ?_
                      refine C_seq ?_
                      refine C_region ?_
                      refine W_bin rfl rfl rfl rfl rfl ?_
                      refine W_assign rfl rfl rfl ?_
                      refine W_end ?_
                      refine E_then ?_
                      refine C_cond (b := decide (y752.Kind = 4)) rfl (fun hb1007 => ?_) (fun hb1007 => ?_)
                      · have hm := ite_t' hb1007 hm
                        refine C_seq ?_
                        refine C_seq_join (fun H' M' L' => H746 = H' ∧ .row v104 3 (Rep.sz Int) (l744.set (((k107 : Int) : Int).toNat) ((k107 : Int))).length xs1006 :: .obj b918 (.cells [.int .i64 (y752.Kind), .string (y752.Name), .int .i64 (y752.A), .int .i64 (y752.B_)].toArray 49 (0, 0)) :: M = M' ∧ [(0, v0), (3, v104), (4, .int .i64 ((k107 : Int))), (5, .pointer (some ⟨b918, 0, none⟩)), (18, v0), (19, .int .i64 ((p0_l.length : Int))), (20, .int .i64 ((k107 : Int))), (87, .bool (((decide ((k107 : Int) = 0)) || (!decide (y752.A = (IntKind.i64.wrap ((k107 : Int) - 1))))) || (!decide (y752.B_ = 0))))] = L') ?_ (fun J1010 => ?_)
                        · rintro _ _ _ ⟨rfl, rfl, rfl⟩
                          refine C_cond (b := ((decide ((k107 : Int) = 0)) || (!decide (y752.A = (IntKind.i64.wrap ((k107 : Int) - 1))))) || (!decide (y752.B_ = 0))) rfl (fun hb1011 => ?_) (fun hb1011 => ?_)
                          · have hm := ite_t' hb1011 hm
                            refine C_seq ?_
                            refine C_region ?_
                            refine W_assign rfl rfl rfl ?_
                            refine W_end ?_
                            refine E_then ?_
                            refine C_ret ?_
                            refine E_ret_then ?_
                            refine E_ret_block ?_
                            refine E_ret_block ?_
                            refine E_ret_then ?_
                            refine E_ret_then ?_
                            refine E_ret_block ?_
                            refine E_ret_then ?_
                            obtain rfl := Option.some.inj hm
                            refine E_drop (List.Sublist.cons _ (List.Sublist.cons _ (List.Sublist.refl _))) ?_
                            refine E_weak hle747 ?_
                            exact end1 rfl rfl ⟨rfl, rfl, rfl⟩
                          · have hm := ite_f' hb1011 hm
                            refine C_skip ?_
                            refine E_then ?_
                            refine C_region ?_
                            refine W_move rfl rfl rfl ?_
                            refine W_move rfl rfl rfl ?_
                            refine W_move rfl rfl rfl ?_
                            refine W_field (o := 2) rfl rfl Proofs.Tryd.runUnderlying49 rfl Proofs.Tryd.sizeOf3 rfl rfl rfl ?_
                            refine W_load rfl rfl Proofs.Tryd.isAgg3 rfl (own_at (List.mem_cons_of_mem _ (List.mem_cons_self ..)) rfl) ?_
                            obtain ⟨y1012, h1013, he1014, hm⟩ := idx_some hm
                            refine W_indexO (List.mem_cons_self ..) rfl rfl Proofs.Tryd.runUnderlying51 Proofs.Tryd.sizeOf3 rfl rfl h1013 (List.getElem?_eq_some_iff.1 he1014).1 ?_
                            obtain ⟨_, rfl, hg1015⟩ := (hr1003).elem he1014
                            refine W_load rfl rfl Proofs.Tryd.isAgg3 rfl (row_one0 (List.mem_cons_self ..) hg1015 rfl) ?_
                            obtain ⟨y1016, h1017, he1018, hm⟩ := idx_some hm
                            refine W_indexO (List.mem_cons_self ..) rfl rfl Proofs.Tryd.runUnderlying51 Proofs.Tryd.sizeOf3 rfl rfl h1017 (List.getElem?_eq_some_iff.1 he1018).1 ?_
                            obtain ⟨_, rfl, hg1019⟩ := (hr1003).elem he1018
                            obtain ⟨hr1020, he1021, hg1022⟩ := Rw.put (cs := [.int .i64 (y1012)]) (o := 0) (c := [.int .i64 (y1016)]) (out := [.int .i64 (y1012)]) (e2 := y1012) hr1003 he1018 rfl hg1019 rfl rfl rfl
                            refine W_storeO2 (i := ((k107 : Int) : Int).toNat * Rep.sz Int + 0) (cs := [.int .i64 (y1012)]) rfl Proofs.Tryd.sizeOf3 rfl (row_ad0 _ _) rfl rfl rfl (Rw.room hr1003 he1018 rfl) rfl (all_cons rfl all_nil) (n' := ((l744.set (((k107 : Int) : Int).toNat) ((k107 : Int))).set (((k107 : Int) : Int).toNat) y1012).length) List.length_set ?_
                            generalize over xs1006 (((k107 : Int) : Int).toNat * Rep.sz Int + 0) [.int .i64 (y1012)] = xs1023 at hr1020 hg1022 ⊢
                            refine W_end ?_
                            refine E_normal_block ?_
                            refine E_normal_block ?_
                            refine E_drop (List.Sublist.cons_cons _ (List.Sublist.cons _ (List.Sublist.refl _))) ?_
                            exact E_keepJ (J916 _ _ _ ⟨((l744.set (((k107 : Int) : Int).toNat) ((k107 : Int))).set (((k107 : Int) : Int).toNat) y1012), xs1023, hm, hr1020, (Hp.le_refl _), rfl, rfl⟩) (List.Perm.refl _) ⟨rfl, rfl, rfl, rfl, rfl, trivial⟩
                        · refine C_region ?_
                          refine W_move rfl rfl rfl ?_
                          refine W_bin rfl rfl rfl rfl rfl ?_
                          refine W_move rfl rfl rfl ?_
                          cases hb1024 : (decide ((k107 : Int) = 0))
                          · refine W_field (o := 2) rfl rfl Proofs.Tryd.runUnderlying49 rfl Proofs.Tryd.sizeOf3 rfl rfl rfl ?_
                            refine W_load rfl rfl Proofs.Tryd.isAgg3 rfl (own_at (List.mem_cons_of_mem _ (List.mem_cons_self ..)) rfl) ?_
                            refine W_move rfl rfl rfl ?_
                            refine W_bin rfl rfl rfl rfl rfl ?_
                            refine W_bin rfl rfl rfl rfl rfl ?_
                            refine W_pick rfl rfl rfl rfl ?_
                            refine W_move rfl rfl rfl ?_
                            cases hb1025 : (decide (y752.A = (IntKind.i64.wrap ((k107 : Int) - 1))))
                            · refine W_no rfl rfl rfl ?_
                              refine W_no rfl rfl rfl ?_
                              refine W_no rfl rfl rfl ?_
                              refine W_pick rfl rfl rfl rfl ?_
                              refine W_end ?_
                              exact E_keepJ (J1010 _ _ _ ⟨rfl, rfl, rfl⟩) (List.Perm.refl _) ⟨rfl, rfl, rfl, rfl, rfl, rfl, rfl, (by show some (Value.bool (true)) = some (Value.bool (((decide ((k107 : Int) = 0)) || (!decide (y752.A = (IntKind.i64.wrap ((k107 : Int) - 1))))) || (!decide (y752.B_ = 0)))); simp only [hb101, hb102, hb923, hb924, hb997, hb1007, hb1024, hb1025, Bool.and_true, Bool.true_and, Bool.false_and, Bool.and_false, Bool.or_true, Bool.true_or, Bool.or_false, Bool.false_or, Bool.not_true, Bool.not_false]), trivial⟩
                            · refine W_field (o := 3) rfl rfl Proofs.Tryd.runUnderlying49 rfl Proofs.Tryd.sizeOf3 rfl rfl rfl ?_
                              refine W_load rfl rfl Proofs.Tryd.isAgg3 rfl (own_at (List.mem_cons_of_mem _ (List.mem_cons_self ..)) rfl) ?_
                              refine W_bin rfl rfl rfl rfl rfl ?_
                              refine W_pick rfl rfl rfl rfl ?_
                              refine W_end ?_
                              exact E_keepJ (J1010 _ _ _ ⟨rfl, rfl, rfl⟩) (List.Perm.refl _) ⟨rfl, rfl, rfl, rfl, rfl, rfl, rfl, (by show some (Value.bool (!decide (y752.B_ = 0))) = some (Value.bool (((decide ((k107 : Int) = 0)) || (!decide (y752.A = (IntKind.i64.wrap ((k107 : Int) - 1))))) || (!decide (y752.B_ = 0)))); simp only [hb101, hb102, hb923, hb924, hb997, hb1007, hb1024, hb1025, Bool.and_true, Bool.true_and, Bool.false_and, Bool.and_false, Bool.or_true, Bool.true_or, Bool.or_false, Bool.false_or, Bool.not_true, Bool.not_false]), trivial⟩
                          · refine W_no rfl rfl rfl ?_
                            refine W_no rfl rfl rfl ?_
                            refine W_no rfl rfl rfl ?_
                            refine W_no rfl rfl rfl ?_
                            refine W_no rfl rfl rfl ?_
                            refine W_pick rfl rfl rfl rfl ?_
                            refine W_move rfl rfl rfl ?_
                            refine W_no rfl rfl rfl ?_
                            refine W_no rfl rfl rfl ?_
                            refine W_no rfl rfl rfl ?_
                            refine W_pick rfl rfl rfl rfl ?_
                            refine W_end ?_
                            exact E_keepJ (J1010 _ _ _ ⟨rfl, rfl, rfl⟩) (List.Perm.refl _) ⟨rfl, rfl, rfl, rfl, rfl, rfl, rfl, (by show some (Value.bool (true)) = some (Value.bool (((decide ((k107 : Int) = 0)) || (!decide (y752.A = (IntKind.i64.wrap ((k107 : Int) - 1))))) || (!decide (y752.B_ = 0)))); simp only [hb101, hb102, hb923, hb924, hb997, hb1007, hb1024, Bool.and_true, Bool.true_and, Bool.false_and, Bool.and_false, Bool.or_true, Bool.true_or, Bool.or_false, Bool.false_or, Bool.not_true, Bool.not_false]), trivial⟩
                      · have hm := ite_f' hb1007 hm
                        refine C_seq_join (fun H' M' L' => ∃ c1027 : Bool, m_interlock_condition_b16 l744 nx749 y752 k107 c1027 = some r ∧ H746 = H' ∧ .row v104 3 (Rep.sz Int) (l744.set (((k107 : Int) : Int).toNat) ((k107 : Int))).length xs1006 :: .obj b918 (.cells [.int .i64 (y752.Kind), .string (y752.Name), .int .i64 (y752.A), .int .i64 (y752.B_)].toArray 49 (0, 0)) :: M = M' ∧ [(0, v0), (3, v104), (4, .int .i64 ((k107 : Int))), (5, .pointer (some ⟨b918, 0, none⟩)), (18, v0), (19, .int .i64 ((p0_l.length : Int))), (20, .int .i64 ((k107 : Int))), (96, .bool (c1027))] = L') ?_ (fun J1028 => ?_)
                        · rintro _ _ _ ⟨c1027, hm, rfl, rfl, rfl⟩
                          unfold m_interlock_condition_b16 at hm
                          refine C_cond (b := c1027) rfl (fun hb1029 => ?_) (fun hb1029 => ?_)
                          · have hm := ite_t' hb1029 hm
                            refine C_seq ?_
                            refine C_seq ?_
                            cases hb1030 : (decide ((k107 : Int) = 0))
                            · have hm := ite_f' hb1030 hm
                              cases hb1031 : (decide (y752.B_ = (IntKind.i64.wrap ((k107 : Int) - 1))))
                              · have hm := ite_f' hb1031 hm
                                refine C_region_tok0 26 (phiT [(fun H rs v => [] = rs ∧ .int .i64 ((k107 : Int)) = v), (fun H rs v => [] = rs ∧ .bool (false) = v), (fun H rs v => [] = rs ∧ .bool (false) = v), (fun H rs v => [] = rs ∧ .pointer (some ⟨b918, 3, none⟩) = v), (fun H rs v => [] = rs ∧ .int .i64 (y752.B_) = v), (fun H rs v => [] = rs ∧ .int .i64 ((k107 : Int)) = v), (fun H rs v => [] = rs ∧ .int .i64 (IntKind.i64.wrap ((k107 : Int) - 1)) = v), (fun H rs v => [] = rs ∧ .bool (true) = v), (fun H rs v => [] = rs ∧ .bool (true) = v), (fun H rs v => [] = rs ∧ .bool (true) = v), (fun H rs v => [] = rs ∧ undef = v), (fun H rs v => [] = rs ∧ undef = v), (fun H rs v => [] = rs ∧ undef = v), (fun H rs v => [] = rs ∧ undef = v), (fun H rs v => [] = rs ∧ undef = v), (fun H rs v => [] = rs ∧ undef = v), (fun H rs v => [] = rs ∧ .bool (true) = v), (fun H rs v => [] = rs ∧ .bool (true) = v), (fun H rs v => [] = rs ∧ undef = v), (fun H rs v => [] = rs ∧ undef = v), (fun H rs v => [] = rs ∧ undef = v), (fun H rs v => [] = rs ∧ undef = v), (fun H rs v => [] = rs ∧ undef = v), (fun H rs v => [] = rs ∧ undef = v), (fun H rs v => [] = rs ∧ undef = v), (fun H rs v => [] = rs ∧ undef = v)]) [[], [], [], [], [], [], [], [], [], [], [], [], [], [], [], [], [], [], [], [], [], [], [], [], [], []] [[], [], [], [], [], [], [], [], [], [], [], [], [], [], [], [], [], [], [], [], [], [], [], [], [], []] [] [0, 1, 2, 3, 4, 5, 6, 7, 8, 9, 10, 11, 12, 13, 14, 15, 16, 17, 18, 19, 20, 21, 22, 23, 24, 25] Facts.mixed (by kernel_rfl) rfl rfl rfl (by kernel_rfl) (phiT_mono ⟨eq_monoT _ _, eq_monoT _ _, eq_monoT _ _, eq_monoT _ _, eq_monoT _ _, eq_monoT _ _, eq_monoT _ _, eq_monoT _ _, eq_monoT _ _, eq_monoT _ _, eq_monoT _ _, eq_monoT _ _, eq_monoT _ _, eq_monoT _ _, eq_monoT _ _, eq_monoT _ _, eq_monoT _ _, eq_monoT _ _, eq_monoT _ _, eq_monoT _ _, eq_monoT _ _, eq_monoT _ _, eq_monoT _ _, eq_monoT _ _, eq_monoT _ _, eq_monoT _ _, trivial⟩) ⟨?_, ?_, ?_, ?_, ?_, ?_, ?_, ?_, ?_, ?_, ?_, ?_, ?_, ?_, ?_, ?_, ?_, ?_, ?_, ?_, ?_, ?_, ?_, ?_, ?_, ?_, trivial⟩ ?_
                                · intro HX hX X Rest hR
                                  intro hU hUp
                                  refine W_move rfl rfl rfl ?_
                                  exact W_end (OneT_end [] (Hp.le_refl _) ⟨rfl, rfl⟩)
                                · intro HX hX X Rest hR
                                  rintro _ _ ⟨rfl, rfl⟩
                                  intro hU hUp
                                  refine W_bin rfl rfl rfl rfl rfl ?_
                                  exact W_end (OneT_end [] (Hp.le_refl _) ⟨rfl, (by first | rfl | (rw [hb1030]; try rfl))⟩)
                                · intro HX hX X Rest hR
                                  rintro _ _ ⟨rfl, rfl⟩
                                  intro hU hUp
                                  refine W_move rfl rfl rfl ?_
                                  exact W_end (OneT_end [] (Hp.le_refl _) ⟨rfl, rfl⟩)
                                · intro HX hX X Rest hR
                                  rintro _ _ ⟨rfl, rfl⟩
                                  intro hU hUp
                                  refine W_field (o := 3) rfl rfl Proofs.Tryd.runUnderlying49 rfl Proofs.Tryd.sizeOf3 rfl rfl rfl ?_
                                  exact W_end (OneT_end [] (Hp.le_refl _) ⟨rfl, rfl⟩)
                                · intro HX hX X Rest hR
                                  rintro _ _ ⟨rfl, rfl⟩
                                  rintro _ _ ⟨rfl, rfl⟩
                                  intro hU hUp
                                  refine W_load rfl rfl Proofs.Tryd.isAgg3 rfl (own_at (hR _ (List.mem_cons_of_mem _ (List.mem_cons_self ..))) rfl) ?_
                                  exact W_end (OneT_end [] (Hp.le_refl _) ⟨rfl, rfl⟩)
                                · intro HX hX X Rest hR
                                  rintro _ _ ⟨rfl, rfl⟩
                                  intro hU hUp
                                  refine W_move rfl rfl rfl ?_
                                  exact W_end (OneT_end [] (Hp.le_refl _) ⟨rfl, rfl⟩)
                                · intro HX hX X Rest hR
                                  rintro _ _ ⟨rfl, rfl⟩
                                  rintro _ _ ⟨rfl, rfl⟩
                                  intro hU hUp
                                  refine W_bin rfl rfl rfl rfl rfl ?_
                                  exact W_end (OneT_end [] (Hp.le_refl _) ⟨rfl, rfl⟩)
                                · intro HX hX X Rest hR
                                  rintro _ _ ⟨rfl, rfl⟩
                                  rintro _ _ ⟨rfl, rfl⟩
                                  rintro _ _ ⟨rfl, rfl⟩
                                  intro hU hUp
                                  refine W_bin rfl rfl rfl rfl rfl ?_
                                  exact W_end (OneT_end [] (Hp.le_refl _) ⟨rfl, (by first | rfl | (rw [hb1031]; try rfl))⟩)
                                · intro HX hX X Rest hR
                                  rintro _ _ ⟨rfl, rfl⟩
                                  rintro _ _ ⟨rfl, rfl⟩
                                  intro hU hUp
                                  refine W_pick rfl rfl rfl rfl ?_
                                  exact W_end (OneT_end [] (Hp.le_refl _) ⟨rfl, rfl⟩)
                                · intro HX hX X Rest hR
                                  rintro _ _ ⟨rfl, rfl⟩
                                  rintro _ _ ⟨rfl, rfl⟩
                                  intro hU hUp
                                  refine W_move rfl rfl rfl ?_
                                  exact W_end (OneT_end [] (Hp.le_refl _) ⟨rfl, rfl⟩)
                                · intro HX hX X Rest hR
                                  rintro _ _ ⟨rfl, rfl⟩
                                  intro hU hUp
                                  refine W_no rfl rfl rfl ?_
                                  exact W_end (OneT_end [] (Hp.le_refl _) ⟨rfl, rfl⟩)
                                · intro HX hX X Rest hR
                                  rintro _ _ ⟨rfl, rfl⟩
                                  intro hU hUp
                                  refine W_no rfl rfl rfl ?_
                                  exact W_end (OneT_end [] (Hp.le_refl _) ⟨rfl, rfl⟩)
                                · intro HX hX X Rest hR
                                  rintro _ _ ⟨rfl, rfl⟩
                                  rintro _ _ ⟨rfl, rfl⟩
                                  intro hU hUp
                                  refine W_no rfl rfl rfl ?_
                                  exact W_end (OneT_end [] (Hp.le_refl _) ⟨rfl, rfl⟩)
                                · intro HX hX X Rest hR
                                  rintro _ _ ⟨rfl, rfl⟩
                                  rintro _ _ ⟨rfl, rfl⟩
                                  rintro _ _ ⟨rfl, rfl⟩
                                  intro hU hUp
                                  refine W_no rfl rfl rfl ?_
                                  exact W_end (OneT_end [] (Hp.le_refl _) ⟨rfl, rfl⟩)
                                · intro HX hX X Rest hR
                                  rintro _ _ ⟨rfl, rfl⟩
                                  rintro _ _ ⟨rfl, rfl⟩
                                  intro hU hUp
                                  refine W_no rfl rfl rfl ?_
                                  exact W_end (OneT_end [] (Hp.le_refl _) ⟨rfl, rfl⟩)
                                · intro HX hX X Rest hR
                                  rintro _ _ ⟨rfl, rfl⟩
                                  rintro _ _ ⟨rfl, rfl⟩
                                  intro hU hUp
                                  refine W_no rfl rfl rfl ?_
                                  exact W_end (OneT_end [] (Hp.le_refl _) ⟨rfl, rfl⟩)
                                · intro HX hX X Rest hR
                                  rintro _ _ ⟨rfl, rfl⟩
                                  rintro _ _ ⟨rfl, rfl⟩
                                  intro hU hUp
                                  refine W_pick rfl rfl rfl rfl ?_
                                  exact W_end (OneT_end [] (Hp.le_refl _) ⟨rfl, rfl⟩)
                                · intro HX hX X Rest hR
                                  rintro _ _ ⟨rfl, rfl⟩
                                  rintro _ _ ⟨rfl, rfl⟩
                                  intro hU hUp
                                  refine W_move rfl rfl rfl ?_
                                  exact W_end (OneT_end [] (Hp.le_refl _) ⟨rfl, rfl⟩)
                                · intro HX hX X Rest hR
                                  rintro _ _ ⟨rfl, rfl⟩
                                  intro hU hUp
                                  refine W_no rfl rfl rfl ?_
                                  exact W_end (OneT_end [] (Hp.le_refl _) ⟨rfl, rfl⟩)
                                · intro HX hX X Rest hR
                                  rintro _ _ ⟨rfl, rfl⟩
                                  rintro _ _ ⟨rfl, rfl⟩
                                  intro hU hUp
                                  refine W_no rfl rfl rfl ?_
                                  exact W_end (OneT_end [] (Hp.le_refl _) ⟨rfl, rfl⟩)
                                · intro HX hX X Rest hR
                                  rintro _ _ ⟨rfl, rfl⟩
                                  intro hU hUp
                                  refine W_no rfl rfl rfl ?_
                                  exact W_end (OneT_end [] (Hp.le_refl _) ⟨rfl, rfl⟩)
                                · intro HX hX X Rest hR
                                  rintro _ _ ⟨rfl, rfl⟩
                                  intro hU hUp
                                  refine W_no rfl rfl rfl ?_
                                  exact W_end (OneT_end [] (Hp.le_refl _) ⟨rfl, rfl⟩)
                                · intro HX hX X Rest hR
                                  rintro _ _ ⟨rfl, rfl⟩
                                  rintro _ _ ⟨rfl, rfl⟩
                                  intro hU hUp
                                  refine W_no rfl rfl rfl ?_
                                  exact W_end (OneT_end [] (Hp.le_refl _) ⟨rfl, rfl⟩)
                                · intro HX hX X Rest hR
                                  rintro _ _ ⟨rfl, rfl⟩
                                  rintro _ _ ⟨rfl, rfl⟩
                                  rintro _ _ ⟨rfl, rfl⟩
                                  intro hU hUp
                                  refine W_no rfl rfl rfl ?_
                                  exact W_end (OneT_end [] (Hp.le_refl _) ⟨rfl, rfl⟩)
                                · intro HX hX X Rest hR
                                  rintro _ _ ⟨rfl, rfl⟩
                                  rintro _ _ ⟨rfl, rfl⟩
                                  intro hU hUp
                                  refine W_no rfl rfl rfl ?_
                                  exact W_end (OneT_end [] (Hp.le_refl _) ⟨rfl, rfl⟩)
                                · intro HX hX X Rest hR
                                  rintro _ _ ⟨rfl, rfl⟩
                                  rintro _ _ ⟨rfl, rfl⟩
                                  intro hU hUp
                                  refine W_no rfl rfl rfl ?_
                                  exact W_end (OneT_end [] (Hp.le_refl _) ⟨rfl, rfl⟩)
                                intro H1032 hle1033
                                rintro _ _ ⟨rfl, rfl⟩
                                rintro _ _ ⟨rfl, rfl⟩
                                rintro _ _ ⟨rfl, rfl⟩
                                rintro _ _ ⟨rfl, rfl⟩
                                rintro _ _ ⟨rfl, rfl⟩
                                rintro _ _ ⟨rfl, rfl⟩
                                rintro _ _ ⟨rfl, rfl⟩
                                rintro _ _ ⟨rfl, rfl⟩
                                rintro _ _ ⟨rfl, rfl⟩
                                rintro _ _ ⟨rfl, rfl⟩
                                rintro _ _ ⟨rfl, rfl⟩
                                rintro _ _ ⟨rfl, rfl⟩
                                rintro _ _ ⟨rfl, rfl⟩
                                rintro _ _ ⟨rfl, rfl⟩
                                rintro _ _ ⟨rfl, rfl⟩
                                rintro _ _ ⟨rfl, rfl⟩
                                rintro _ _ ⟨rfl, rfl⟩
                                rintro _ _ ⟨rfl, rfl⟩
                                rintro _ _ ⟨rfl, rfl⟩
                                rintro _ _ ⟨rfl, rfl⟩
                                rintro _ _ ⟨rfl, rfl⟩
                                rintro _ _ ⟨rfl, rfl⟩
                                rintro _ _ ⟨rfl, rfl⟩
                                rintro _ _ ⟨rfl, rfl⟩
                                rintro _ _ ⟨rfl, rfl⟩
                                rintro _ _ ⟨rfl, rfl⟩
                                refine W_no rfl rfl rfl ?_
                                refine W_pick rfl rfl rfl rfl ?_
                                refine W_end ?_
                                refine E_then ?_
                                refine C_cond (b := true) rfl (fun _ => ?_) (fun hb => Bool.noConfusion hb)
                                refine C_seq ?_
                                refine C_region ?_
                                refine W_assign rfl rfl rfl ?_
                                refine W_end ?_
                                refine E_then ?_
                                refine C_ret ?_
                                refine E_ret_then ?_
                                refine E_ret_block ?_
                                refine E_ret_block ?_
                                refine E_ret_then ?_
                                refine E_ret_then ?_
                                refine E_ret_block ?_
                                refine E_ret_then ?_
                                obtain rfl := Option.some.inj hm
                                refine E_drop (List.Sublist.cons _ (List.Sublist.cons _ (List.Sublist.refl _))) ?_
                                refine E_weak (Hp.le_trans hle747 hle1033) ?_
                                exact end1 rfl rfl ⟨rfl, rfl, rfl⟩
                              · have hm := ite_t' hb1031 hm
                                obtain ⟨y1034, h1035, he1036, hm⟩ := idx_some hm
                                obtain ⟨_, rfl, hg1037⟩ := (hr1003).elem he1036
                                cases hb1038 : (decide (y1034 = 0))
                                · have hm := ite_f' hb1038 hm
                                  obtain ⟨y1039, h1040, he1041, hm⟩ := idx_some hm
                                  obtain ⟨_, rfl, hg1042⟩ := (hr1003).elem he1041
                                  refine C_region_tok0 26 (phiT [(fun H rs v => [] = rs ∧ .int .i64 ((k107 : Int)) = v), (fun H rs v => [] = rs ∧ .bool (false) = v), (fun H rs v => [] = rs ∧ .bool (false) = v), (fun H rs v => [] = rs ∧ .pointer (some ⟨b918, 3, none⟩) = v), (fun H rs v => [] = rs ∧ .int .i64 (y752.B_) = v), (fun H rs v => [] = rs ∧ .int .i64 ((k107 : Int)) = v), (fun H rs v => [] = rs ∧ .int .i64 (IntKind.i64.wrap ((k107 : Int) - 1)) = v), (fun H rs v => [] = rs ∧ .bool (false) = v), (fun H rs v => [] = rs ∧ .bool (false) = v), (fun H rs v => [] = rs ∧ .bool (false) = v), (fun H rs v => [] = rs ∧ v104 = v), (fun H rs v => [] = rs ∧ .int .i64 ((k107 : Int)) = v), (fun H rs v => [] = rs ∧ .int .i64 (IntKind.i64.wrap ((k107 : Int) - 1)) = v), (fun H rs v => [] = rs ∧ .pointer (some ((Value.base (v104)).add ((IntKind.i64.wrap ((k107 : Int) - 1) : Int).toNat * Rep.sz Int))) = v), (fun H rs v => [] = rs ∧ .int .i64 (y1034) = v), (fun H rs v => [] = rs ∧ .bool (false) = v), (fun H rs v => [] = rs ∧ .bool (false) = v), (fun H rs v => [] = rs ∧ .bool (false) = v), (fun H rs v => [] = rs ∧ .pointer (some ⟨b918, 2, none⟩) = v), (fun H rs v => [] = rs ∧ .int .i64 (y752.A) = v), (fun H rs v => [] = rs ∧ v104 = v), (fun H rs v => [] = rs ∧ .int .i64 ((k107 : Int)) = v), (fun H rs v => [] = rs ∧ .int .i64 (IntKind.i64.wrap ((k107 : Int) - 1)) = v), (fun H rs v => [] = rs ∧ .pointer (some ((Value.base (v104)).add ((IntKind.i64.wrap ((k107 : Int) - 1) : Int).toNat * Rep.sz Int))) = v), (fun H rs v => [] = rs ∧ .int .i64 (y1039) = v), (fun H rs v => [] = rs ∧ .int .i64 (IntKind.i64.wrap (y1039 - 1)) = v)]) [[], [], [], [], [], [], [], [], [], [], [], [], [], [], [], [], [], [], [], [], [], [], [], [], [], []] [[], [], [], [], [], [], [], [], [], [], [], [], [], [], [], [], [], [], [], [], [], [], [], [], [], []] [] [0, 1, 2, 3, 4, 5, 6, 7, 8, 9, 10, 11, 12, 13, 14, 15, 16, 17, 18, 19, 20, 21, 22, 23, 24, 25] Facts.mixed (by kernel_rfl) rfl rfl rfl (by kernel_rfl) (phiT_mono ⟨eq_monoT _ _, eq_monoT _ _, eq_monoT _ _, eq_monoT _ _, eq_monoT _ _, eq_monoT _ _, eq_monoT _ _, eq_monoT _ _, eq_monoT _ _, eq_monoT _ _, eq_monoT _ _, eq_monoT _ _, eq_monoT _ _, eq_monoT _ _, eq_monoT _ _, eq_monoT _ _, eq_monoT _ _, eq_monoT _ _, eq_monoT _ _, eq_monoT _ _, eq_monoT _ _, eq_monoT _ _, eq_monoT _ _, eq_monoT _ _, eq_monoT _ _, eq_monoT _ _, trivial⟩) ⟨?_, ?_, ?_, ?_, ?_, ?_, ?_, ?_, ?_, ?_, ?_, ?_, ?_, ?_, ?_, ?_, ?_, ?_, ?_, ?_, ?_, ?_, ?_, ?_, ?_, ?_, trivial⟩ ?_
                                  · intro HX hX X Rest hR
                                    intro hU hUp
                                    refine W_move rfl rfl rfl ?_
                                    exact W_end (OneT_end [] (Hp.le_refl _) ⟨rfl, rfl⟩)
                                  · intro HX hX X Rest hR
                                    rintro _ _ ⟨rfl, rfl⟩
                                    intro hU hUp
                                    refine W_bin rfl rfl rfl rfl rfl ?_
                                    exact W_end (OneT_end [] (Hp.le_refl _) ⟨rfl, (by first | rfl | (rw [hb1030]; try rfl))⟩)
                                  · intro HX hX X Rest hR
                                    rintro _ _ ⟨rfl, rfl⟩
                                    intro hU hUp
                                    refine W_move rfl rfl rfl ?_
                                    exact W_end (OneT_end [] (Hp.le_refl _) ⟨rfl, rfl⟩)
                                  · intro HX hX X Rest hR
                                    rintro _ _ ⟨rfl, rfl⟩
                                    intro hU hUp
                                    refine W_field (o := 3) rfl rfl Proofs.Tryd.runUnderlying49 rfl Proofs.Tryd.sizeOf3 rfl rfl rfl ?_
                                    exact W_end (OneT_end [] (Hp.le_refl _) ⟨rfl, rfl⟩)
                                  · intro HX hX X Rest hR
                                    rintro _ _ ⟨rfl, rfl⟩
                                    rintro _ _ ⟨rfl, rfl⟩
                                    intro hU hUp
                                    refine W_load rfl rfl Proofs.Tryd.isAgg3 rfl (own_at (hR _ (List.mem_cons_of_mem _ (List.mem_cons_self ..))) rfl) ?_
                                    exact W_end (OneT_end [] (Hp.le_refl _) ⟨rfl, rfl⟩)
                                  · intro HX hX X Rest hR
                                    rintro _ _ ⟨rfl, rfl⟩
                                    intro hU hUp
                                    refine W_move rfl rfl rfl ?_
                                    exact W_end (OneT_end [] (Hp.le_refl _) ⟨rfl, rfl⟩)
                                  · intro HX hX X Rest hR
                                    rintro _ _ ⟨rfl, rfl⟩
                                    rintro _ _ ⟨rfl, rfl⟩
                                    intro hU hUp
                                    refine W_bin rfl rfl rfl rfl rfl ?_
                                    exact W_end (OneT_end [] (Hp.le_refl _) ⟨rfl, rfl⟩)
                                  · intro HX hX X Rest hR
                                    rintro _ _ ⟨rfl, rfl⟩
                                    rintro _ _ ⟨rfl, rfl⟩
                                    rintro _ _ ⟨rfl, rfl⟩
                                    intro hU hUp
                                    refine W_bin rfl rfl rfl rfl rfl ?_
                                    exact W_end (OneT_end [] (Hp.le_refl _) ⟨rfl, (by first | rfl | (rw [hb1031]; try rfl))⟩)
                                  · intro HX hX X Rest hR
                                    rintro _ _ ⟨rfl, rfl⟩
                                    rintro _ _ ⟨rfl, rfl⟩
                                    intro hU hUp
                                    refine W_pick rfl rfl rfl rfl ?_
                                    exact W_end (OneT_end [] (Hp.le_refl _) ⟨rfl, rfl⟩)
                                  · intro HX hX X Rest hR
                                    rintro _ _ ⟨rfl, rfl⟩
                                    rintro _ _ ⟨rfl, rfl⟩
                                    intro hU hUp
                                    refine W_move rfl rfl rfl ?_
                                    exact W_end (OneT_end [] (Hp.le_refl _) ⟨rfl, rfl⟩)
                                  · intro HX hX X Rest hR
                                    rintro _ _ ⟨rfl, rfl⟩
                                    intro hU hUp
                                    refine W_move rfl rfl rfl ?_
                                    exact W_end (OneT_end [] (Hp.le_refl _) ⟨rfl, rfl⟩)
                                  · intro HX hX X Rest hR
                                    rintro _ _ ⟨rfl, rfl⟩
                                    intro hU hUp
                                    refine W_move rfl rfl rfl ?_
                                    exact W_end (OneT_end [] (Hp.le_refl _) ⟨rfl, rfl⟩)
                                  · intro HX hX X Rest hR
                                    rintro _ _ ⟨rfl, rfl⟩
                                    rintro _ _ ⟨rfl, rfl⟩
                                    intro hU hUp
                                    refine W_bin rfl rfl rfl rfl rfl ?_
                                    exact W_end (OneT_end [] (Hp.le_refl _) ⟨rfl, rfl⟩)
                                  · intro HX hX X Rest hR
                                    rintro _ _ ⟨rfl, rfl⟩
                                    rintro _ _ ⟨rfl, rfl⟩
                                    rintro _ _ ⟨rfl, rfl⟩
                                    intro hU hUp
                                    refine W_indexO (hR _ (List.mem_cons_self ..)) rfl rfl Proofs.Tryd.runUnderlying51 Proofs.Tryd.sizeOf3 rfl rfl h1035 (List.getElem?_eq_some_iff.1 he1036).1 ?_
                                    exact W_end (OneT_end [] (Hp.le_refl _) ⟨rfl, rfl⟩)
                                  · intro HX hX X Rest hR
                                    rintro _ _ ⟨rfl, rfl⟩
                                    rintro _ _ ⟨rfl, rfl⟩
                                    intro hU hUp
                                    refine W_load rfl rfl Proofs.Tryd.isAgg3 rfl (row_one0 (hR _ (List.mem_cons_self ..)) hg1037 rfl) ?_
                                    exact W_end (OneT_end [] (Hp.le_refl _) ⟨rfl, rfl⟩)
                                  · intro HX hX X Rest hR
                                    rintro _ _ ⟨rfl, rfl⟩
                                    rintro _ _ ⟨rfl, rfl⟩
                                    intro hU hUp
                                    refine W_bin rfl rfl rfl rfl rfl ?_
                                    exact W_end (OneT_end [] (Hp.le_refl _) ⟨rfl, (by first | rfl | (rw [hb1038]; try rfl))⟩)
                                  · intro HX hX X Rest hR
                                    rintro _ _ ⟨rfl, rfl⟩
                                    rintro _ _ ⟨rfl, rfl⟩
                                    intro hU hUp
                                    refine W_pick rfl rfl rfl rfl ?_
                                    exact W_end (OneT_end [] (Hp.le_refl _) ⟨rfl, rfl⟩)
                                  · intro HX hX X Rest hR
                                    rintro _ _ ⟨rfl, rfl⟩
                                    rintro _ _ ⟨rfl, rfl⟩
                                    intro hU hUp
                                    refine W_move rfl rfl rfl ?_
                                    exact W_end (OneT_end [] (Hp.le_refl _) ⟨rfl, rfl⟩)
                                  · intro HX hX X Rest hR
                                    rintro _ _ ⟨rfl, rfl⟩
                                    intro hU hUp
                                    refine W_field (o := 2) rfl rfl Proofs.Tryd.runUnderlying49 rfl Proofs.Tryd.sizeOf3 rfl rfl rfl ?_
                                    exact W_end (OneT_end [] (Hp.le_refl _) ⟨rfl, rfl⟩)
                                  · intro HX hX X Rest hR
                                    rintro _ _ ⟨rfl, rfl⟩
                                    rintro _ _ ⟨rfl, rfl⟩
                                    intro hU hUp
                                    refine W_load rfl rfl Proofs.Tryd.isAgg3 rfl (own_at (hR _ (List.mem_cons_of_mem _ (List.mem_cons_self ..))) rfl) ?_
                                    exact W_end (OneT_end [] (Hp.le_refl _) ⟨rfl, rfl⟩)
                                  · intro HX hX X Rest hR
                                    rintro _ _ ⟨rfl, rfl⟩
                                    intro hU hUp
                                    refine W_move rfl rfl rfl ?_
                                    exact W_end (OneT_end [] (Hp.le_refl _) ⟨rfl, rfl⟩)
                                  · intro HX hX X Rest hR
                                    rintro _ _ ⟨rfl, rfl⟩
                                    intro hU hUp
                                    refine W_move rfl rfl rfl ?_
                                    exact W_end (OneT_end [] (Hp.le_refl _) ⟨rfl, rfl⟩)
                                  · intro HX hX X Rest hR
                                    rintro _ _ ⟨rfl, rfl⟩
                                    rintro _ _ ⟨rfl, rfl⟩
                                    intro hU hUp
                                    refine W_bin rfl rfl rfl rfl rfl ?_
                                    exact W_end (OneT_end [] (Hp.le_refl _) ⟨rfl, rfl⟩)
                                  · intro HX hX X Rest hR
                                    rintro _ _ ⟨rfl, rfl⟩
                                    rintro _ _ ⟨rfl, rfl⟩
                                    rintro _ _ ⟨rfl, rfl⟩
                                    intro hU hUp
                                    refine W_indexO (hR _ (List.mem_cons_self ..)) rfl rfl Proofs.Tryd.runUnderlying51 Proofs.Tryd.sizeOf3 rfl rfl h1040 (List.getElem?_eq_some_iff.1 he1041).1 ?_
                                    exact W_end (OneT_end [] (Hp.le_refl _) ⟨rfl, rfl⟩)
                                  · intro HX hX X Rest hR
                                    rintro _ _ ⟨rfl, rfl⟩
                                    rintro _ _ ⟨rfl, rfl⟩
                                    intro hU hUp
                                    refine W_load rfl rfl Proofs.Tryd.isAgg3 rfl (row_one0 (hR _ (List.mem_cons_self ..)) hg1042 rfl) ?_
                                    exact W_end (OneT_end [] (Hp.le_refl _) ⟨rfl, rfl⟩)
                                  · intro HX hX X Rest hR
                                    rintro _ _ ⟨rfl, rfl⟩
                                    rintro _ _ ⟨rfl, rfl⟩
                                    intro hU hUp
                                    refine W_bin rfl rfl rfl rfl rfl ?_
                                    exact W_end (OneT_end [] (Hp.le_refl _) ⟨rfl, rfl⟩)
                                  intro H1043 hle1044
                                  rintro _ _ ⟨rfl, rfl⟩
                                  rintro _ _ ⟨rfl, rfl⟩
                                  rintro _ _ ⟨rfl, rfl⟩
                                  rintro _ _ ⟨rfl, rfl⟩
                                  rintro _ _ ⟨rfl, rfl⟩
                                  rintro _ _ ⟨rfl, rfl⟩
                                  rintro _ _ ⟨rfl, rfl⟩
                                  rintro _ _ ⟨rfl, rfl⟩
                                  rintro _ _ ⟨rfl, rfl⟩
                                  rintro _ _ ⟨rfl, rfl⟩
                                  rintro _ _ ⟨rfl, rfl⟩
                                  rintro _ _ ⟨rfl, rfl⟩
                                  rintro _ _ ⟨rfl, rfl⟩
                                  rintro _ _ ⟨rfl, rfl⟩
                                  rintro _ _ ⟨rfl, rfl⟩
                                  rintro _ _ ⟨rfl, rfl⟩
                                  rintro _ _ ⟨rfl, rfl⟩
                                  rintro _ _ ⟨rfl, rfl⟩
                                  rintro _ _ ⟨rfl, rfl⟩
                                  rintro _ _ ⟨rfl, rfl⟩
                                  rintro _ _ ⟨rfl, rfl⟩
                                  rintro _ _ ⟨rfl, rfl⟩
                                  rintro _ _ ⟨rfl, rfl⟩
                                  rintro _ _ ⟨rfl, rfl⟩
                                  rintro _ _ ⟨rfl, rfl⟩
                                  rintro _ _ ⟨rfl, rfl⟩
                                  refine W_bin rfl rfl rfl rfl rfl ?_
                                  refine W_pick rfl rfl rfl rfl ?_
                                  refine W_end ?_
                                  refine E_then ?_
                                  refine C_cond (b := !decide (y752.A = (IntKind.i64.wrap (y1039 - 1)))) rfl (fun hb1045 => ?_) (fun hb1045 => ?_)
                                  · have hm := ite_t' hb1045 hm
                                    refine C_seq ?_
                                    refine C_region ?_
                                    refine W_assign rfl rfl rfl ?_
                                    refine W_end ?_
                                    refine E_then ?_
                                    refine C_ret ?_
                                    refine E_ret_then ?_
                                    refine E_ret_block ?_
                                    refine E_ret_block ?_
                                    refine E_ret_then ?_
                                    refine E_ret_then ?_
                                    refine E_ret_block ?_
                                    refine E_ret_then ?_
                                    obtain rfl := Option.some.inj hm
                                    refine E_drop (List.Sublist.cons _ (List.Sublist.cons _ (List.Sublist.refl _))) ?_
                                    refine E_weak (Hp.le_trans hle747 hle1044) ?_
                                    exact end1 rfl rfl ⟨rfl, rfl, rfl⟩
                                  · have hm := ite_f' hb1045 hm
                                    refine C_skip ?_
                                    refine E_then ?_
                                    refine C_region ?_
                                    refine W_move rfl rfl rfl ?_
                                    refine W_move rfl rfl rfl ?_
                                    refine W_move rfl rfl rfl ?_
                                    refine W_field (o := 2) rfl rfl Proofs.Tryd.runUnderlying49 rfl Proofs.Tryd.sizeOf3 rfl rfl rfl ?_
                                    refine W_load rfl rfl Proofs.Tryd.isAgg3 rfl (own_at (List.mem_cons_of_mem _ (List.mem_cons_self ..)) rfl) ?_
                                    obtain ⟨y1046, h1047, he1048, hm⟩ := idx_some hm
                                    refine W_indexO (List.mem_cons_self ..) rfl rfl Proofs.Tryd.runUnderlying51 Proofs.Tryd.sizeOf3 rfl rfl h1047 (List.getElem?_eq_some_iff.1 he1048).1 ?_
                                    obtain ⟨_, rfl, hg1049⟩ := (hr1003).elem he1048
                                    refine W_load rfl rfl Proofs.Tryd.isAgg3 rfl (row_one0 (List.mem_cons_self ..) hg1049 rfl) ?_
                                    obtain ⟨y1050, h1051, he1052, hm⟩ := idx_some hm
                                    refine W_indexO (List.mem_cons_self ..) rfl rfl Proofs.Tryd.runUnderlying51 Proofs.Tryd.sizeOf3 rfl rfl h1051 (List.getElem?_eq_some_iff.1 he1052).1 ?_
                                    obtain ⟨_, rfl, hg1053⟩ := (hr1003).elem he1052
                                    obtain ⟨hr1054, he1055, hg1056⟩ := Rw.put (cs := [.int .i64 (y1046)]) (o := 0) (c := [.int .i64 (y1050)]) (out := [.int .i64 (y1046)]) (e2 := y1046) (hr1003.mono hle1044) he1052 rfl hg1053 rfl rfl rfl
                                    refine W_storeO2 (i := ((k107 : Int) : Int).toNat * Rep.sz Int + 0) (cs := [.int .i64 (y1046)]) rfl Proofs.Tryd.sizeOf3 rfl (row_ad0 _ _) rfl rfl rfl (Rw.room (hr1003.mono hle1044) he1052 rfl) rfl (all_cons rfl all_nil) (n' := ((l744.set (((k107 : Int) : Int).toNat) ((k107 : Int))).set (((k107 : Int) : Int).toNat) y1046).length) List.length_set ?_
                                    generalize over xs1006 (((k107 : Int) : Int).toNat * Rep.sz Int + 0) [.int .i64 (y1046)] = xs1057 at hr1054 hg1056 ⊢
                                    refine W_end ?_
                                    refine E_normal_block ?_
                                    refine E_normal_block ?_
                                    refine E_drop (List.Sublist.cons_cons _ (List.Sublist.cons _ (List.Sublist.refl _))) ?_
                                    exact E_keepJ (J916 _ _ _ ⟨((l744.set (((k107 : Int) : Int).toNat) ((k107 : Int))).set (((k107 : Int) : Int).toNat) y1046), xs1057, hm, hr1054, hle1044, rfl, rfl⟩) (List.Perm.refl _) ⟨rfl, rfl, rfl, rfl, rfl, trivial⟩
                                · have hm := ite_t' hb1038 hm
                                  refine C_region_tok0 26 (phiT [(fun H rs v => [] = rs ∧ .int .i64 ((k107 : Int)) = v), (fun H rs v => [] = rs ∧ .bool (false) = v), (fun H rs v => [] = rs ∧ .bool (false) = v), (fun H rs v => [] = rs ∧ .pointer (some ⟨b918, 3, none⟩) = v), (fun H rs v => [] = rs ∧ .int .i64 (y752.B_) = v), (fun H rs v => [] = rs ∧ .int .i64 ((k107 : Int)) = v), (fun H rs v => [] = rs ∧ .int .i64 (IntKind.i64.wrap ((k107 : Int) - 1)) = v), (fun H rs v => [] = rs ∧ .bool (false) = v), (fun H rs v => [] = rs ∧ .bool (false) = v), (fun H rs v => [] = rs ∧ .bool (false) = v), (fun H rs v => [] = rs ∧ v104 = v), (fun H rs v => [] = rs ∧ .int .i64 ((k107 : Int)) = v), (fun H rs v => [] = rs ∧ .int .i64 (IntKind.i64.wrap ((k107 : Int) - 1)) = v), (fun H rs v => [] = rs ∧ .pointer (some ((Value.base (v104)).add ((IntKind.i64.wrap ((k107 : Int) - 1) : Int).toNat * Rep.sz Int))) = v), (fun H rs v => [] = rs ∧ .int .i64 (y1034) = v), (fun H rs v => [] = rs ∧ .bool (true) = v), (fun H rs v => [] = rs ∧ .bool (true) = v), (fun H rs v => [] = rs ∧ .bool (true) = v), (fun H rs v => [] = rs ∧ undef = v), (fun H rs v => [] = rs ∧ undef = v), (fun H rs v => [] = rs ∧ undef = v), (fun H rs v => [] = rs ∧ undef = v), (fun H rs v => [] = rs ∧ undef = v), (fun H rs v => [] = rs ∧ undef = v), (fun H rs v => [] = rs ∧ undef = v), (fun H rs v => [] = rs ∧ undef = v)]) [[], [], [], [], [], [], [], [], [], [], [], [], [], [], [], [], [], [], [], [], [], [], [], [], [], []] [[], [], [], [], [], [], [], [], [], [], [], [], [], [], [], [], [], [], [], [], [], [], [], [], [], []] [] [0, 1, 2, 3, 4, 5, 6, 7, 8, 9, 10, 11, 12, 13, 14, 15, 16, 17, 18, 19, 20, 21, 22, 23, 24, 25] Facts.mixed (by kernel_rfl) rfl rfl rfl (by kernel_rfl) (phiT_mono ⟨eq_monoT _ _, eq_monoT _ _, eq_monoT _ _, eq_monoT _ _, eq_monoT _ _, eq_monoT _ _, eq_monoT _ _, eq_monoT _ _, eq_monoT _ _, eq_monoT _ _, eq_monoT _ _, eq_monoT _ _, eq_monoT _ _, eq_monoT _ _, eq_monoT _ _, eq_monoT _ _, eq_monoT _ _, eq_monoT _ _, eq_monoT _ _, eq_monoT _ _, eq_monoT _ _, eq_monoT _ _, eq_monoT _ _, eq_monoT _ _, eq_monoT _ _, eq_monoT _ _, trivial⟩) ⟨?_, ?_, ?_, ?_, ?_, ?_, ?_, ?_, ?_, ?_, ?_, ?_, ?_, ?_, ?_, ?_, ?_, ?_, ?_, ?_, ?_, ?_, ?_, ?_, ?_, ?_, trivial⟩ ?_
                                  · intro HX hX X Rest hR
                                    intro hU hUp
                                    refine W_move rfl rfl rfl ?_
                                    exact W_end (OneT_end [] (Hp.le_refl _) ⟨rfl, rfl⟩)
                                  · intro HX hX X Rest hR
                                    rintro _ _ ⟨rfl, rfl⟩
                                    intro hU hUp
                                    refine W_bin rfl rfl rfl rfl rfl ?_
                                    exact W_end (OneT_end [] (Hp.le_refl _) ⟨rfl, (by first | rfl | (rw [hb1030]; try rfl))⟩)
                                  · intro HX hX X Rest hR
                                    rintro _ _ ⟨rfl, rfl⟩
                                    intro hU hUp
                                    refine W_move rfl rfl rfl ?_
                                    exact W_end (OneT_end [] (Hp.le_refl _) ⟨rfl, rfl⟩)
                                  · intro HX hX X Rest hR
                                    rintro _ _ ⟨rfl, rfl⟩
                                    intro hU hUp
                                    refine W_field (o := 3) rfl rfl Proofs.Tryd.runUnderlying49 rfl Proofs.Tryd.sizeOf3 rfl rfl rfl ?_
                                    exact W_end (OneT_end [] (Hp.le_refl _) ⟨rfl, rfl⟩)
                                  · intro HX hX X Rest hR
                                    rintro _ _ ⟨rfl, rfl⟩
                                    rintro _ _ ⟨rfl, rfl⟩
                                    intro hU hUp
                                    refine W_load rfl rfl Proofs.Tryd.isAgg3 rfl (own_at (hR _ (List.mem_cons_of_mem _ (List.mem_cons_self ..))) rfl) ?_
                                    exact W_end (OneT_end [] (Hp.le_refl _) ⟨rfl, rfl⟩)
                                  · intro HX hX X Rest hR
                                    rintro _ _ ⟨rfl, rfl⟩
                                    intro hU hUp
                                    refine W_move rfl rfl rfl ?_
                                    exact W_end (OneT_end [] (Hp.le_refl _) ⟨rfl, rfl⟩)
                                  · intro HX hX X Rest hR
                                    rintro _ _ ⟨rfl, rfl⟩
                                    rintro _ _ ⟨rfl, rfl⟩
                                    intro hU hUp
                                    refine W_bin rfl rfl rfl rfl rfl ?_
                                    exact W_end (OneT_end [] (Hp.le_refl _) ⟨rfl, rfl⟩)
                                  · intro HX hX X Rest hR
                                    rintro _ _ ⟨rfl, rfl⟩
                                    rintro _ _ ⟨rfl, rfl⟩
                                    rintro _ _ ⟨rfl, rfl⟩
                                    intro hU hUp
                                    refine W_bin rfl rfl rfl rfl rfl ?_
                                    exact W_end (OneT_end [] (Hp.le_refl _) ⟨rfl, (by first | rfl | (rw [hb1031]; try rfl))⟩)
                                  · intro HX hX X Rest hR
                                    rintro _ _ ⟨rfl, rfl⟩
                                    rintro _ _ ⟨rfl, rfl⟩
                                    intro hU hUp
                                    refine W_pick rfl rfl rfl rfl ?_
                                    exact W_end (OneT_end [] (Hp.le_refl _) ⟨rfl, rfl⟩)
                                  · intro HX hX X Rest hR
                                    rintro _ _ ⟨rfl, rfl⟩
                                    rintro _ _ ⟨rfl, rfl⟩
                                    intro hU hUp
                                    refine W_move rfl rfl rfl ?_
                                    exact W_end (OneT_end [] (Hp.le_refl _) ⟨rfl, rfl⟩)
                                  · intro HX hX X Rest hR
                                    rintro _ _ ⟨rfl, rfl⟩
                                    intro hU hUp
                                    refine W_move rfl rfl rfl ?_
                                    exact W_end (OneT_end [] (Hp.le_refl _) ⟨rfl, rfl⟩)
                                  · intro HX hX X Rest hR
                                    rintro _ _ ⟨rfl, rfl⟩
                                    intro hU hUp
                                    refine W_move rfl rfl rfl ?_
                                    exact W_end (OneT_end [] (Hp.le_refl _) ⟨rfl, rfl⟩)
                                  · intro HX hX X Rest hR
                                    rintro _ _ ⟨rfl, rfl⟩
                                    rintro _ _ ⟨rfl, rfl⟩
                                    intro hU hUp
                                    refine W_bin rfl rfl rfl rfl rfl ?_
                                    exact W_end (OneT_end [] (Hp.le_refl _) ⟨rfl, rfl⟩)
                                  · intro HX hX X Rest hR
                                    rintro _ _ ⟨rfl, rfl⟩
                                    rintro _ _ ⟨rfl, rfl⟩
                                    rintro _ _ ⟨rfl, rfl⟩
                                    intro hU hUp
                                    refine W_indexO (hR _ (List.mem_cons_self ..)) rfl rfl Proofs.Tryd.runUnderlying51 Proofs.Tryd.sizeOf3 rfl rfl h1035 (List.getElem?_eq_some_iff.1 he1036).1 ?_
                                    exact W_end (OneT_end [] (Hp.le_refl _) ⟨rfl, rfl⟩)
                                  · intro HX hX X Rest hR
                                    rintro _ _ ⟨rfl, rfl⟩
                                    rintro _ _ ⟨rfl, rfl⟩
                                    intro hU hUp
                                    refine W_load rfl rfl Proofs.Tryd.isAgg3 rfl (row_one0 (hR _ (List.mem_cons_self ..)) hg1037 rfl) ?_
                                    exact W_end (OneT_end [] (Hp.le_refl _) ⟨rfl, rfl⟩)
                                  · intro HX hX X Rest hR
                                    rintro _ _ ⟨rfl, rfl⟩
                                    rintro _ _ ⟨rfl, rfl⟩
                                    intro hU hUp
                                    refine W_bin rfl rfl rfl rfl rfl ?_
                                    exact W_end (OneT_end [] (Hp.le_refl _) ⟨rfl, (by first | rfl | (rw [hb1038]; try rfl))⟩)
                                  · intro HX hX X Rest hR
                                    rintro _ _ ⟨rfl, rfl⟩
                                    rintro _ _ ⟨rfl, rfl⟩
                                    intro hU hUp
                                    refine W_pick rfl rfl rfl rfl ?_
                                    exact W_end (OneT_end [] (Hp.le_refl _) ⟨rfl, rfl⟩)
                                  · intro HX hX X Rest hR
                                    rintro _ _ ⟨rfl, rfl⟩
                                    rintro _ _ ⟨rfl, rfl⟩
                                    intro hU hUp
                                    refine W_move rfl rfl rfl ?_
                                    exact W_end (OneT_end [] (Hp.le_refl _) ⟨rfl, rfl⟩)
                                  · intro HX hX X Rest hR
                                    rintro _ _ ⟨rfl, rfl⟩
                                    intro hU hUp
                                    refine W_no rfl rfl rfl ?_
                                    exact W_end (OneT_end [] (Hp.le_refl _) ⟨rfl, rfl⟩)
                                  · intro HX hX X Rest hR
                                    rintro _ _ ⟨rfl, rfl⟩
                                    rintro _ _ ⟨rfl, rfl⟩
                                    intro hU hUp
                                    refine W_no rfl rfl rfl ?_
                                    exact W_end (OneT_end [] (Hp.le_refl _) ⟨rfl, rfl⟩)
                                  · intro HX hX X Rest hR
                                    rintro _ _ ⟨rfl, rfl⟩
                                    intro hU hUp
                                    refine W_no rfl rfl rfl ?_
                                    exact W_end (OneT_end [] (Hp.le_refl _) ⟨rfl, rfl⟩)
                                  · intro HX hX X Rest hR
                                    rintro _ _ ⟨rfl, rfl⟩
                                    intro hU hUp
                                    refine W_no rfl rfl rfl ?_
                                    exact W_end (OneT_end [] (Hp.le_refl _) ⟨rfl, rfl⟩)
                                  · intro HX hX X Rest hR
                                    rintro _ _ ⟨rfl, rfl⟩
                                    rintro _ _ ⟨rfl, rfl⟩
                                    intro hU hUp
                                    refine W_no rfl rfl rfl ?_
                                    exact W_end (OneT_end [] (Hp.le_refl _) ⟨rfl, rfl⟩)
                                  · intro HX hX X Rest hR
                                    rintro _ _ ⟨rfl, rfl⟩
                                    rintro _ _ ⟨rfl, rfl⟩
                                    rintro _ _ ⟨rfl, rfl⟩
                                    intro hU hUp
                                    refine W_no rfl rfl rfl ?_
                                    exact W_end (OneT_end [] (Hp.le_refl _) ⟨rfl, rfl⟩)
                                  · intro HX hX X Rest hR
                                    rintro _ _ ⟨rfl, rfl⟩
                                    rintro _ _ ⟨rfl, rfl⟩
                                    intro hU hUp
                                    refine W_no rfl rfl rfl ?_
                                    exact W_end (OneT_end [] (Hp.le_refl _) ⟨rfl, rfl⟩)
                                  · intro HX hX X Rest hR
                                    rintro _ _ ⟨rfl, rfl⟩
                                    rintro _ _ ⟨rfl, rfl⟩
                                    intro hU hUp
                                    refine W_no rfl rfl rfl ?_
                                    exact W_end (OneT_end [] (Hp.le_refl _) ⟨rfl, rfl⟩)
                                  intro H1058 hle1059
                                  rintro _ _ ⟨rfl, rfl⟩
                                  rintro _ _ ⟨rfl, rfl⟩
                                  rintro _ _ ⟨rfl, rfl⟩
                                  rintro _ _ ⟨rfl, rfl⟩
                                  rintro _ _ ⟨rfl, rfl⟩
                                  rintro _ _ ⟨rfl, rfl⟩
                                  rintro _ _ ⟨rfl, rfl⟩
                                  rintro _ _ ⟨rfl, rfl⟩
                                  rintro _ _ ⟨rfl, rfl⟩
                                  rintro _ _ ⟨rfl, rfl⟩
                                  rintro _ _ ⟨rfl, rfl⟩
                                  rintro _ _ ⟨rfl, rfl⟩
                                  rintro _ _ ⟨rfl, rfl⟩
                                  rintro _ _ ⟨rfl, rfl⟩
                                  rintro _ _ ⟨rfl, rfl⟩
                                  rintro _ _ ⟨rfl, rfl⟩
                                  rintro _ _ ⟨rfl, rfl⟩
                                  rintro _ _ ⟨rfl, rfl⟩
                                  rintro _ _ ⟨rfl, rfl⟩
                                  rintro _ _ ⟨rfl, rfl⟩
                                  rintro _ _ ⟨rfl, rfl⟩
                                  rintro _ _ ⟨rfl, rfl⟩
                                  rintro _ _ ⟨rfl, rfl⟩
                                  rintro _ _ ⟨rfl, rfl⟩
                                  rintro _ _ ⟨rfl, rfl⟩
                                  rintro _ _ ⟨rfl, rfl⟩
                                  refine W_no rfl rfl rfl ?_
                                  refine W_pick rfl rfl rfl rfl ?_
                                  refine W_end ?_
                                  refine E_then ?_
                                  refine C_cond (b := true) rfl (fun _ => ?_) (fun hb => Bool.noConfusion hb)
                                  refine C_seq ?_
                                  refine C_region ?_
                                  refine W_assign rfl rfl rfl ?_
                                  refine W_end ?_
                                  refine E_then ?_
                                  refine C_ret ?_
                                  refine E_ret_then ?_
                                  refine E_ret_block ?_
                                  refine E_ret_block ?_
                                  refine E_ret_then ?_
                                  refine E_ret_then ?_
                                  refine E_ret_block ?_
                                  refine E_ret_then ?_
                                  obtain rfl := Option.some.inj hm
                                  refine E_drop (List.Sublist.cons _ (List.Sublist.cons _ (List.Sublist.refl _))) ?_
                                  refine E_weak (Hp.le_trans hle747 hle1059) ?_
                                  exact end1 rfl rfl ⟨rfl, rfl, rfl⟩
                            · have hm := ite_t' hb1030 hm
                              refine C_region_tok0 26 (phiT [(fun H rs v => [] = rs ∧ .int .i64 ((k107 : Int)) = v), (fun H rs v => [] = rs ∧ .bool (true) = v), (fun H rs v => [] = rs ∧ .bool (true) = v), (fun H rs v => [] = rs ∧ undef = v), (fun H rs v => [] = rs ∧ undef = v), (fun H rs v => [] = rs ∧ undef = v), (fun H rs v => [] = rs ∧ undef = v), (fun H rs v => [] = rs ∧ undef = v), (fun H rs v => [] = rs ∧ .bool (true) = v), (fun H rs v => [] = rs ∧ .bool (true) = v), (fun H rs v => [] = rs ∧ undef = v), (fun H rs v => [] = rs ∧ undef = v), (fun H rs v => [] = rs ∧ undef = v), (fun H rs v => [] = rs ∧ undef = v), (fun H rs v => [] = rs ∧ undef = v), (fun H rs v => [] = rs ∧ undef = v), (fun H rs v => [] = rs ∧ .bool (true) = v), (fun H rs v => [] = rs ∧ .bool (true) = v), (fun H rs v => [] = rs ∧ undef = v), (fun H rs v => [] = rs ∧ undef = v), (fun H rs v => [] = rs ∧ undef = v), (fun H rs v => [] = rs ∧ undef = v), (fun H rs v => [] = rs ∧ undef = v), (fun H rs v => [] = rs ∧ undef = v), (fun H rs v => [] = rs ∧ undef = v), (fun H rs v => [] = rs ∧ undef = v)]) [[], [], [], [], [], [], [], [], [], [], [], [], [], [], [], [], [], [], [], [], [], [], [], [], [], []] [[], [], [], [], [], [], [], [], [], [], [], [], [], [], [], [], [], [], [], [], [], [], [], [], [], []] [] [0, 1, 2, 3, 4, 5, 6, 7, 8, 9, 10, 11, 12, 13, 14, 15, 16, 17, 18, 19, 20, 21, 22, 23, 24, 25] Facts.mixed (by kernel_rfl) rfl rfl rfl (by kernel_rfl) (phiT_mono ⟨eq_monoT _ _, eq_monoT _ _, eq_monoT _ _, eq_monoT _ _, eq_monoT _ _, eq_monoT _ _, eq_monoT _ _, eq_monoT _ _, eq_monoT _ _, eq_monoT _ _, eq_monoT _ _, eq_monoT _ _, eq_monoT _ _, eq_monoT _ _, eq_monoT _ _, eq_monoT _ _, eq_monoT _ _, eq_monoT _ _, eq_monoT _ _, eq_monoT _ _, eq_monoT _ _, eq_monoT _ _, eq_monoT _ _, eq_monoT _ _, eq_monoT _ _, eq_monoT _ _, trivial⟩) ⟨?_, ?_, ?_, ?_, ?_, ?_, ?_, ?_, ?_, ?_, ?_, ?_, ?_, ?_, ?_, ?_, ?_, ?_, ?_, ?_, ?_, ?_, ?_, ?_, ?_, ?_, trivial⟩ ?_
                              · intro HX hX X Rest hR
                                intro hU hUp
                                refine W_move rfl rfl rfl ?_
                                exact W_end (OneT_end [] (Hp.le_refl _) ⟨rfl, rfl⟩)
                              · intro HX hX X Rest hR
                                rintro _ _ ⟨rfl, rfl⟩
                                intro hU hUp
                                refine W_bin rfl rfl rfl rfl rfl ?_
                                exact W_end (OneT_end [] (Hp.le_refl _) ⟨rfl, (by first | rfl | (rw [hb1030]; try rfl))⟩)
                              · intro HX hX X Rest hR
                                rintro _ _ ⟨rfl, rfl⟩
                                intro hU hUp
                                refine W_move rfl rfl rfl ?_
                                exact W_end (OneT_end [] (Hp.le_refl _) ⟨rfl, rfl⟩)
                              · intro HX hX X Rest hR
                                rintro _ _ ⟨rfl, rfl⟩
                                intro hU hUp
                                refine W_no rfl rfl rfl ?_
                                exact W_end (OneT_end [] (Hp.le_refl _) ⟨rfl, rfl⟩)
                              · intro HX hX X Rest hR
                                rintro _ _ ⟨rfl, rfl⟩
                                rintro _ _ ⟨rfl, rfl⟩
                                intro hU hUp
                                refine W_no rfl rfl rfl ?_
                                exact W_end (OneT_end [] (Hp.le_refl _) ⟨rfl, rfl⟩)
                              · intro HX hX X Rest hR
                                rintro _ _ ⟨rfl, rfl⟩
                                intro hU hUp
                                refine W_no rfl rfl rfl ?_
                                exact W_end (OneT_end [] (Hp.le_refl _) ⟨rfl, rfl⟩)
                              · intro HX hX X Rest hR
                                rintro _ _ ⟨rfl, rfl⟩
                                rintro _ _ ⟨rfl, rfl⟩
                                intro hU hUp
                                refine W_no rfl rfl rfl ?_
                                exact W_end (OneT_end [] (Hp.le_refl _) ⟨rfl, rfl⟩)
                              · intro HX hX X Rest hR
                                rintro _ _ ⟨rfl, rfl⟩
                                rintro _ _ ⟨rfl, rfl⟩
                                rintro _ _ ⟨rfl, rfl⟩
                                intro hU hUp
                                refine W_no rfl rfl rfl ?_
                                exact W_end (OneT_end [] (Hp.le_refl _) ⟨rfl, rfl⟩)
                              · intro HX hX X Rest hR
                                rintro _ _ ⟨rfl, rfl⟩
                                rintro _ _ ⟨rfl, rfl⟩
                                intro hU hUp
                                refine W_pick rfl rfl rfl rfl ?_
                                exact W_end (OneT_end [] (Hp.le_refl _) ⟨rfl, rfl⟩)
                              · intro HX hX X Rest hR
                                rintro _ _ ⟨rfl, rfl⟩
                                rintro _ _ ⟨rfl, rfl⟩
                                intro hU hUp
                                refine W_move rfl rfl rfl ?_
                                exact W_end (OneT_end [] (Hp.le_refl _) ⟨rfl, rfl⟩)
                              · intro HX hX X Rest hR
                                rintro _ _ ⟨rfl, rfl⟩
                                intro hU hUp
                                refine W_no rfl rfl rfl ?_
                                exact W_end (OneT_end [] (Hp.le_refl _) ⟨rfl, rfl⟩)
                              · intro HX hX X Rest hR
                                rintro _ _ ⟨rfl, rfl⟩
                                intro hU hUp
                                refine W_no rfl rfl rfl ?_
                                exact W_end (OneT_end [] (Hp.le_refl _) ⟨rfl, rfl⟩)
                              · intro HX hX X Rest hR
                                rintro _ _ ⟨rfl, rfl⟩
                                rintro _ _ ⟨rfl, rfl⟩
                                intro hU hUp
                                refine W_no rfl rfl rfl ?_
                                exact W_end (OneT_end [] (Hp.le_refl _) ⟨rfl, rfl⟩)
                              · intro HX hX X Rest hR
                                rintro _ _ ⟨rfl, rfl⟩
                                rintro _ _ ⟨rfl, rfl⟩
                                rintro _ _ ⟨rfl, rfl⟩
                                intro hU hUp
                                refine W_no rfl rfl rfl ?_
                                exact W_end (OneT_end [] (Hp.le_refl _) ⟨rfl, rfl⟩)
                              · intro HX hX X Rest hR
                                rintro _ _ ⟨rfl, rfl⟩
                                rintro _ _ ⟨rfl, rfl⟩
                                intro hU hUp
                                refine W_no rfl rfl rfl ?_
                                exact W_end (OneT_end [] (Hp.le_refl _) ⟨rfl, rfl⟩)
                              · intro HX hX X Rest hR
                                rintro _ _ ⟨rfl, rfl⟩
                                rintro _ _ ⟨rfl, rfl⟩
                                intro hU hUp
                                refine W_no rfl rfl rfl ?_
                                exact W_end (OneT_end [] (Hp.le_refl _) ⟨rfl, rfl⟩)
                              · intro HX hX X Rest hR
                                rintro _ _ ⟨rfl, rfl⟩
                                rintro _ _ ⟨rfl, rfl⟩
                                intro hU hUp
                                refine W_pick rfl rfl rfl rfl ?_
                                exact W_end (OneT_end [] (Hp.le_refl _) ⟨rfl, rfl⟩)
                              · intro HX hX X Rest hR
                                rintro _ _ ⟨rfl, rfl⟩
                                rintro _ _ ⟨rfl, rfl⟩
                                intro hU hUp
                                refine W_move rfl rfl rfl ?_
                                exact W_end (OneT_end [] (Hp.le_refl _) ⟨rfl, rfl⟩)
                              · intro HX hX X Rest hR
                                rintro _ _ ⟨rfl, rfl⟩
                                intro hU hUp
                                refine W_no rfl rfl rfl ?_
                                exact W_end (OneT_end [] (Hp.le_refl _) ⟨rfl, rfl⟩)
                              · intro HX hX X Rest hR
                                rintro _ _ ⟨rfl, rfl⟩
                                rintro _ _ ⟨rfl, rfl⟩
                                intro hU hUp
                                refine W_no rfl rfl rfl ?_
                                exact W_end (OneT_end [] (Hp.le_refl _) ⟨rfl, rfl⟩)
                              · intro HX hX X Rest hR
                                rintro _ _ ⟨rfl, rfl⟩
                                intro hU hUp
                                refine W_no rfl rfl rfl ?_
                                exact W_end (OneT_end [] (Hp.le_refl _) ⟨rfl, rfl⟩)
                              · intro HX hX X Rest hR
                                rintro _ _ ⟨rfl, rfl⟩
                                intro hU hUp
                                refine W_no rfl rfl rfl ?_
                                exact W_end (OneT_end [] (Hp.le_refl _) ⟨rfl, rfl⟩)
                              · intro HX hX X Rest hR
                                rintro _ _ ⟨rfl, rfl⟩
                                rintro _ _ ⟨rfl, rfl⟩
                                intro hU hUp
                                refine W_no rfl rfl rfl ?_
                                exact W_end (OneT_end [] (Hp.le_refl _) ⟨rfl, rfl⟩)
                              · intro HX hX X Rest hR
                                rintro _ _ ⟨rfl, rfl⟩
                                rintro _ _ ⟨rfl, rfl⟩
                                rintro _ _ ⟨rfl, rfl⟩
                                intro hU hUp
                                refine W_no rfl rfl rfl ?_
                                exact W_end (OneT_end [] (Hp.le_refl _) ⟨rfl, rfl⟩)
                              · intro HX hX X Rest hR
                                rintro _ _ ⟨rfl, rfl⟩
                                rintro _ _ ⟨rfl, rfl⟩
                                intro hU hUp
                                refine W_no rfl rfl rfl ?_
                                exact W_end (OneT_end [] (Hp.le_refl _) ⟨rfl, rfl⟩)
                              · intro HX hX X Rest hR
                                rintro _ _ ⟨rfl, rfl⟩
                                rintro _ _ ⟨rfl, rfl⟩
                                intro hU hUp
                                refine W_no rfl rfl rfl ?_
                                exact W_end (OneT_end [] (Hp.le_refl _) ⟨rfl, rfl⟩)
                              intro H1060 hle1061
                              rintro _ _ ⟨rfl, rfl⟩
                              rintro _ _ ⟨rfl, rfl⟩
                              rintro _ _ ⟨rfl, rfl⟩
                              rintro _ _ ⟨rfl, rfl⟩
                              rintro _ _ ⟨rfl, rfl⟩
                              rintro _ _ ⟨rfl, rfl⟩
                              rintro _ _ ⟨rfl, rfl⟩
                              rintro _ _ ⟨rfl, rfl⟩
                              rintro _ _ ⟨rfl, rfl⟩
                              rintro _ _ ⟨rfl, rfl⟩
                              rintro _ _ ⟨rfl, rfl⟩
                              rintro _ _ ⟨rfl, rfl⟩
                              rintro _ _ ⟨rfl, rfl⟩
                              rintro _ _ ⟨rfl, rfl⟩
                              rintro _ _ ⟨rfl, rfl⟩
                              rintro _ _ ⟨rfl, rfl⟩
                              rintro _ _ ⟨rfl, rfl⟩
                              rintro _ _ ⟨rfl, rfl⟩
                              rintro _ _ ⟨rfl, rfl⟩
                              rintro _ _ ⟨rfl, rfl⟩
                              rintro _ _ ⟨rfl, rfl⟩
                              rintro _ _ ⟨rfl, rfl⟩
                              rintro _ _ ⟨rfl, rfl⟩
                              rintro _ _ ⟨rfl, rfl⟩
                              rintro _ _ ⟨rfl, rfl⟩
                              rintro _ _ ⟨rfl, rfl⟩
                              refine W_no rfl rfl rfl ?_
                              refine W_pick rfl rfl rfl rfl ?_
                              refine W_end ?_
                              refine E_then ?_
                              refine C_cond (b := true) rfl (fun _ => ?_) (fun hb => Bool.noConfusion hb)
                              refine C_seq ?_
                              refine C_region ?_
                              refine W_assign rfl rfl rfl ?_
                              refine W_end ?_
                              refine E_then ?_
                              refine C_ret ?_
                              refine E_ret_then ?_
                              refine E_ret_block ?_
                              refine E_ret_block ?_
                              refine E_ret_then ?_
                              refine E_ret_then ?_
                              refine E_ret_block ?_
                              refine E_ret_then ?_
                              obtain rfl := Option.some.inj hm
                              refine E_drop (List.Sublist.cons _ (List.Sublist.cons _ (List.Sublist.refl _))) ?_
                              refine E_weak (Hp.le_trans hle747 hle1061) ?_
                              exact end1 rfl rfl ⟨rfl, rfl, rfl⟩
                          · have hm := ite_f' hb1029 hm
                            refine C_seq_join (fun H' M' L' => H746 = H' ∧ .row v104 3 (Rep.sz Int) (l744.set (((k107 : Int) : Int).toNat) ((k107 : Int))).length xs1006 :: M = M' ∧ [(0, v0), (3, v104), (18, v0), (19, .int .i64 ((p0_l.length : Int))), (20, .int .i64 ((k107 : Int))), (71, .bool ((!decide (y752.A = 0)) || (!decide (y752.B_ = 0))))] = L') ?_ (fun J1063 => ?_)
                            · rintro _ _ _ ⟨rfl, rfl, rfl⟩
                              refine C_cond (b := (!decide (y752.A = 0)) || (!decide (y752.B_ = 0))) rfl (fun hb1064 => ?_) (fun hb1064 => ?_)
                              · have hm := ite_t' hb1064 hm
                                refine C_seq ?_
                                refine C_region ?_
                                refine W_assign rfl rfl rfl ?_
                                refine W_end ?_
                                refine E_then ?_
                                refine C_ret ?_
                                refine E_ret_block ?_
                                refine E_ret_block ?_
                                refine E_ret_then ?_
                                refine E_ret_then ?_
                                refine E_ret_block ?_
                                refine E_ret_then ?_
                                obtain rfl := Option.some.inj hm
                                refine E_drop (List.Sublist.cons _ (List.Sublist.refl _)) ?_
                                refine E_weak hle747 ?_
                                exact end1 rfl rfl ⟨rfl, rfl, rfl⟩
                              · have hm := ite_f' hb1064 hm
                                refine C_skip ?_
                                refine E_normal_block ?_
                                refine E_normal_block ?_
                                exact E_keepJ (J916 _ _ _ ⟨(l744.set (((k107 : Int) : Int).toNat) ((k107 : Int))), xs1006, hm, hr1003, (Hp.le_refl _), rfl, rfl⟩) (List.Perm.refl _) ⟨rfl, rfl, rfl, rfl, rfl, trivial⟩
                            · refine C_region ?_
                              refine W_field (o := 2) rfl rfl Proofs.Tryd.runUnderlying49 rfl Proofs.Tryd.sizeOf3 rfl rfl rfl ?_
                              refine W_load rfl rfl Proofs.Tryd.isAgg3 rfl (own_at (List.mem_cons_of_mem _ (List.mem_cons_self ..)) rfl) ?_
                              refine W_bin rfl rfl rfl rfl rfl ?_
                              refine W_move rfl rfl rfl ?_
                              cases hb1065 : (decide (y752.A = 0))
                              · refine W_no rfl rfl rfl ?_
                                refine W_no rfl rfl rfl ?_
                                refine W_no rfl rfl rfl ?_
                                refine W_pick rfl rfl rfl rfl ?_
                                refine W_end ?_
                                refine E_drop (List.Sublist.cons_cons _ (List.Sublist.cons _ (List.Sublist.refl _))) ?_
                                exact E_keepJ (J1063 _ _ _ ⟨rfl, rfl, rfl⟩) (List.Perm.refl _) ⟨rfl, rfl, rfl, rfl, rfl, (by show some (Value.bool (true)) = some (Value.bool ((!decide (y752.A = 0)) || (!decide (y752.B_ = 0)))); simp only [hb101, hb102, hb923, hb924, hb997, hb1007, hb1029, hb1065, Bool.and_true, Bool.true_and, Bool.false_and, Bool.and_false, Bool.or_true, Bool.true_or, Bool.or_false, Bool.false_or, Bool.not_true, Bool.not_false]), trivial⟩
                              · refine W_field (o := 3) rfl rfl Proofs.Tryd.runUnderlying49 rfl Proofs.Tryd.sizeOf3 rfl rfl rfl ?_
                                refine W_load rfl rfl Proofs.Tryd.isAgg3 rfl (own_at (List.mem_cons_of_mem _ (List.mem_cons_self ..)) rfl) ?_
                                refine W_bin rfl rfl rfl rfl rfl ?_
                                refine W_pick rfl rfl rfl rfl ?_
                                refine W_end ?_
                                refine E_drop (List.Sublist.cons_cons _ (List.Sublist.cons _ (List.Sublist.refl _))) ?_
                                exact E_keepJ (J1063 _ _ _ ⟨rfl, rfl, rfl⟩) (List.Perm.refl _) ⟨rfl, rfl, rfl, rfl, rfl, (by show some (Value.bool (!decide (y752.B_ = 0))) = some (Value.bool ((!decide (y752.A = 0)) || (!decide (y752.B_ = 0)))); simp only [hb101, hb102, hb923, hb924, hb997, hb1007, hb1029, hb1065, Bool.and_true, Bool.true_and, Bool.false_and, Bool.and_false, Bool.or_true, Bool.true_or, Bool.or_false, Bool.false_or, Bool.not_true, Bool.not_false]), trivial⟩
                        · refine C_seq ?_
                          refine C_region ?_
                          refine W_bin rfl rfl rfl rfl rfl ?_
                          refine W_assign rfl rfl rfl ?_
                          refine W_end ?_
                          refine E_then ?_
                          refine C_cond (b := decide (y752.Kind = 5)) rfl (fun hb1066 => ?_) (fun hb1066 => ?_)
                          · have hm := ite_t' hb1066 hm
                            refine C_skip ?_
                            exact E_keepJ (J1028 _ _ _ ⟨decide (y752.Kind = 5), hm, rfl, rfl, rfl⟩) (List.Perm.refl _) ⟨rfl, rfl, rfl, rfl, rfl, rfl, rfl, rfl, trivial⟩
                          · have hm := ite_f' hb1066 hm
                            refine C_region ?_
                            refine W_bin rfl rfl rfl rfl rfl ?_
                            refine W_assign rfl rfl rfl ?_
                            refine W_end ?_
                            exact E_keepJ (J1028 _ _ _ ⟨decide (y752.Kind = 6), hm, rfl, rfl, rfl⟩) (List.Perm.refl _) ⟨rfl, rfl, rfl, rfl, rfl, rfl, rfl, rfl, trivial⟩
                    · refine C_region ?_
                      refine W_move rfl rfl rfl ?_
                      refine W_un rfl rfl rfl rfl ?_
                      refine W_move rfl rfl rfl ?_
                      refine W_no rfl rfl rfl ?_
                      refine W_no rfl rfl rfl ?_
                      refine W_no rfl rfl rfl ?_
                      refine W_pick rfl rfl rfl rfl ?_
                      refine W_assign rfl rfl rfl ?_
                      refine W_end ?_
                      exact E_keepJ (J998 _ _ _ ⟨rfl, rfl, rfl⟩) (List.Perm.refl _) ⟨rfl, rfl, rfl, rfl, rfl, rfl, rfl, rfl, trivial⟩
            · refine C_region ?_
              refine W_field (o := 0) rfl rfl Proofs.Tryd.runUnderlying49 rfl Proofs.Tryd.sizeOf3 rfl rfl rfl ?_
              refine W_load rfl rfl Proofs.Tryd.isAgg3 rfl (own_at (List.mem_cons_self ..) rfl) ?_
              refine W_bin rfl rfl rfl rfl rfl ?_
              refine W_move rfl rfl rfl ?_
              cases hb1067 : (decide (y752.Kind < 0))
              · refine W_field (o := 0) rfl rfl Proofs.Tryd.runUnderlying49 rfl Proofs.Tryd.sizeOf3 rfl rfl rfl ?_
                refine W_load rfl rfl Proofs.Tryd.isAgg3 rfl (own_at (List.mem_cons_self ..) rfl) ?_
                refine W_bin rfl rfl rfl rfl rfl ?_
                refine W_pick rfl rfl rfl rfl ?_
                refine W_assign rfl rfl rfl ?_
                refine W_end ?_
                exact E_keepJ (J922 _ _ _ ⟨rfl, rfl, rfl⟩) (List.Perm.refl _) ⟨rfl, rfl, rfl, rfl, rfl, rfl, rfl, rfl, (by show some (Value.bool (decide (6 < y752.Kind))) = some (Value.bool ((decide (y752.Kind < 0)) || (decide (6 < y752.Kind)))); simp only [hb101, hb102, hb1067, Bool.and_true, Bool.true_and, Bool.false_and, Bool.and_false, Bool.or_true, Bool.true_or, Bool.or_false, Bool.false_or, Bool.not_true, Bool.not_false]), trivial⟩
              · refine W_no rfl rfl rfl ?_
                refine W_no rfl rfl rfl ?_
                refine W_no rfl rfl rfl ?_
                refine W_pick rfl rfl rfl rfl ?_
                refine W_assign rfl rfl rfl ?_
                refine W_end ?_
                exact E_keepJ (J922 _ _ _ ⟨rfl, rfl, rfl⟩) (List.Perm.refl _) ⟨rfl, rfl, rfl, rfl, rfl, rfl, rfl, rfl, (by show some (Value.bool (true)) = some (Value.bool ((decide (y752.Kind < 0)) || (decide (6 < y752.Kind)))); simp only [hb101, hb102, hb1067, Bool.and_true, Bool.true_and, Bool.false_and, Bool.and_false, Bool.or_true, Bool.true_or, Bool.or_false, Bool.false_or, Bool.not_true, Bool.not_false]), trivial⟩
          · refine C_region ?_
            refine W_field (o := 0) rfl rfl Proofs.Tryd.runUnderlying49 rfl Proofs.Tryd.sizeOf3 rfl rfl rfl ?_
            refine W_load rfl rfl Proofs.Tryd.isAgg3 rfl (own_at (List.mem_cons_self ..) rfl) ?_
            refine W_bin rfl rfl rfl rfl rfl ?_
            refine W_move rfl rfl rfl ?_
            cases hb1068 : (decide (y752.Kind = 2))
            · refine W_field (o := 0) rfl rfl Proofs.Tryd.runUnderlying49 rfl Proofs.Tryd.sizeOf3 rfl rfl rfl ?_
              refine W_load rfl rfl Proofs.Tryd.isAgg3 rfl (own_at (List.mem_cons_self ..) rfl) ?_
              refine W_bin rfl rfl rfl rfl rfl ?_
              refine W_pick rfl rfl rfl rfl ?_
              refine W_assign rfl rfl rfl ?_
              refine W_end ?_
              exact E_keepJ (J920 _ _ _ ⟨rfl, rfl, rfl⟩) (List.Perm.refl _) ⟨rfl, rfl, rfl, rfl, (by show some (Value.bool (decide (y752.Kind = 3))) = some (Value.bool ((decide (y752.Kind = 2)) || (decide (y752.Kind = 3)))); simp only [hb101, hb102, hb1068, Bool.and_true, Bool.true_and, Bool.false_and, Bool.and_false, Bool.or_true, Bool.true_or, Bool.or_false, Bool.false_or, Bool.not_true, Bool.not_false]), rfl, rfl, rfl, trivial⟩
            · refine W_no rfl rfl rfl ?_
              refine W_no rfl rfl rfl ?_
              refine W_no rfl rfl rfl ?_
              refine W_pick rfl rfl rfl rfl ?_
              refine W_assign rfl rfl rfl ?_
              refine W_end ?_
              exact E_keepJ (J920 _ _ _ ⟨rfl, rfl, rfl⟩) (List.Perm.refl _) ⟨rfl, rfl, rfl, rfl, (by show some (Value.bool (true)) = some (Value.bool ((decide (y752.Kind = 2)) || (decide (y752.Kind = 3)))); simp only [hb101, hb102, hb1068, Bool.and_true, Bool.true_and, Bool.false_and, Bool.and_false, Bool.or_true, Bool.true_or, Bool.or_false, Bool.false_or, Bool.not_true, Bool.not_false]), rfl, rfl, rfl, trivial⟩
      · obtain rfl := rng_f hd755 hb757
        have hm : (idx l744 (IntKind.i64.wrap ((p0_l.length : Int) - 1)) fun y1069 => if !decide (y1069 = 0) then (some 3) else (some 0)) = some r := hm
        refine C_exit (E_exit_then ?_)
        refine E_exit_then ?_
        refine E_exit_hit ?_
        refine E_then ?_
        refine C_seq ?_
        refine C_seq ?_
        refine C_region ?_
        refine W_move rfl rfl rfl ?_
        refine W_move rfl rfl rfl ?_
        refine W_lenR rfl rfl Proofs.Tryd.runUnderlying32 rfl (h0.mono hle747) ?_
        refine W_bin rfl rfl rfl rfl rfl ?_
        obtain ⟨y1069, h1070, he1071, hm⟩ := idx_some hm
        refine W_indexO (List.mem_cons_self ..) rfl rfl Proofs.Tryd.runUnderlying51 Proofs.Tryd.sizeOf3 rfl rfl h1070 (List.getElem?_eq_some_iff.1 he1071).1 ?_
        obtain ⟨_, rfl, hg1072⟩ := (hr745).elem he1071
        refine W_load rfl rfl Proofs.Tryd.isAgg3 rfl (row_one0 (List.mem_cons_self ..) hg1072 rfl) ?_
        refine W_bin rfl rfl rfl rfl rfl ?_
        refine W_end ?_
        refine E_then ?_
        refine C_cond (b := !decide (y1069 = 0)) rfl (fun hb1073 => ?_) (fun hb1073 => ?_)
        · have hm := ite_t' hb1073 hm
          refine C_seq ?_
          refine C_region ?_
          refine W_assign rfl rfl rfl ?_
          refine W_end ?_
          refine E_then ?_
          refine C_ret ?_
          refine E_ret_then ?_
          obtain rfl := Option.some.inj hm
          refine E_drop (List.Sublist.cons _ (List.Sublist.refl _)) ?_
          refine E_weak hle747 ?_
          exact end1 rfl rfl ⟨rfl, rfl, rfl⟩
        · have hm := ite_f' hb1073 hm
          refine C_skip ?_
          refine E_then ?_
          refine C_seq ?_
          refine C_region ?_
          refine W_assign rfl rfl rfl ?_
          refine W_end ?_
          refine E_then ?_
          refine C_ret ?_
          obtain rfl := Option.some.inj hm
          refine E_drop (List.Sublist.cons _ (List.Sublist.refl _)) ?_
          refine E_weak hle747 ?_
          exact end1 rfl rfl ⟨rfl, rfl, rfl⟩
end Go.Sim
