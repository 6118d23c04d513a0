/-
  Printed by a program: each Go function computes its model.
-/
import Derived.Test.YthcolhlbmcbdjaaModT
import Derived.Test.YthcolhlbmcbdjaaRows
import Derived.KernelRfl
namespace Go.Sim
open Go
set_option linter.unusedVariables false
set_option linter.unusedSimpArgs false
set_option maxRecDepth 100000
theorem Facts.mixed : Proofs.Try.prog.follows .mixedOrders = true := by kernel_rfl

theorem m_telemetry_New_c {B : Nat} {w0 w : World} {H : Hp} {M : List Res} {age : Int} {r : (Option S_telemetry_Points) × Int} (hm : m_telemetry_New age = r) (ht : St B w0 H (M) w) :
    Calls Proofs.Try.prog 10 [.int .i64 (age)].toArray w (Ret B w0 fun H' M' v => (r.1 = none ∧ H.le H' ∧ M = M' ∧ .tuple #[.pointer none, .int .i64 (r.2)] = v) ∨ (∃ qsp0 : S_telemetry_Points, r.1 = some qsp0 ∧ H.le H' ∧ ∃ qb0 : Nat, ∃ qv0 : Value, ∃ qxs0 : List Value, .obj qb0 (.cells [.int .i64 (qsp0.age), qv0].toArray 53 (0, 0)) :: .row qv0 57 (Rep.sz S_telemetry_point) qsp0.all_.length qxs0 :: M = M' ∧ .tuple #[.pointer (some ⟨qb0, 0, none⟩), .int .i64 (r.2)] = v ∧ Rw H' qv0 qxs0 qsp0.all_)) := by
  unfold m_telemetry_New at hm
  refine enter Proofs.Try.func10 rfl rfl rfl ht ?_
  refine C_seq ?_
  refine C_region ?_
  refine W_assign rfl rfl rfl ?_
  refine W_assign rfl rfl rfl ?_
  refine W_end ?_
  refine E_then ?_
  refine C_seq ?_
  refine C_seq_join (fun H' M' L' => H = H' ∧ M = M' ∧ [(0, .int .i64 (age)), (9, .bool ((decide (age < 0)) || (decide (200000 < age))))] = L') ?_ (fun J102 => ?_)
  · rintro _ _ _ ⟨rfl, rfl, rfl⟩
    refine C_cond (b := (decide (age < 0)) || (decide (200000 < age))) rfl (fun hb103 => ?_) (fun hb103 => ?_)
    · have hm := ite_t' hb103 hm
      refine C_seq ?_
      refine C_region ?_
      refine W_assign rfl rfl rfl ?_
      refine W_assign rfl rfl rfl ?_
      refine W_end ?_
      refine E_then ?_
      refine C_ret ?_
      refine E_ret_then ?_
      obtain rfl := hm
      exact end2 rfl rfl rfl (.inl ⟨rfl, (Hp.le_refl _), rfl, rfl⟩)
    · have hm := ite_f' hb103 hm
      refine C_skip ?_
      refine E_then ?_
      refine C_seq ?_
      refine C_region ?_
      refine W_move rfl rfl rfl ?_
      refine W_build (css := [[.int .i64 (age)]]) (zs := [.int .i64 (0), .slice none 0 0]) (out := [.int .i64 (age), .slice none 0 0]) (places := [(0, 1), (1, 1)]) rfl rfl rfl ⟨rfl, trivial⟩ Proofs.Try.zeroValue53 rfl Proofs.Try.runUnderlying53 (fun w => by kernel_rfl) rfl ?_
      refine W_box (cs := [.int .i64 (age), .slice none 0 0]) rfl rfl rfl rfl (fun b104 => ?_)
      refine W_assign rfl rfl rfl ?_
      refine W_assign rfl rfl rfl ?_
      refine W_end ?_
      refine E_then ?_
      refine C_ret ?_
      refine E_nilRow 57 (Rep.sz S_telemetry_point) ?_
      obtain rfl := hm
      refine E_perm (List.Perm.swap _ _ _) ?_
      exact end2 rfl rfl rfl (.inr ⟨(S_telemetry_Points.mk age ([] : List S_telemetry_point)), rfl, (Hp.le_refl _), b104, (.slice none 0 0), [], rfl, rfl, Rw.nil⟩)
  · refine C_region ?_
    refine W_move rfl rfl rfl ?_
    refine W_bin rfl rfl rfl rfl rfl ?_
    refine W_move rfl rfl rfl ?_
    cases hb105 : (decide (age < 0))
    · refine W_move rfl rfl rfl ?_
      refine W_bin rfl rfl rfl rfl rfl ?_
      refine W_pick rfl rfl rfl rfl ?_
      refine W_end ?_
      exact E_keepJ (J102 _ _ _ ⟨rfl, rfl, rfl⟩) (List.Perm.refl _) ⟨rfl, (by show some (Value.bool (decide (200000 < age))) = some (Value.bool ((decide (age < 0)) || (decide (200000 < age)))); simp only [hb105, Bool.and_true, Bool.true_and, Bool.false_and, Bool.and_false, Bool.or_true, Bool.true_or, Bool.or_false, Bool.false_or, Bool.not_true, Bool.not_false]), trivial⟩
    · refine W_no rfl rfl rfl ?_
      refine W_no rfl rfl rfl ?_
      refine W_pick rfl rfl rfl rfl ?_
      refine W_end ?_
      exact E_keepJ (J102 _ _ _ ⟨rfl, rfl, rfl⟩) (List.Perm.refl _) ⟨rfl, (by show some (Value.bool (true)) = some (Value.bool ((decide (age < 0)) || (decide (200000 < age)))); simp only [hb105, Bool.and_true, Bool.true_and, Bool.false_and, Bool.and_false, Bool.or_true, Bool.true_or, Bool.or_false, Bool.false_or, Bool.not_true, Bool.not_false]), trivial⟩

theorem m_netmodel_Name_c {B : Nat} {w0 w : World} {H : Hp} {M : List Res} {p0_s : ByteArray} {r : Bool} (hm : m_netmodel_Name p0_s = some r) (ht : St B w0 H (M) w) :
    Calls Proofs.Try.prog 30 [.string (p0_s)].toArray w (Ret B w0 fun H' M' v => H = H' ∧ M = M' ∧ .bool (r) = v) := by
  unfold m_netmodel_Name at hm
  refine enter Proofs.Try.func30 rfl rfl rfl ht ?_
  refine C_seq ?_
  refine C_region ?_
  refine W_assign rfl rfl rfl ?_
  refine W_end ?_
  refine E_then ?_
  refine C_seq ?_
  refine C_seq ?_
  refine C_region ?_
  refine W_move rfl rfl rfl ?_
  obtain ⟨hz101, hm⟩ := need_some hm
  refine W_convBytes rfl rfl Proofs.Try.runUnderlying9 Proofs.Try.runUnderlying79 Proofs.Try.runUnderlying5 rfl hz101 ?_
  intro v102 H103 hle104 h105
  refine W_lenR rfl rfl Proofs.Try.runUnderlying79 rfl h105 ?_
  refine W_move rfl rfl rfl ?_
  refine W_end ?_
  refine E_then ?_
  refine C_block ?_
  refine C_keep (L' := [(0, .string (p0_s)), (6, v102), (7, .int .i64 (((bytesL p0_s).length : Int))), (8, .int .i64 (((0 : Nat) : Int)))]) ⟨rfl, rfl, rfl, rfl, trivial⟩ (List.Perm.refl _) ?_
  refine C_loop (fun n H' M' L' => ∃ (k106 : Nat) (zs144' : List U8), (bytesL p0_s).drop k106 = zs144' ∧ zs144'.length = n ∧ forI (fun k y s139 n => m_netmodel_Name_b1 k y n) (fun _ => some ((decide (1 ≤ (p0_s.size : Int))) && (decide ((p0_s.size : Int) ≤ 8)))) k106 zs144' () = some r ∧ H103.le H' ∧ M = M' ∧ [(0, .string (p0_s)), (6, v102), (7, .int .i64 (((bytesL p0_s).length : Int))), (8, .int .i64 ((k106 : Int)))] = L') _ ⟨0, _, rfl, rfl, hm, (Hp.le_refl _), rfl, rfl⟩ ?_
  rintro _ H137 _ _ ⟨k106, zs144', hd146, rfl, hm, hle138, rfl, rfl⟩
  refine C_seq ?_
  refine C_region ?_
  refine W_bin rfl rfl rfl rfl rfl ?_
  refine W_end (E_then ?_)
  refine C_seq ?_
  refine C_cond (b := decide ((k106 : Int) < ((bytesL p0_s).length : Int))) rfl (fun hb148 => ?_) (fun hb148 => ?_)
  · obtain ⟨y143, zs144, rfl, hy145, hd147⟩ := rng_t hd146 hb148
    have hm : m_netmodel_Name_b1 k106 y143 (forI (fun k y s139 n => m_netmodel_Name_b1 k y n) (fun _ => some ((decide (1 ≤ (p0_s.size : Int))) && (decide ((p0_s.size : Int) ≤ 8)))) (k106 + 1) zs144) = some r := hm
    generalize hn141 : forI (fun k y s139 n => m_netmodel_Name_b1 k y n) (fun _ => some ((decide (1 ≤ (p0_s.size : Int))) && (decide ((p0_s.size : Int) ≤ 8)))) (k106 + 1) zs144 = nx140 at hm
    unfold m_netmodel_Name_b1 at hm
    refine C_skip (E_then ?_)
    refine C_seq ?_
    refine C_block ?_
    refine C_seq ?_
    refine C_region ?_
    refine W_move rfl rfl rfl ?_
    obtain ⟨_, rfl, hc149⟩ := (h105).elem hy145
    refine W_indexS rfl rfl Proofs.Try.runUnderlying79 Proofs.Try.sizeOf5 rfl (h105.mono hle138) rfl (Int.natCast_nonneg _) hy145 ?_
    refine W_load rfl rfl Proofs.Try.isAgg5 rfl (HCells.one (hc149.mono hle138) 0 rfl).at ?_
    refine W_assign rfl rfl rfl ?_
    refine W_assign rfl rfl rfl ?_
    refine W_end ?_
    refine E_then ?_
    refine C_seq_join (fun H' M' L' => H137 = H' ∧ M = M' ∧ [(0, .string (p0_s)), (6, v102), (7, .int .i64 (((bytesL p0_s).length : Int))), (8, .int .i64 ((k106 : Int))), (31, .bool (!(((decide (65 ≤ y143.n)) && (decide (y143.n ≤ 90))) || (((decide (0 < (k106 : Int))) && (decide (48 ≤ y143.n))) && (decide (y143.n ≤ 57))))))] = L') ?_ (fun J156 => ?_)
    · rintro _ _ _ ⟨rfl, rfl, rfl⟩
      refine C_cond (b := !(((decide (65 ≤ y143.n)) && (decide (y143.n ≤ 90))) || (((decide (0 < (k106 : Int))) && (decide (48 ≤ y143.n))) && (decide (y143.n ≤ 57))))) rfl (fun hb157 => ?_) (fun hb157 => ?_)
      · have hm := ite_t' hb157 hm
        refine C_seq ?_
        refine C_region ?_
        refine W_assign rfl rfl rfl ?_
        refine W_end ?_
        refine E_then ?_
        refine C_ret ?_
        refine E_ret_block ?_
        refine E_ret_then ?_
        refine E_ret_then ?_
        refine E_ret_block ?_
        refine E_ret_then ?_
        obtain rfl := Option.some.inj hm
        refine E_weak (Hp.le_trans hle104 hle138) ?_
        exact end1 rfl rfl ⟨rfl, rfl, rfl⟩
      · have hm := ite_f' hb157 hm
        refine C_skip ?_
        refine E_normal_block ?_
        refine E_then ?_
        refine C_region ?_
        refine W_bin rfl rfl rfl rfl rfl ?_
        refine W_move rfl rfl rfl ?_
        refine W_end ?_
        exact E_keepJ (E_back (Nat.lt_succ_self _) ⟨k106 + 1, zs144, hd147, rfl, (by rw [hn141]; exact hm), hle138, rfl, rfl⟩) (List.Perm.refl _) ⟨rfl, rfl, rfl, (congrArg (fun z => some (Value.int .i64 z)) (i64_succ hy145 ((h105.mono hle138)).lenMax)), trivial⟩
    · refine C_region ?_
      refine W_move rfl rfl rfl ?_
      refine W_bin rfl rfl rfl rfl rfl ?_
      refine W_move rfl rfl rfl ?_
      cases hb158 : (decide (65 ≤ y143.n))
      · refine W_no rfl rfl rfl ?_
        refine W_no rfl rfl rfl ?_
        refine W_pick rfl rfl rfl rfl ?_
        refine W_move rfl rfl rfl ?_
        refine W_move rfl rfl rfl ?_
        refine W_bin rfl rfl rfl rfl rfl ?_
        refine W_move rfl rfl rfl ?_
        cases hb159 : (decide (0 < (k106 : Int)))
        · refine W_no rfl rfl rfl ?_
          refine W_no rfl rfl rfl ?_
          refine W_pick rfl rfl rfl rfl ?_
          refine W_move rfl rfl rfl ?_
          refine W_no rfl rfl rfl ?_
          refine W_no rfl rfl rfl ?_
          refine W_pick rfl rfl rfl rfl ?_
          refine W_pick rfl rfl rfl rfl ?_
          refine W_un rfl rfl rfl rfl ?_
          refine W_end ?_
          exact E_keepJ (J156 _ _ _ ⟨rfl, rfl, rfl⟩) (List.Perm.refl _) ⟨rfl, rfl, rfl, rfl, (by show some (Value.bool (true)) = some (Value.bool (!(((decide (65 ≤ y143.n)) && (decide (y143.n ≤ 90))) || (((decide (0 < (k106 : Int))) && (decide (48 ≤ y143.n))) && (decide (y143.n ≤ 57)))))); simp only [hb158, hb159, Bool.and_true, Bool.true_and, Bool.false_and, Bool.and_false, Bool.or_true, Bool.true_or, Bool.or_false, Bool.false_or, Bool.not_true, Bool.not_false]), trivial⟩
        · refine W_move rfl rfl rfl ?_
          refine W_bin rfl rfl rfl rfl rfl ?_
          refine W_pick rfl rfl rfl rfl ?_
          refine W_move rfl rfl rfl ?_
          cases hb160 : (decide (48 ≤ y143.n))
          · refine W_no rfl rfl rfl ?_
            refine W_no rfl rfl rfl ?_
            refine W_pick rfl rfl rfl rfl ?_
            refine W_pick rfl rfl rfl rfl ?_
            refine W_un rfl rfl rfl rfl ?_
            refine W_end ?_
            exact E_keepJ (J156 _ _ _ ⟨rfl, rfl, rfl⟩) (List.Perm.refl _) ⟨rfl, rfl, rfl, rfl, (by show some (Value.bool (true)) = some (Value.bool (!(((decide (65 ≤ y143.n)) && (decide (y143.n ≤ 90))) || (((decide (0 < (k106 : Int))) && (decide (48 ≤ y143.n))) && (decide (y143.n ≤ 57)))))); simp only [hb158, hb159, hb160, Bool.and_true, Bool.true_and, Bool.false_and, Bool.and_false, Bool.or_true, Bool.true_or, Bool.or_false, Bool.false_or, Bool.not_true, Bool.not_false]), trivial⟩
          · refine W_move rfl rfl rfl ?_
            refine W_bin rfl rfl rfl rfl rfl ?_
            refine W_pick rfl rfl rfl rfl ?_
            refine W_pick rfl rfl rfl rfl ?_
            refine W_un rfl rfl rfl rfl ?_
            refine W_end ?_
            exact E_keepJ (J156 _ _ _ ⟨rfl, rfl, rfl⟩) (List.Perm.refl _) ⟨rfl, rfl, rfl, rfl, (by show some (Value.bool (!(decide (y143.n ≤ 57)))) = some (Value.bool (!(((decide (65 ≤ y143.n)) && (decide (y143.n ≤ 90))) || (((decide (0 < (k106 : Int))) && (decide (48 ≤ y143.n))) && (decide (y143.n ≤ 57)))))); simp only [hb158, hb159, hb160, Bool.and_true, Bool.true_and, Bool.false_and, Bool.and_false, Bool.or_true, Bool.true_or, Bool.or_false, Bool.false_or, Bool.not_true, Bool.not_false]), trivial⟩
      · refine W_move rfl rfl rfl ?_
        refine W_bin rfl rfl rfl rfl rfl ?_
        refine W_pick rfl rfl rfl rfl ?_
        refine W_move rfl rfl rfl ?_
        cases hb161 : (decide (y143.n ≤ 90))
        · refine W_move rfl rfl rfl ?_
          refine W_bin rfl rfl rfl rfl rfl ?_
          refine W_move rfl rfl rfl ?_
          cases hb162 : (decide (0 < (k106 : Int)))
          · refine W_no rfl rfl rfl ?_
            refine W_no rfl rfl rfl ?_
            refine W_pick rfl rfl rfl rfl ?_
            refine W_move rfl rfl rfl ?_
            refine W_no rfl rfl rfl ?_
            refine W_no rfl rfl rfl ?_
            refine W_pick rfl rfl rfl rfl ?_
            refine W_pick rfl rfl rfl rfl ?_
            refine W_un rfl rfl rfl rfl ?_
            refine W_end ?_
            exact E_keepJ (J156 _ _ _ ⟨rfl, rfl, rfl⟩) (List.Perm.refl _) ⟨rfl, rfl, rfl, rfl, (by show some (Value.bool (true)) = some (Value.bool (!(((decide (65 ≤ y143.n)) && (decide (y143.n ≤ 90))) || (((decide (0 < (k106 : Int))) && (decide (48 ≤ y143.n))) && (decide (y143.n ≤ 57)))))); simp only [hb158, hb161, hb162, Bool.and_true, Bool.true_and, Bool.false_and, Bool.and_false, Bool.or_true, Bool.true_or, Bool.or_false, Bool.false_or, Bool.not_true, Bool.not_false]), trivial⟩
          · refine W_move rfl rfl rfl ?_
            refine W_bin rfl rfl rfl rfl rfl ?_
            refine W_pick rfl rfl rfl rfl ?_
            refine W_move rfl rfl rfl ?_
            cases hb163 : (decide (48 ≤ y143.n))
            · refine W_no rfl rfl rfl ?_
              refine W_no rfl rfl rfl ?_
              refine W_pick rfl rfl rfl rfl ?_
              refine W_pick rfl rfl rfl rfl ?_
              refine W_un rfl rfl rfl rfl ?_
              refine W_end ?_
              exact E_keepJ (J156 _ _ _ ⟨rfl, rfl, rfl⟩) (List.Perm.refl _) ⟨rfl, rfl, rfl, rfl, (by show some (Value.bool (true)) = some (Value.bool (!(((decide (65 ≤ y143.n)) && (decide (y143.n ≤ 90))) || (((decide (0 < (k106 : Int))) && (decide (48 ≤ y143.n))) && (decide (y143.n ≤ 57)))))); simp only [hb158, hb161, hb162, hb163, Bool.and_true, Bool.true_and, Bool.false_and, Bool.and_false, Bool.or_true, Bool.true_or, Bool.or_false, Bool.false_or, Bool.not_true, Bool.not_false]), trivial⟩
            · refine W_move rfl rfl rfl ?_
              refine W_bin rfl rfl rfl rfl rfl ?_
              refine W_pick rfl rfl rfl rfl ?_
              refine W_pick rfl rfl rfl rfl ?_
              refine W_un rfl rfl rfl rfl ?_
              refine W_end ?_
              exact E_keepJ (J156 _ _ _ ⟨rfl, rfl, rfl⟩) (List.Perm.refl _) ⟨rfl, rfl, rfl, rfl, (by show some (Value.bool (!(decide (y143.n ≤ 57)))) = some (Value.bool (!(((decide (65 ≤ y143.n)) && (decide (y143.n ≤ 90))) || (((decide (0 < (k106 : Int))) && (decide (48 ≤ y143.n))) && (decide (y143.n ≤ 57)))))); simp only [hb158, hb161, hb162, hb163, Bool.and_true, Bool.true_and, Bool.false_and, Bool.and_false, Bool.or_true, Bool.true_or, Bool.or_false, Bool.false_or, Bool.not_true, Bool.not_false]), trivial⟩
        · refine W_no rfl rfl rfl ?_
          refine W_no rfl rfl rfl ?_
          refine W_no rfl rfl rfl ?_
          refine W_no rfl rfl rfl ?_
          refine W_no rfl rfl rfl ?_
          refine W_no rfl rfl rfl ?_
          refine W_no rfl rfl rfl ?_
          refine W_no rfl rfl rfl ?_
          refine W_no rfl rfl rfl ?_
          refine W_no rfl rfl rfl ?_
          refine W_pick rfl rfl rfl rfl ?_
          refine W_un rfl rfl rfl rfl ?_
          refine W_end ?_
          exact E_keepJ (J156 _ _ _ ⟨rfl, rfl, rfl⟩) (List.Perm.refl _) ⟨rfl, rfl, rfl, rfl, (by show some (Value.bool (false)) = some (Value.bool (!(((decide (65 ≤ y143.n)) && (decide (y143.n ≤ 90))) || (((decide (0 < (k106 : Int))) && (decide (48 ≤ y143.n))) && (decide (y143.n ≤ 57)))))); simp only [hb158, hb161, Bool.and_true, Bool.true_and, Bool.false_and, Bool.and_false, Bool.or_true, Bool.true_or, Bool.or_false, Bool.false_or, Bool.not_true, Bool.not_false]), trivial⟩
  · obtain rfl := rng_f hd146 hb148
    have hm : (some ((decide (1 ≤ (p0_s.size : Int))) && (decide ((p0_s.size : Int) ≤ 8)))) = some r := hm
    refine C_exit (E_exit_then ?_)
    refine E_exit_then ?_
    refine E_exit_hit ?_
    refine E_then ?_
    refine C_seq_join (fun H' M' L' => H137 = H' ∧ M = M' ∧ [(2, .bool ((decide (1 ≤ (p0_s.size : Int))) && (decide ((p0_s.size : Int) ≤ 8))))] = L') ?_ (fun J165 => ?_)
    · rintro _ _ _ ⟨rfl, rfl, rfl⟩
      refine C_ret ?_
      obtain rfl := Option.some.inj hm
      refine E_weak (Hp.le_trans hle104 hle138) ?_
      exact end1 rfl rfl ⟨rfl, rfl, rfl⟩
    · refine C_region ?_
      refine W_move rfl rfl rfl ?_
      refine W_lenStr rfl rfl Proofs.Try.runUnderlying9 rfl ?_
      refine W_bin rfl rfl rfl rfl rfl ?_
      refine W_move rfl rfl rfl ?_
      cases hb166 : (decide (1 ≤ (p0_s.size : Int)))
      · refine W_no rfl rfl rfl ?_
        refine W_no rfl rfl rfl ?_
        refine W_no rfl rfl rfl ?_
        refine W_pick rfl rfl rfl rfl ?_
        refine W_assign rfl rfl rfl ?_
        refine W_end ?_
        exact E_keepJ (J165 _ _ _ ⟨rfl, rfl, rfl⟩) (List.Perm.refl _) ⟨(by show some (Value.bool (false)) = some (Value.bool ((decide (1 ≤ (p0_s.size : Int))) && (decide ((p0_s.size : Int) ≤ 8)))); simp only [hb166, Bool.and_true, Bool.true_and, Bool.false_and, Bool.and_false, Bool.or_true, Bool.true_or, Bool.or_false, Bool.false_or, Bool.not_true, Bool.not_false]), trivial⟩
      · refine W_move rfl rfl rfl ?_
        refine W_lenStr rfl rfl Proofs.Try.runUnderlying9 rfl ?_
        refine W_bin rfl rfl rfl rfl rfl ?_
        refine W_pick rfl rfl rfl rfl ?_
        refine W_assign rfl rfl rfl ?_
        refine W_end ?_
        exact E_keepJ (J165 _ _ _ ⟨rfl, rfl, rfl⟩) (List.Perm.refl _) ⟨(by show some (Value.bool (decide ((p0_s.size : Int) ≤ 8))) = some (Value.bool ((decide (1 ≤ (p0_s.size : Int))) && (decide ((p0_s.size : Int) ≤ 8)))); simp only [hb166, Bool.and_true, Bool.true_and, Bool.false_and, Bool.and_false, Bool.or_true, Bool.true_or, Bool.or_false, Bool.false_or, Bool.not_true, Bool.not_false]), trivial⟩

theorem m_telemetry_Check_c {B : Nat} {w0 w : World} {H : Hp} {M : List Res} {p0_m : S_api_TelemetryMsg} {r : Int} (hm : m_telemetry_Check p0_m = some r) (ht : St B w0 H (M) w) :
    Calls Proofs.Try.prog 22 [.agg [.string (p0_m.Point), .int .i64 (p0_m.Number), .int .i64 (p0_m.Time), .int .i64 (p0_m.Value)].toArray].toArray w (Ret B w0 fun H' M' v => H = H' ∧ M = M' ∧ .int .i64 (r) = v) := by
  unfold m_telemetry_Check at hm
  refine enter Proofs.Try.func22 rfl rfl rfl ht ?_
  refine C_seq ?_
  refine C_region ?_
  refine W_box (cs := [.string (p0_m.Point), .int .i64 (p0_m.Number), .int .i64 (p0_m.Time), .int .i64 (p0_m.Value)]) rfl rfl rfl rfl (fun b101 => ?_)
  refine W_assign rfl rfl rfl ?_
  refine W_end ?_
  refine E_then ?_
  refine C_seq ?_
  refine C_block ?_
  refine C_seq ?_
  refine C_region ?_
  refine W_field (o := 0) rfl rfl Proofs.Try.runUnderlying35 rfl Proofs.Try.sizeOf9 rfl rfl rfl ?_
  refine W_load rfl rfl Proofs.Try.isAgg9 rfl (own_at (List.mem_cons_self ..) rfl) ?_
  obtain ⟨r102, hc103, hm⟩ := bind_some hm
  refine W_call Proofs.Try.call30 rfl rfl rfl (fun w ht => by have h := m_netmodel_Name_c (hm := hc103)  ht; exact h) ?_
  rintro _ _ _ ⟨rfl, rfl, rfl⟩
  refine W_un rfl rfl rfl rfl ?_
  refine W_assign rfl rfl rfl ?_
  refine W_end ?_
  refine E_then ?_
  refine C_cond (b := !r102) rfl (fun hb104 => ?_) (fun hb104 => ?_)
  · have hm := ite_t' hb104 hm
    refine C_seq ?_
    refine C_region ?_
    refine W_assign rfl rfl rfl ?_
    refine W_end ?_
    refine E_then ?_
    refine C_ret ?_
    refine E_ret_block ?_
    refine E_ret_then ?_
    obtain rfl := Option.some.inj hm
    refine E_drop (List.Sublist.cons _ (List.Sublist.refl _)) ?_
    refine E_weak (Hp.le_refl _) ?_
    exact end1 rfl rfl ⟨rfl, rfl, rfl⟩
  · have hm := ite_f' hb104 hm
    refine C_seq_join (fun H' M' L' => H = H' ∧ .obj b101 (.cells [.string (p0_m.Point), .int .i64 (p0_m.Number), .int .i64 (p0_m.Time), .int .i64 (p0_m.Value)].toArray 35 (0, 0)) :: M = M' ∧ [(1, .pointer (some ⟨b101, 0, none⟩)), (8, .bool ((((decide (p0_m.Number < 1)) || (decide (1000000 < p0_m.Number))) || (decide (p0_m.Value < (-1000000)))) || (decide (1000000 < p0_m.Value))))] = L') ?_ (fun J108 => ?_)
    · rintro _ _ _ ⟨rfl, rfl, rfl⟩
      refine C_cond (b := (((decide (p0_m.Number < 1)) || (decide (1000000 < p0_m.Number))) || (decide (p0_m.Value < (-1000000)))) || (decide (1000000 < p0_m.Value))) rfl (fun hb109 => ?_) (fun hb109 => ?_)
      · have hm := ite_t' hb109 hm
        refine C_seq ?_
        refine C_region ?_
        refine W_assign rfl rfl rfl ?_
        refine W_end ?_
        refine E_then ?_
        refine C_ret ?_
        refine E_ret_block ?_
        refine E_ret_then ?_
        obtain rfl := Option.some.inj hm
        refine E_drop (List.Sublist.cons _ (List.Sublist.refl _)) ?_
        refine E_weak (Hp.le_refl _) ?_
        exact end1 rfl rfl ⟨rfl, rfl, rfl⟩
      · have hm := ite_f' hb109 hm
        refine C_seq_join (fun H' M' L' => H = H' ∧ M = M' ∧ [(27, .bool ((decide (p0_m.Time < 0)) || (decide (200000 < p0_m.Time))))] = L') ?_ (fun J111 => ?_)
        · rintro _ _ _ ⟨rfl, rfl, rfl⟩
          refine C_cond (b := (decide (p0_m.Time < 0)) || (decide (200000 < p0_m.Time))) rfl (fun hb112 => ?_) (fun hb112 => ?_)
          · have hm := ite_t' hb112 hm
            refine C_seq ?_
            refine C_region ?_
            refine W_assign rfl rfl rfl ?_
            refine W_end ?_
            refine E_then ?_
            refine C_ret ?_
            refine E_ret_block ?_
            refine E_ret_then ?_
            obtain rfl := Option.some.inj hm
            refine E_weak (Hp.le_refl _) ?_
            exact end1 rfl rfl ⟨rfl, rfl, rfl⟩
          · have hm := ite_f' hb112 hm
            refine C_skip ?_
            refine E_normal_block ?_
            refine E_then ?_
            refine C_seq ?_
            refine C_region ?_
            refine W_assign rfl rfl rfl ?_
            refine W_end ?_
            refine E_then ?_
            refine C_ret ?_
            obtain rfl := Option.some.inj hm
            refine E_weak (Hp.le_refl _) ?_
            exact end1 rfl rfl ⟨rfl, rfl, rfl⟩
        · refine C_region ?_
          refine W_field (o := 2) rfl rfl Proofs.Try.runUnderlying35 rfl Proofs.Try.sizeOf3 rfl rfl rfl ?_
          refine W_load rfl rfl Proofs.Try.isAgg3 rfl (own_at (List.mem_cons_self ..) rfl) ?_
          refine W_bin rfl rfl rfl rfl rfl ?_
          refine W_move rfl rfl rfl ?_
          cases hb113 : (decide (p0_m.Time < 0))
          · refine W_field (o := 2) rfl rfl Proofs.Try.runUnderlying35 rfl Proofs.Try.sizeOf3 rfl rfl rfl ?_
            refine W_load rfl rfl Proofs.Try.isAgg3 rfl (own_at (List.mem_cons_self ..) rfl) ?_
            refine W_bin rfl rfl rfl rfl rfl ?_
            refine W_pick rfl rfl rfl rfl ?_
            refine W_assign rfl rfl rfl ?_
            refine W_end ?_
            refine E_drop (List.Sublist.cons _ (List.Sublist.refl _)) ?_
            exact E_keepJ (J111 _ _ _ ⟨rfl, rfl, rfl⟩) (List.Perm.refl _) ⟨(by show some (Value.bool (decide (200000 < p0_m.Time))) = some (Value.bool ((decide (p0_m.Time < 0)) || (decide (200000 < p0_m.Time)))); simp only [hb104, hb109, hb113, Bool.and_true, Bool.true_and, Bool.false_and, Bool.and_false, Bool.or_true, Bool.true_or, Bool.or_false, Bool.false_or, Bool.not_true, Bool.not_false]), trivial⟩
          · refine W_no rfl rfl rfl ?_
            refine W_no rfl rfl rfl ?_
            refine W_no rfl rfl rfl ?_
            refine W_pick rfl rfl rfl rfl ?_
            refine W_assign rfl rfl rfl ?_
            refine W_end ?_
            refine E_drop (List.Sublist.cons _ (List.Sublist.refl _)) ?_
            exact E_keepJ (J111 _ _ _ ⟨rfl, rfl, rfl⟩) (List.Perm.refl _) ⟨(by show some (Value.bool (true)) = some (Value.bool ((decide (p0_m.Time < 0)) || (decide (200000 < p0_m.Time)))); simp only [hb104, hb109, hb113, Bool.and_true, Bool.true_and, Bool.false_and, Bool.and_false, Bool.or_true, Bool.true_or, Bool.or_false, Bool.false_or, Bool.not_true, Bool.not_false]), trivial⟩
    · refine C_region ?_
      refine W_field (o := 1) rfl rfl Proofs.Try.runUnderlying35 rfl Proofs.Try.sizeOf3 rfl rfl rfl ?_
      refine W_load rfl rfl Proofs.Try.isAgg3 rfl (own_at (List.mem_cons_self ..) rfl) ?_
      refine W_bin rfl rfl rfl rfl rfl ?_
      refine W_move rfl rfl rfl ?_
      cases hb114 : (decide (p0_m.Number < 1))
      · refine W_field (o := 1) rfl rfl Proofs.Try.runUnderlying35 rfl Proofs.Try.sizeOf3 rfl rfl rfl ?_
        refine W_load rfl rfl Proofs.Try.isAgg3 rfl (own_at (List.mem_cons_self ..) rfl) ?_
        refine W_bin rfl rfl rfl rfl rfl ?_
        refine W_pick rfl rfl rfl rfl ?_
        refine W_move rfl rfl rfl ?_
        cases hb115 : (decide (1000000 < p0_m.Number))
        · refine W_field (o := 3) rfl rfl Proofs.Try.runUnderlying35 rfl Proofs.Try.sizeOf3 rfl rfl rfl ?_
          refine W_load rfl rfl Proofs.Try.isAgg3 rfl (own_at (List.mem_cons_self ..) rfl) ?_
          refine W_bin rfl rfl rfl rfl rfl ?_
          refine W_pick rfl rfl rfl rfl ?_
          refine W_move rfl rfl rfl ?_
          cases hb116 : (decide (p0_m.Value < (-1000000)))
          · refine W_field (o := 3) rfl rfl Proofs.Try.runUnderlying35 rfl Proofs.Try.sizeOf3 rfl rfl rfl ?_
            refine W_load rfl rfl Proofs.Try.isAgg3 rfl (own_at (List.mem_cons_self ..) rfl) ?_
            refine W_bin rfl rfl rfl rfl rfl ?_
            refine W_pick rfl rfl rfl rfl ?_
            refine W_assign rfl rfl rfl ?_
            refine W_end ?_
            exact E_keepJ (J108 _ _ _ ⟨rfl, rfl, rfl⟩) (List.Perm.refl _) ⟨rfl, (by show some (Value.bool (decide (1000000 < p0_m.Value))) = some (Value.bool ((((decide (p0_m.Number < 1)) || (decide (1000000 < p0_m.Number))) || (decide (p0_m.Value < (-1000000)))) || (decide (1000000 < p0_m.Value)))); simp only [hb104, hb114, hb115, hb116, Bool.and_true, Bool.true_and, Bool.false_and, Bool.and_false, Bool.or_true, Bool.true_or, Bool.or_false, Bool.false_or, Bool.not_true, Bool.not_false]), trivial⟩
          · refine W_no rfl rfl rfl ?_
            refine W_no rfl rfl rfl ?_
            refine W_no rfl rfl rfl ?_
            refine W_pick rfl rfl rfl rfl ?_
            refine W_assign rfl rfl rfl ?_
            refine W_end ?_
            exact E_keepJ (J108 _ _ _ ⟨rfl, rfl, rfl⟩) (List.Perm.refl _) ⟨rfl, (by show some (Value.bool (true)) = some (Value.bool ((((decide (p0_m.Number < 1)) || (decide (1000000 < p0_m.Number))) || (decide (p0_m.Value < (-1000000)))) || (decide (1000000 < p0_m.Value)))); simp only [hb104, hb114, hb115, hb116, Bool.and_true, Bool.true_and, Bool.false_and, Bool.and_false, Bool.or_true, Bool.true_or, Bool.or_false, Bool.false_or, Bool.not_true, Bool.not_false]), trivial⟩
        · refine W_no rfl rfl rfl ?_
          refine W_no rfl rfl rfl ?_
          refine W_no rfl rfl rfl ?_
          refine W_pick rfl rfl rfl rfl ?_
          refine W_move rfl rfl rfl ?_
          refine W_no rfl rfl rfl ?_
          refine W_no rfl rfl rfl ?_
          refine W_no rfl rfl rfl ?_
          refine W_pick rfl rfl rfl rfl ?_
          refine W_assign rfl rfl rfl ?_
          refine W_end ?_
          exact E_keepJ (J108 _ _ _ ⟨rfl, rfl, rfl⟩) (List.Perm.refl _) ⟨rfl, (by show some (Value.bool (true)) = some (Value.bool ((((decide (p0_m.Number < 1)) || (decide (1000000 < p0_m.Number))) || (decide (p0_m.Value < (-1000000)))) || (decide (1000000 < p0_m.Value)))); simp only [hb104, hb114, hb115, Bool.and_true, Bool.true_and, Bool.false_and, Bool.and_false, Bool.or_true, Bool.true_or, Bool.or_false, Bool.false_or, Bool.not_true, Bool.not_false]), trivial⟩
      · refine W_no rfl rfl rfl ?_
        refine W_no rfl rfl rfl ?_
        refine W_no rfl rfl rfl ?_
        refine W_pick rfl rfl rfl rfl ?_
        refine W_move rfl rfl rfl ?_
        refine W_no rfl rfl rfl ?_
        refine W_no rfl rfl rfl ?_
        refine W_no rfl rfl rfl ?_
        refine W_pick rfl rfl rfl rfl ?_
        refine W_move rfl rfl rfl ?_
        refine W_no rfl rfl rfl ?_
        refine W_no rfl rfl rfl ?_
        refine W_no rfl rfl rfl ?_
        refine W_pick rfl rfl rfl rfl ?_
        refine W_assign rfl rfl rfl ?_
        refine W_end ?_
        exact E_keepJ (J108 _ _ _ ⟨rfl, rfl, rfl⟩) (List.Perm.refl _) ⟨rfl, (by show some (Value.bool (true)) = some (Value.bool ((((decide (p0_m.Number < 1)) || (decide (1000000 < p0_m.Number))) || (decide (p0_m.Value < (-1000000)))) || (decide (1000000 < p0_m.Value)))); simp only [hb104, hb114, Bool.and_true, Bool.true_and, Bool.false_and, Bool.and_false, Bool.or_true, Bool.true_or, Bool.or_false, Bool.false_or, Bool.not_true, Bool.not_false]), trivial⟩

theorem m_telemetry_Points_index_1_c {B : Nat} {w0 w : World} {H : Hp} {M : List Res} {p0_x : S_telemetry_point} {p1_c1 : ByteArray} {b0 : Nat} {r : Bool} (hm : m_telemetry_Points_index_1 p0_x p1_c1 = r) (ht : St B w0 H (.obj b0 (.cells [.string (p1_c1)].toArray 9 (0, 0)) :: M) w) :
    Calls Proofs.Try.prog 32 [.agg [.string (p0_x.TelemetryMsg.Point), .int .i64 (p0_x.TelemetryMsg.Number), .int .i64 (p0_x.TelemetryMsg.Time), .int .i64 (p0_x.TelemetryMsg.Value), .int .i64 (p0_x.many)].toArray, .pointer (some ⟨b0, 0, none⟩)].toArray w (Ret B w0 fun H' M' v => H = H' ∧ .obj b0 (.cells [.string (p1_c1)].toArray 9 (0, 0)) :: M = M' ∧ .bool (r) = v) := by
  unfold m_telemetry_Points_index_1 at hm
  refine enter Proofs.Try.func32 rfl rfl rfl ht ?_
  refine C_seq ?_
  refine C_region ?_
  refine W_box (cs := [.string (p0_x.TelemetryMsg.Point), .int .i64 (p0_x.TelemetryMsg.Number), .int .i64 (p0_x.TelemetryMsg.Time), .int .i64 (p0_x.TelemetryMsg.Value), .int .i64 (p0_x.many)]) rfl rfl rfl rfl (fun b101 => ?_)
  refine W_assign rfl rfl rfl ?_
  refine W_end ?_
  refine E_then ?_
  refine C_seq ?_
  refine C_region ?_
  refine W_field (o := 0) rfl rfl Proofs.Try.runUnderlying57 rfl Proofs.Try.sizeOf35 rfl rfl rfl ?_
  refine W_field (o := 0) rfl rfl Proofs.Try.runUnderlying35 rfl Proofs.Try.sizeOf9 rfl rfl rfl ?_
  refine W_load rfl rfl Proofs.Try.isAgg9 rfl (own_at (List.mem_cons_self ..) rfl) ?_
  refine W_load rfl rfl Proofs.Try.isAgg9 rfl (own_at (List.mem_cons_of_mem _ (List.mem_cons_self ..)) rfl) ?_
  refine W_bin rfl rfl rfl rfl rfl ?_
  refine W_assign rfl rfl rfl ?_
  refine W_end ?_
  refine E_then ?_
  refine C_ret ?_
  obtain rfl := hm
  refine E_drop (List.Sublist.cons _ (List.Sublist.refl _)) ?_
  refine E_weak (Hp.le_refl _) ?_
  exact end1 rfl rfl ⟨rfl, rfl, rfl⟩

theorem m_slices_IndexFunc_telemetry_point_telemetry_point__telemetry_Points_index_1_c {B : Nat} {w0 w : World} {H : Hp} {M : List Res} {p0_s : (List S_telemetry_point)} {p1_f_0 : ByteArray} {v0 : Value} {b0 : Nat} {r : Int} (hm : m_slices_IndexFunc_telemetry_point_telemetry_point__telemetry_Points_index_1 p0_s p1_f_0 = some r) (h0 : RdS H v0 p0_s) (ht : St B w0 H (.obj b0 (.cells [.string (p1_f_0)].toArray 9 (0, 0)) :: M) w) :
    Calls Proofs.Try.prog 31 [v0, .func (.func 32) [].toArray [.pointer (some ⟨b0, 0, none⟩)].toArray].toArray w (Ret B w0 fun H' M' v => H = H' ∧ .obj b0 (.cells [.string (p1_f_0)].toArray 9 (0, 0)) :: M = M' ∧ .int .i64 (r) = v) := by
  unfold m_slices_IndexFunc_telemetry_point_telemetry_point__telemetry_Points_index_1 at hm
  refine enter Proofs.Try.func31 rfl rfl rfl ht ?_
  refine C_seq ?_
  refine C_region ?_
  refine W_assign rfl rfl rfl ?_
  refine W_end ?_
  refine E_then ?_
  refine C_seq ?_
  refine C_seq ?_
  refine C_region ?_
  refine W_move rfl rfl rfl ?_
  refine W_lenR rfl rfl Proofs.Try.runUnderlying51 rfl h0 ?_
  refine W_move rfl rfl rfl ?_
  refine W_end ?_
  refine E_then ?_
  refine C_block ?_
  refine C_keep (L' := [(0, v0), (1, .func (.func 32) [].toArray [.pointer (some ⟨b0, 0, none⟩)].toArray), (7, .int .i64 ((p0_s.length : Int))), (8, .int .i64 (((0 : Nat) : Int)))]) ⟨rfl, rfl, rfl, rfl, trivial⟩ (List.Perm.refl _) ?_
  refine C_loop (fun n H' M' L' => ∃ (k101 : Nat) (zs119' : Nat), k101 + zs119' = ((p0_s.length : Int) : Int).toNat ∧ zs119' = n ∧ forN (fun k s114 n => m_slices_IndexFunc_telemetry_point_telemetry_point__telemetry_Points_index_1_b1 p0_s p1_f_0 k n) (fun _ => some (-1)) zs119' k101 () = some r ∧ H.le H' ∧ .obj b0 (.cells [.string (p1_f_0)].toArray 9 (0, 0)) :: M = M' ∧ [(0, v0), (1, .func (.func 32) [].toArray [.pointer (some ⟨b0, 0, none⟩)].toArray), (7, .int .i64 ((p0_s.length : Int))), (8, .int .i64 ((k101 : Int)))] = L') _ ⟨0, _, Nat.zero_add _, rfl, hm, (Hp.le_refl _), rfl, rfl⟩ ?_
  rintro _ H112 _ _ ⟨k101, zs119', hd121, rfl, hm, hle113, rfl, rfl⟩
  refine C_seq ?_
  refine C_region ?_
  refine W_bin rfl rfl rfl rfl rfl ?_
  refine W_end (E_then ?_)
  refine C_seq ?_
  refine C_cond (b := decide ((k101 : Int) < (p0_s.length : Int))) rfl (fun hb123 => ?_) (fun hb123 => ?_)
  · obtain ⟨zs119, rfl, hd122, hy120⟩ := rngN_t hd121 hb123
    have hm : m_slices_IndexFunc_telemetry_point_telemetry_point__telemetry_Points_index_1_b1 p0_s p1_f_0 k101 (forN (fun k s114 n => m_slices_IndexFunc_telemetry_point_telemetry_point__telemetry_Points_index_1_b1 p0_s p1_f_0 k n) (fun _ => some (-1)) zs119 (k101 + 1)) = some r := hm
    generalize hn116 : forN (fun k s114 n => m_slices_IndexFunc_telemetry_point_telemetry_point__telemetry_Points_index_1_b1 p0_s p1_f_0 k n) (fun _ => some (-1)) zs119 (k101 + 1) = nx115 at hm
    unfold m_slices_IndexFunc_telemetry_point_telemetry_point__telemetry_Points_index_1_b1 at hm
    refine C_skip (E_then ?_)
    refine C_seq ?_
    refine C_block ?_
    refine C_seq ?_
    refine C_region ?_
    refine W_move rfl rfl rfl ?_
    refine W_assign rfl rfl rfl ?_
    refine W_end ?_
    refine E_then ?_
    refine C_seq ?_
    refine C_region ?_
    refine W_move rfl rfl rfl ?_
    refine W_move rfl rfl rfl ?_
    refine W_move rfl rfl rfl ?_
    obtain ⟨y124, h125, he126, hm⟩ := idx_some hm
    obtain ⟨_, ⟨rfl⟩, hc127⟩ := (h0).elem he126
    refine W_indexS rfl rfl Proofs.Try.runUnderlying51 Proofs.Try.sizeOf57 rfl (h0.mono hle113) rfl h125 he126 ?_
    refine W_loadAgg rfl rfl Proofs.Try.isAgg57 Proofs.Try.sizeOf57 rfl (hc127.mono hle113).at rfl ?_
    refine W_callv Proofs.Try.call32 rfl rfl rfl rfl (fun w ht => by have h := m_telemetry_Points_index_1_c (hm := (rfl : m_telemetry_Points_index_1 y124 p1_f_0 = _))  ht; exact h) ?_
    rintro _ _ _ ⟨rfl, rfl, rfl⟩
    refine W_end ?_
    refine E_then ?_
    refine C_cond (b := (m_telemetry_Points_index_1 y124 p1_f_0)) rfl (fun hb128 => ?_) (fun hb128 => ?_)
    · have hm := ite_t' hb128 hm
      refine C_seq ?_
      refine C_region ?_
      refine W_move rfl rfl rfl ?_
      refine W_assign rfl rfl rfl ?_
      refine W_end ?_
      refine E_then ?_
      refine C_ret ?_
      refine E_ret_block ?_
      refine E_ret_then ?_
      refine E_ret_then ?_
      refine E_ret_block ?_
      refine E_ret_then ?_
      obtain rfl := Option.some.inj hm
      refine E_weak hle113 ?_
      exact end1 rfl rfl ⟨rfl, rfl, rfl⟩
    · have hm := ite_f' hb128 hm
      refine C_skip ?_
      refine E_normal_block ?_
      refine E_then ?_
      refine C_region ?_
      refine W_bin rfl rfl rfl rfl rfl ?_
      refine W_move rfl rfl rfl ?_
      refine W_end ?_
      exact E_keepJ (E_back (Nat.lt_succ_self _) ⟨k101 + 1, zs119, hd122, rfl, (by rw [hn116]; exact hm), hle113, rfl, rfl⟩) (List.Perm.refl _) ⟨rfl, rfl, rfl, (congrArg (fun z => some (Value.int .i64 z)) (i64_succN hy120 (toNat_max (len_max (h0).lenMax)))), trivial⟩
  · obtain rfl := rngN_f hd121 hb123
    have hm : (some (-1)) = some r := hm
    refine C_exit (E_exit_then ?_)
    refine E_exit_then ?_
    refine E_exit_hit ?_
    refine E_then ?_
    refine C_seq ?_
    refine C_region ?_
    refine W_assign rfl rfl rfl ?_
    refine W_end ?_
    refine E_then ?_
    refine C_ret ?_
    obtain rfl := Option.some.inj hm
    refine E_weak hle113 ?_
    exact end1 rfl rfl ⟨rfl, rfl, rfl⟩

theorem m_telemetry_Points_index_c {B : Nat} {w0 w : World} {H : Hp} {M : List Res} {p0_p : S_telemetry_Points} {name : ByteArray} {b0 : Nat} {v0 : Value} {xs0 : List Value} {r : Int} (hm : m_telemetry_Points_index p0_p name = some r) (h0 : Rw H v0 xs0 p0_p.all_) (ht : St B w0 H (.obj b0 (.cells [.int .i64 (p0_p.age), v0].toArray 53 (0, 0)) :: .row v0 57 (Rep.sz S_telemetry_point) p0_p.all_.length xs0 :: M) w) :
    Calls Proofs.Try.prog 23 [.pointer (some ⟨b0, 0, none⟩), .string (name)].toArray w (Ret B w0 fun H' M' v => H = H' ∧ .obj b0 (.cells [.int .i64 (p0_p.age), v0].toArray 53 (0, 0)) :: .row v0 57 (Rep.sz S_telemetry_point) p0_p.all_.length xs0 :: M = M' ∧ .int .i64 (r) = v) := by
  unfold m_telemetry_Points_index at hm
  refine enter Proofs.Try.func23 rfl rfl rfl ht ?_
  refine C_seq ?_
  refine C_region ?_
  refine W_box (cs := [.string (name)]) rfl rfl rfl rfl (fun b101 => ?_)
  refine W_assign rfl rfl rfl ?_
  refine W_end ?_
  refine E_then ?_
  refine C_seq ?_
  refine C_region ?_
  refine W_move rfl rfl rfl ?_
  refine W_nilCheck rfl rfl rfl ?_
  refine W_field (o := 1) rfl rfl Proofs.Try.runUnderlying53 rfl Proofs.Try.sizeOf51 rfl rfl rfl ?_
  refine W_load rfl rfl Proofs.Try.isAgg51 rfl (own_at (List.mem_cons_of_mem _ (List.mem_cons_self ..)) rfl) ?_
  refine W_makeFunc rfl rfl rfl rfl ?_
  refine W_perm (List.Perm.trans (List.Perm.cons _ (List.Perm.swap _ _ _)) (List.Perm.swap _ _ _)) ?_
  obtain ⟨r102, hc103, hm⟩ := bind_some hm
  refine W_call Proofs.Try.call31 rfl rfl rfl (fun w ht => by obtain ⟨H0_, hl0_, ht0_, hr0_, bk0_⟩ := ht.lendRow h0 rfl; have h := m_slices_IndexFunc_telemetry_point_telemetry_point__telemetry_Points_index_1_c (hm := hc103) hr0_ ht0_; exact lend_back bk0_ (h)) ?_
  rintro _ _ _ ⟨rfl, ⟨_, rfl, rfl, rfl⟩⟩
  refine W_assign rfl rfl rfl ?_
  refine W_end ?_
  refine E_then ?_
  refine C_ret ?_
  obtain rfl := Option.some.inj hm
  refine E_drop (List.Sublist.cons_cons _ (List.Sublist.cons _ (List.Sublist.refl _))) ?_
  refine E_perm (List.Perm.swap _ _ _) ?_
  refine E_weak (Hp.le_refl _) ?_
  exact end1 rfl rfl ⟨rfl, rfl, rfl⟩

theorem m_telemetry_Points_Take_c {B : Nat} {w0 w : World} {H : Hp} {M : List Res} {p0_p : S_telemetry_Points} {p1_m : S_api_TelemetryMsg} {b0 : Nat} {v0 : Value} {xs0 : List Value} {r : Bool × Int × S_telemetry_Points} (hm : m_telemetry_Points_Take p0_p p1_m = some r) (h0 : Rw H v0 xs0 p0_p.all_) (ht : St B w0 H (.obj b0 (.cells [.int .i64 (p0_p.age), v0].toArray 53 (0, 0)) :: .row v0 57 (Rep.sz S_telemetry_point) p0_p.all_.length xs0 :: M) w) :
    Calls Proofs.Try.prog 12 [.pointer (some ⟨b0, 0, none⟩), .agg [.string (p1_m.Point), .int .i64 (p1_m.Number), .int .i64 (p1_m.Time), .int .i64 (p1_m.Value)].toArray].toArray w (Ret B w0 fun H' M' v => H = H' ∧ ∃ qv0 : Value, ∃ qxs0 : List Value, .obj b0 (.cells [.int .i64 (r.2.2.age), qv0].toArray 53 (0, 0)) :: .row qv0 57 (Rep.sz S_telemetry_point) r.2.2.all_.length qxs0 :: M = M' ∧ .tuple #[.bool (r.1), .int .i64 (r.2.1)] = v ∧ RwF qv0 qxs0 r.2.2.all_) := by
  unfold m_telemetry_Points_Take at hm
  refine enter Proofs.Try.func12 rfl rfl rfl ht ?_
  refine C_seq ?_
  refine C_region ?_
  refine W_box (cs := [.string (p1_m.Point), .int .i64 (p1_m.Number), .int .i64 (p1_m.Time), .int .i64 (p1_m.Value)]) rfl rfl rfl rfl (fun b101 => ?_)
  refine W_assign rfl rfl rfl ?_
  refine W_assign rfl rfl rfl ?_
  refine W_end ?_
  refine E_then ?_
  refine C_seq ?_
  refine C_seq ?_
  refine C_region ?_
  refine W_loadAgg rfl rfl Proofs.Try.isAgg35 Proofs.Try.sizeOf35 rfl (own_all (List.mem_cons_self ..)) rfl ?_
  obtain ⟨r102, hc103, hm⟩ := bind_some hm
  refine W_call Proofs.Try.call22 rfl rfl rfl (fun w ht => by have h := m_telemetry_Check_c (hm := hc103)  ht; exact h) ?_
  rintro _ _ _ ⟨rfl, rfl, rfl⟩
  refine W_assign rfl rfl rfl ?_
  refine W_end ?_
  refine E_then ?_
  refine C_seq ?_
  refine C_region ?_
  refine W_move rfl rfl rfl ?_
  refine W_bin rfl rfl rfl rfl rfl ?_
  refine W_end ?_
  refine E_then ?_
  refine C_cond (b := !decide (r102 = 0)) rfl (fun hb104 => ?_) (fun hb104 => ?_)
  · have hm := ite_t' hb104 hm
    refine C_seq ?_
    refine C_region ?_
    refine W_move rfl rfl rfl ?_
    refine W_assign rfl rfl rfl ?_
    refine W_assign rfl rfl rfl ?_
    refine W_end ?_
    refine E_then ?_
    refine C_ret ?_
    refine E_ret_then ?_
    obtain rfl := Option.some.inj hm
    refine E_drop (List.Sublist.cons _ (List.Sublist.refl _)) ?_
    refine E_weak (Hp.le_refl _) ?_
    exact end2 rfl rfl rfl ⟨rfl, v0, xs0, rfl, rfl, (h0).toF⟩
  · have hm := ite_f' hb104 hm
    refine C_skip ?_
    refine E_then ?_
    refine C_seq ?_
    refine C_region ?_
    refine W_move rfl rfl rfl ?_
    refine W_field (o := 0) rfl rfl Proofs.Try.runUnderlying35 rfl Proofs.Try.sizeOf9 rfl rfl rfl ?_
    refine W_load rfl rfl Proofs.Try.isAgg9 rfl (own_at (List.mem_cons_self ..) rfl) ?_
    refine W_perm (List.Perm.trans (List.Perm.swap _ _ _) (List.Perm.cons _ (List.Perm.swap _ _ _))) ?_
    obtain ⟨r105, hc106, hm⟩ := bind_some hm
    refine W_call Proofs.Try.call23 rfl rfl rfl (fun w ht => by have h := m_telemetry_Points_index_c (hm := hc106) h0 ht; exact h) ?_
    rintro _ _ _ ⟨rfl, rfl, rfl⟩
    refine W_assign rfl rfl rfl ?_
    refine W_end ?_
    refine E_then ?_
    refine C_seq_join (fun H' M' L' => ∃ l165 : List S_telemetry_point, ∃ v163 : Value, ∃ xs164 : List Value, m_telemetry_Points_Take_b1 p0_p l165 = some r ∧ Rw H' v163 xs164 l165 ∧ H.le H' ∧ .row v163 57 (Rep.sz S_telemetry_point) l165.length xs164 :: .obj b0 (.cells [.int .i64 (p0_p.age), v163].toArray 53 (0, 0)) :: M = M' ∧ [] = L') ?_ (fun J169 => ?_)
    · rintro H167 _ _ ⟨l165, v163, xs164, hm, hr166, hle168, rfl, rfl⟩
      unfold m_telemetry_Points_Take_b1 at hm
      refine C_seq ?_
      refine C_region ?_
      refine W_assign rfl rfl rfl ?_
      refine W_assign rfl rfl rfl ?_
      refine W_end ?_
      refine E_then ?_
      refine C_ret ?_
      obtain rfl := Option.some.inj hm
      refine E_perm (List.Perm.swap _ _ _) ?_
      refine E_weak hle168 ?_
      exact end2 rfl rfl rfl ⟨rfl, v163, xs164, rfl, rfl, (hr166).toF⟩
    · refine C_block ?_
      refine C_seq_join (fun H' M' L' => H = H' ∧ .obj b0 (.cells [.int .i64 (p0_p.age), v0].toArray 53 (0, 0)) :: .row v0 57 (Rep.sz S_telemetry_point) p0_p.all_.length xs0 :: .obj b101 (.cells [.string (p1_m.Point), .int .i64 (p1_m.Number), .int .i64 (p1_m.Time), .int .i64 (p1_m.Value)].toArray 35 (0, 0)) :: M = M' ∧ [(0, .pointer (some ⟨b0, 0, none⟩)), (3, .pointer (some ⟨b101, 0, none⟩)), (7, .int .i64 (r105)), (34, .bool ((decide (r105 < 0)) && (decide ((p0_p.all_.length : Int) = 24))))] = L') ?_ (fun J171 => ?_)
      · rintro _ _ _ ⟨rfl, rfl, rfl⟩
        refine C_cond (b := (decide (r105 < 0)) && (decide ((p0_p.all_.length : Int) = 24))) rfl (fun hb172 => ?_) (fun hb172 => ?_)
        · have hm := ite_t' hb172 hm
          refine C_seq ?_
          refine C_region ?_
          refine W_assign rfl rfl rfl ?_
          refine W_assign rfl rfl rfl ?_
          refine W_end ?_
          refine E_then ?_
          refine C_ret ?_
          refine E_ret_block ?_
          refine E_ret_then ?_
          obtain rfl := Option.some.inj hm
          refine E_drop (List.Sublist.cons_cons _ (List.Sublist.cons_cons _ (List.Sublist.cons _ (List.Sublist.refl _)))) ?_
          refine E_weak (Hp.le_refl _) ?_
          exact end2 rfl rfl rfl ⟨rfl, v0, xs0, rfl, rfl, (h0).toF⟩
        · have hm := ite_f' hb172 hm
          refine C_seq ?_
          refine C_region ?_
          refine W_move rfl rfl rfl ?_
          refine W_bin rfl rfl rfl rfl rfl ?_
          refine W_assign rfl rfl rfl ?_
          refine W_end ?_
          refine E_then ?_
          refine C_cond (b := decide (r105 < 0)) rfl (fun hb173 => ?_) (fun hb173 => ?_)
          · have hm := ite_t' hb173 hm
            obtain ⟨hz181, hm⟩ := need_some hm
            refine C_perm (List.Perm.swap _ _ _) ?_
            refine C_as (M' := [[.row v0 57 (Rep.sz S_telemetry_point) p0_p.all_.length xs0]].flatten ++ (.obj b0 (.cells [.int .i64 (p0_p.age), v0].toArray 53 (0, 0)) :: .obj b101 (.cells [.string (p1_m.Point), .int .i64 (p1_m.Number), .int .i64 (p1_m.Time), .int .i64 (p1_m.Value)].toArray 35 (0, 0)) :: M)) rfl ?_
            refine C_region_tok0 9 (phiT [(fun H rs v => [] = rs ∧ .pointer (some ⟨b0, 0, none⟩) = v), (fun H rs v => [] = rs ∧ .pointer (some ⟨b0, 0, none⟩) = v), (fun H rs v => [] = rs ∧ .pointer (some ⟨b0, 0, none⟩) = v), (fun H rs v => [] = rs ∧ .pointer (some ⟨b0, 1, none⟩) = v), (fun H rs v => [] = rs ∧ v0 = v), (fun H rs v => [] = rs ∧ .agg [.string (p1_m.Point), .int .i64 (p1_m.Number), .int .i64 (p1_m.Time), .int .i64 (p1_m.Value)].toArray = v), (fun H rs v => [] = rs ∧ .agg [.string (p1_m.Point), .int .i64 (p1_m.Number), .int .i64 (p1_m.Time), .int .i64 (p1_m.Value), .int .i64 (1)].toArray = v), (fun H rs v => ∃ v186 : Value, [] = rs ∧ v186 = v ∧ RdS H v186 ([(S_telemetry_point.mk p1_m 1)]) ∧ Value.cap' v186 = ([(S_telemetry_point.mk p1_m 1)]).length), (fun H rs v => ∃ v192 : Value, ∃ xs193 : List Value, [.row v192 57 (Rep.sz S_telemetry_point) (p0_p.all_ ++ ([(S_telemetry_point.mk p1_m 1)])).length xs193] = rs ∧ v192 = v ∧ Rw H v192 xs193 (p0_p.all_ ++ ([(S_telemetry_point.mk p1_m 1)])))]) [[], [], [], [], [], [], [], [], [9]] [[], [], [], [], [], [], [], [], []] [[.row v0 57 (Rep.sz S_telemetry_point) p0_p.all_.length xs0]] [0, 1, 2, 3, 4, 5, 6, 7, 8] Facts.mixed (by kernel_rfl) rfl rfl rfl (by kernel_rfl) (phiT_mono ⟨eq_monoT _ _, eq_monoT _ _, eq_monoT _ _, eq_monoT _ _, eq_monoT _ _, eq_monoT _ _, eq_monoT _ _, (by rintro H1 H2 rs v hle ⟨v186, rfl, rfl, h190, hc191⟩; exact ⟨v186, rfl, rfl, (h190.mono hle), (hc191)⟩), (by rintro H1 H2 rs v hle ⟨v192, xs193, rfl, rfl, hr194⟩; exact ⟨v192, xs193, rfl, rfl, (hr194.mono hle)⟩), trivial⟩) ⟨?_, ?_, ?_, ?_, ?_, ?_, ?_, ?_, ?_, trivial⟩ ?_
            · intro HX hX X Rest hR
              intro hU
              refine W_move rfl rfl rfl ?_
              exact W_end (OneT_end [] (Hp.le_refl _) ⟨rfl, rfl⟩)
            · intro HX hX X Rest hR
              intro hU
              refine W_move rfl rfl rfl ?_
              exact W_end (OneT_end [] (Hp.le_refl _) ⟨rfl, rfl⟩)
            · intro HX hX X Rest hR
              rintro _ _ ⟨rfl, rfl⟩
              intro hU
              refine W_nilCheck rfl rfl rfl ?_
              exact W_end (OneT_end [] (Hp.le_refl _) ⟨rfl, rfl⟩)
            · intro HX hX X Rest hR
              rintro _ _ ⟨rfl, rfl⟩
              intro hU
              refine W_field (o := 1) rfl rfl Proofs.Try.runUnderlying53 rfl Proofs.Try.sizeOf51 rfl rfl rfl ?_
              exact W_end (OneT_end [] (Hp.le_refl _) ⟨rfl, rfl⟩)
            · intro HX hX X Rest hR
              rintro _ _ ⟨rfl, rfl⟩
              intro hU
              refine W_load rfl rfl Proofs.Try.isAgg51 rfl (own_at (hR _ (List.mem_cons_self ..)) rfl) ?_
              exact W_end (OneT_end [] (Hp.le_refl _) ⟨rfl, rfl⟩)
            · intro HX hX X Rest hR
              intro hU
              refine W_loadAgg rfl rfl Proofs.Try.isAgg35 Proofs.Try.sizeOf35 rfl (own_all (hR _ (List.mem_cons_of_mem _ (List.mem_cons_self ..)))) rfl ?_
              exact W_end (OneT_end [] (Hp.le_refl _) ⟨rfl, rfl⟩)
            · intro HX hX X Rest hR
              rintro _ _ ⟨rfl, rfl⟩
              intro hU
              refine W_build (css := [[.string (p1_m.Point), .int .i64 (p1_m.Number), .int .i64 (p1_m.Time), .int .i64 (p1_m.Value)], [.int .i64 (1)]]) (zs := [.string (⟨#[]⟩), .int .i64 (0), .int .i64 (0), .int .i64 (0), .int .i64 (0)]) (out := [.string (p1_m.Point), .int .i64 (p1_m.Number), .int .i64 (p1_m.Time), .int .i64 (p1_m.Value), .int .i64 (1)]) (places := [(0, 4), (4, 1)]) rfl rfl rfl ⟨rfl, rfl, trivial⟩ Proofs.Try.zeroValue57 rfl Proofs.Try.runUnderlying57 (fun w => by kernel_rfl) rfl ?_
              exact W_end (OneT_end [] (Hp.le_refl _) ⟨rfl, rfl⟩)
            · intro HX hX X Rest hR
              rintro _ _ ⟨rfl, rfl⟩
              intro hU
              refine W_buildSlice (α := S_telemetry_point) (css := [[.string (p1_m.Point), .int .i64 (p1_m.Number), .int .i64 (p1_m.Time), .int .i64 (p1_m.Value), .int .i64 (1)]]) (zs := [.string (⟨#[]⟩), .int .i64 (0), .int .i64 (0), .int .i64 (0), .int .i64 (0)]) (out := [.string (p1_m.Point), .int .i64 (p1_m.Number), .int .i64 (p1_m.Time), .int .i64 (p1_m.Value), .int .i64 (1)]) (ys := [(S_telemetry_point.mk p1_m 1)]) rfl rfl rfl ⟨rfl, trivial⟩ Proofs.Try.runUnderlying51 Proofs.Try.sizeOf57 rfl Proofs.Try.zeroValue57 (by kernel_rfl) rfl rfl rfl rfl ⟨[.string (p1_m.Point), .int .i64 (p1_m.Number), .int .i64 (p1_m.Time), .int .i64 (p1_m.Value), .int .i64 (1)], [], rfl, rfl, rfl⟩ rfl ?_
              intro b185 v186 H187 hv188 hle189 h190
              have hc191 : Value.cap' v186 = ([(S_telemetry_point.mk p1_m 1)]).length := by rw [hv188]; rfl
              exact W_end (OneT_end [] hle189 ⟨v186, rfl, rfl, (h190), (hc191)⟩)
            · intro HX hX X Rest hR
              rintro _ _ ⟨rfl, rfl⟩
              rintro _ _ ⟨v186, rfl, rfl, h190, hc191⟩
              intro hU
              refine W_as (M' := .row v0 57 (Rep.sz S_telemetry_point) p0_p.all_.length xs0 :: Rest) rfl ?_
              refine W_appendO (α := S_telemetry_point) (l := p0_p.all_) (ys := [(S_telemetry_point.mk p1_m 1)]) rfl rfl Proofs.Try.underlying51 ⟨_, rfl, rfl, rfl, rfl⟩ rfl rfl rfl rfl rfl (h0.mono hX) h190 hz181 ?_
              intro v192 xs193 hr194
              exact W_end (OneT_end [.row v192 57 (Rep.sz S_telemetry_point) (p0_p.all_ ++ ([(S_telemetry_point.mk p1_m 1)])).length xs193] (Hp.le_refl _) ⟨v192, xs193, rfl, rfl, (hr194)⟩)
            intro H195 hle196
            rintro _ _ ⟨rfl, rfl⟩
            rintro _ _ ⟨rfl, rfl⟩
            rintro _ _ ⟨rfl, rfl⟩
            rintro _ _ ⟨rfl, rfl⟩
            rintro _ _ ⟨rfl, rfl⟩
            rintro _ _ ⟨rfl, rfl⟩
            rintro _ _ ⟨rfl, rfl⟩
            rintro _ _ ⟨v186, rfl, rfl, h190, hc191⟩
            rintro _ _ ⟨v192, xs193, rfl, rfl, hr194⟩
            refine W_as (M' := .row v192 57 (Rep.sz S_telemetry_point) (p0_p.all_ ++ ([(S_telemetry_point.mk p1_m 1)])).length xs193 :: .obj b0 (.cells [.int .i64 (p0_p.age), v0].toArray 53 (0, 0)) :: .obj b101 (.cells [.string (p1_m.Point), .int .i64 (p1_m.Number), .int .i64 (p1_m.Time), .int .i64 (p1_m.Value)].toArray 35 (0, 0)) :: M) rfl ?_
            refine W_nilCheck rfl rfl rfl ?_
            refine W_field (o := 1) rfl rfl Proofs.Try.runUnderlying53 rfl Proofs.Try.sizeOf51 rfl rfl rfl ?_
            refine W_perm (List.Perm.swap _ _ _) ?_
            refine W_store (cs := [v192]) (out := [.int .i64 (p0_p.age), v192]) rfl Proofs.Try.sizeOf51 rfl rfl (Rw.cells hr194) rfl rfl (all_cons (Rw.one hr194) all_nil) rfl ?_
            refine W_end ?_
            refine E_normal_block ?_
            refine E_drop (List.Sublist.cons_cons _ (List.Sublist.cons_cons _ (List.Sublist.cons _ (List.Sublist.refl _)))) ?_
            exact E_keepJ (J169 _ _ _ ⟨(p0_p.all_ ++ ([(S_telemetry_point.mk p1_m 1)])), v192, xs193, hm, hr194, hle196, rfl, rfl⟩) (List.Perm.swap _ _ _) trivial
          · have hm := ite_f' hb173 hm
            refine C_seq ?_
            obtain ⟨y197, h198, he199, hm⟩ := idx_some hm
            obtain ⟨_, rfl, hg200⟩ := (h0).elem he199
            refine C_region_tok0 11 (phiT [(fun H rs v => [] = rs ∧ .pointer (some ⟨b101, 1, none⟩) = v), (fun H rs v => [] = rs ∧ .int .i64 (p1_m.Number) = v), (fun H rs v => [] = rs ∧ .pointer (some ⟨b0, 0, none⟩) = v), (fun H rs v => [] = rs ∧ .pointer (some ⟨b0, 0, none⟩) = v), (fun H rs v => [] = rs ∧ .pointer (some ⟨b0, 1, none⟩) = v), (fun H rs v => [] = rs ∧ v0 = v), (fun H rs v => [] = rs ∧ .int .i64 (r105) = v), (fun H rs v => [] = rs ∧ .pointer (some ((Value.base (v0)).add ((r105 : Int).toNat * Rep.sz S_telemetry_point))) = v), (fun H rs v => [] = rs ∧ .pointer (some ((Value.base (v0)).add ((r105 : Int).toNat * Rep.sz S_telemetry_point))) = v), (fun H rs v => [] = rs ∧ .pointer (some (((Value.base (v0)).add ((r105 : Int).toNat * Rep.sz S_telemetry_point)).add 1)) = v), (fun H rs v => [] = rs ∧ .int .i64 (y197.TelemetryMsg.Number) = v)]) [[], [], [], [], [], [], [], [], [], [], []] [[], [], [], [], [], [], [], [], [], [], []] [] [0, 1, 2, 3, 4, 5, 6, 7, 8, 9, 10] Facts.mixed (by kernel_rfl) rfl rfl rfl (by kernel_rfl) (phiT_mono ⟨eq_monoT _ _, eq_monoT _ _, eq_monoT _ _, eq_monoT _ _, eq_monoT _ _, eq_monoT _ _, eq_monoT _ _, eq_monoT _ _, eq_monoT _ _, eq_monoT _ _, eq_monoT _ _, trivial⟩) ⟨?_, ?_, ?_, ?_, ?_, ?_, ?_, ?_, ?_, ?_, ?_, trivial⟩ ?_
            · intro HX hX X Rest hR
              intro hU
              refine W_field (o := 1) rfl rfl Proofs.Try.runUnderlying35 rfl Proofs.Try.sizeOf3 rfl rfl rfl ?_
              exact W_end (OneT_end [] (Hp.le_refl _) ⟨rfl, rfl⟩)
            · intro HX hX X Rest hR
              rintro _ _ ⟨rfl, rfl⟩
              intro hU
              refine W_load rfl rfl Proofs.Try.isAgg3 rfl (own_at (hR _ (List.mem_cons_of_mem _ (List.mem_cons_of_mem _ (List.mem_cons_self ..)))) rfl) ?_
              exact W_end (OneT_end [] (Hp.le_refl _) ⟨rfl, rfl⟩)
            · intro HX hX X Rest hR
              intro hU
              refine W_move rfl rfl rfl ?_
              exact W_end (OneT_end [] (Hp.le_refl _) ⟨rfl, rfl⟩)
            · intro HX hX X Rest hR
              rintro _ _ ⟨rfl, rfl⟩
              intro hU
              refine W_nilCheck rfl rfl rfl ?_
              exact W_end (OneT_end [] (Hp.le_refl _) ⟨rfl, rfl⟩)
            · intro HX hX X Rest hR
              rintro _ _ ⟨rfl, rfl⟩
              intro hU
              refine W_field (o := 1) rfl rfl Proofs.Try.runUnderlying53 rfl Proofs.Try.sizeOf51 rfl rfl rfl ?_
              exact W_end (OneT_end [] (Hp.le_refl _) ⟨rfl, rfl⟩)
            · intro HX hX X Rest hR
              rintro _ _ ⟨rfl, rfl⟩
              intro hU
              refine W_load rfl rfl Proofs.Try.isAgg51 rfl (own_at (hR _ (List.mem_cons_self ..)) rfl) ?_
              exact W_end (OneT_end [] (Hp.le_refl _) ⟨rfl, rfl⟩)
            · intro HX hX X Rest hR
              intro hU
              refine W_move rfl rfl rfl ?_
              exact W_end (OneT_end [] (Hp.le_refl _) ⟨rfl, rfl⟩)
            · intro HX hX X Rest hR
              rintro _ _ ⟨rfl, rfl⟩
              rintro _ _ ⟨rfl, rfl⟩
              intro hU
              refine W_indexO (hR _ (List.mem_cons_of_mem _ (List.mem_cons_self ..))) rfl rfl Proofs.Try.runUnderlying51 Proofs.Try.sizeOf57 rfl rfl h198 (List.getElem?_eq_some_iff.1 he199).1 ?_
              exact W_end (OneT_end [] (Hp.le_refl _) ⟨rfl, rfl⟩)
            · intro HX hX X Rest hR
              rintro _ _ ⟨rfl, rfl⟩
              intro hU
              refine W_field (o := 0) rfl rfl Proofs.Try.runUnderlying57 rfl Proofs.Try.sizeOf35 rfl rfl rfl ?_
              exact W_end (OneT_end [] (Hp.le_refl _) ⟨rfl, rfl⟩)
            · intro HX hX X Rest hR
              rintro _ _ ⟨rfl, rfl⟩
              intro hU
              refine W_field (o := 1) rfl rfl Proofs.Try.runUnderlying35 rfl Proofs.Try.sizeOf3 rfl rfl rfl ?_
              exact W_end (OneT_end [] (Hp.le_refl _) ⟨rfl, rfl⟩)
            · intro HX hX X Rest hR
              rintro _ _ ⟨rfl, rfl⟩
              intro hU
              refine W_load rfl rfl Proofs.Try.isAgg3 rfl (row_one (o := 1) (hR _ (List.mem_cons_of_mem _ (List.mem_cons_self ..))) hg200 rfl) ?_
              exact W_end (OneT_end [] (Hp.le_refl _) ⟨rfl, rfl⟩)
            intro H201 hle202
            rintro _ _ ⟨rfl, rfl⟩
            rintro _ _ ⟨rfl, rfl⟩
            rintro _ _ ⟨rfl, rfl⟩
            rintro _ _ ⟨rfl, rfl⟩
            rintro _ _ ⟨rfl, rfl⟩
            rintro _ _ ⟨rfl, rfl⟩
            rintro _ _ ⟨rfl, rfl⟩
            rintro _ _ ⟨rfl, rfl⟩
            rintro _ _ ⟨rfl, rfl⟩
            rintro _ _ ⟨rfl, rfl⟩
            rintro _ _ ⟨rfl, rfl⟩
            refine W_bin rfl rfl rfl rfl rfl ?_
            refine W_assign rfl rfl rfl ?_
            refine W_end ?_
            refine E_then ?_
            refine C_cond (b := decide (p1_m.Number ≤ y197.TelemetryMsg.Number)) rfl (fun hb203 => ?_) (fun hb203 => ?_)
            · have hm := ite_t' hb203 hm
              refine C_seq ?_
              refine C_region ?_
              refine W_assign rfl rfl rfl ?_
              refine W_assign rfl rfl rfl ?_
              refine W_end ?_
              refine E_then ?_
              refine C_ret ?_
              refine E_ret_block ?_
              refine E_ret_then ?_
              obtain rfl := Option.some.inj hm
              refine E_drop (List.Sublist.cons_cons _ (List.Sublist.cons_cons _ (List.Sublist.cons _ (List.Sublist.refl _)))) ?_
              refine E_weak hle202 ?_
              exact end2 rfl rfl rfl ⟨rfl, v0, xs0, rfl, rfl, ((h0.mono hle202)).toF⟩
            · have hm := ite_f' hb203 hm
              refine C_seq ?_
              obtain ⟨y204, h205, he206, hm⟩ := idx_some hm
              obtain ⟨_, rfl, hg207⟩ := (h0).elem he206
              refine C_region_tok0 11 (phiT [(fun H rs v => [] = rs ∧ .pointer (some ⟨b101, 2, none⟩) = v), (fun H rs v => [] = rs ∧ .int .i64 (p1_m.Time) = v), (fun H rs v => [] = rs ∧ .pointer (some ⟨b0, 0, none⟩) = v), (fun H rs v => [] = rs ∧ .pointer (some ⟨b0, 0, none⟩) = v), (fun H rs v => [] = rs ∧ .pointer (some ⟨b0, 1, none⟩) = v), (fun H rs v => [] = rs ∧ v0 = v), (fun H rs v => [] = rs ∧ .int .i64 (r105) = v), (fun H rs v => [] = rs ∧ .pointer (some ((Value.base (v0)).add ((r105 : Int).toNat * Rep.sz S_telemetry_point))) = v), (fun H rs v => [] = rs ∧ .pointer (some ((Value.base (v0)).add ((r105 : Int).toNat * Rep.sz S_telemetry_point))) = v), (fun H rs v => [] = rs ∧ .pointer (some (((Value.base (v0)).add ((r105 : Int).toNat * Rep.sz S_telemetry_point)).add 2)) = v), (fun H rs v => [] = rs ∧ .int .i64 (y204.TelemetryMsg.Time) = v)]) [[], [], [], [], [], [], [], [], [], [], []] [[], [], [], [], [], [], [], [], [], [], []] [] [0, 1, 2, 3, 4, 5, 6, 7, 8, 9, 10] Facts.mixed (by kernel_rfl) rfl rfl rfl (by kernel_rfl) (phiT_mono ⟨eq_monoT _ _, eq_monoT _ _, eq_monoT _ _, eq_monoT _ _, eq_monoT _ _, eq_monoT _ _, eq_monoT _ _, eq_monoT _ _, eq_monoT _ _, eq_monoT _ _, eq_monoT _ _, trivial⟩) ⟨?_, ?_, ?_, ?_, ?_, ?_, ?_, ?_, ?_, ?_, ?_, trivial⟩ ?_
              · intro HX hX X Rest hR
                intro hU
                refine W_field (o := 2) rfl rfl Proofs.Try.runUnderlying35 rfl Proofs.Try.sizeOf3 rfl rfl rfl ?_
                exact W_end (OneT_end [] (Hp.le_refl _) ⟨rfl, rfl⟩)
              · intro HX hX X Rest hR
                rintro _ _ ⟨rfl, rfl⟩
                intro hU
                refine W_load rfl rfl Proofs.Try.isAgg3 rfl (own_at (hR _ (List.mem_cons_of_mem _ (List.mem_cons_of_mem _ (List.mem_cons_self ..)))) rfl) ?_
                exact W_end (OneT_end [] (Hp.le_refl _) ⟨rfl, rfl⟩)
              · intro HX hX X Rest hR
                intro hU
                refine W_move rfl rfl rfl ?_
                exact W_end (OneT_end [] (Hp.le_refl _) ⟨rfl, rfl⟩)
              · intro HX hX X Rest hR
                rintro _ _ ⟨rfl, rfl⟩
                intro hU
                refine W_nilCheck rfl rfl rfl ?_
                exact W_end (OneT_end [] (Hp.le_refl _) ⟨rfl, rfl⟩)
              · intro HX hX X Rest hR
                rintro _ _ ⟨rfl, rfl⟩
                intro hU
                refine W_field (o := 1) rfl rfl Proofs.Try.runUnderlying53 rfl Proofs.Try.sizeOf51 rfl rfl rfl ?_
                exact W_end (OneT_end [] (Hp.le_refl _) ⟨rfl, rfl⟩)
              · intro HX hX X Rest hR
                rintro _ _ ⟨rfl, rfl⟩
                intro hU
                refine W_load rfl rfl Proofs.Try.isAgg51 rfl (own_at (hR _ (List.mem_cons_self ..)) rfl) ?_
                exact W_end (OneT_end [] (Hp.le_refl _) ⟨rfl, rfl⟩)
              · intro HX hX X Rest hR
                intro hU
                refine W_move rfl rfl rfl ?_
                exact W_end (OneT_end [] (Hp.le_refl _) ⟨rfl, rfl⟩)
              · intro HX hX X Rest hR
                rintro _ _ ⟨rfl, rfl⟩
                rintro _ _ ⟨rfl, rfl⟩
                intro hU
                refine W_indexO (hR _ (List.mem_cons_of_mem _ (List.mem_cons_self ..))) rfl rfl Proofs.Try.runUnderlying51 Proofs.Try.sizeOf57 rfl rfl h205 (List.getElem?_eq_some_iff.1 he206).1 ?_
                exact W_end (OneT_end [] (Hp.le_refl _) ⟨rfl, rfl⟩)
              · intro HX hX X Rest hR
                rintro _ _ ⟨rfl, rfl⟩
                intro hU
                refine W_field (o := 0) rfl rfl Proofs.Try.runUnderlying57 rfl Proofs.Try.sizeOf35 rfl rfl rfl ?_
                exact W_end (OneT_end [] (Hp.le_refl _) ⟨rfl, rfl⟩)
              · intro HX hX X Rest hR
                rintro _ _ ⟨rfl, rfl⟩
                intro hU
                refine W_field (o := 2) rfl rfl Proofs.Try.runUnderlying35 rfl Proofs.Try.sizeOf3 rfl rfl rfl ?_
                exact W_end (OneT_end [] (Hp.le_refl _) ⟨rfl, rfl⟩)
              · intro HX hX X Rest hR
                rintro _ _ ⟨rfl, rfl⟩
                intro hU
                refine W_load rfl rfl Proofs.Try.isAgg3 rfl (row_one (o := 2) (hR _ (List.mem_cons_of_mem _ (List.mem_cons_self ..))) hg207 rfl) ?_
                exact W_end (OneT_end [] (Hp.le_refl _) ⟨rfl, rfl⟩)
              intro H208 hle209
              rintro _ _ ⟨rfl, rfl⟩
              rintro _ _ ⟨rfl, rfl⟩
              rintro _ _ ⟨rfl, rfl⟩
              rintro _ _ ⟨rfl, rfl⟩
              rintro _ _ ⟨rfl, rfl⟩
              rintro _ _ ⟨rfl, rfl⟩
              rintro _ _ ⟨rfl, rfl⟩
              rintro _ _ ⟨rfl, rfl⟩
              rintro _ _ ⟨rfl, rfl⟩
              rintro _ _ ⟨rfl, rfl⟩
              rintro _ _ ⟨rfl, rfl⟩
              refine W_bin rfl rfl rfl rfl rfl ?_
              refine W_assign rfl rfl rfl ?_
              refine W_end ?_
              refine E_then ?_
              refine C_cond (b := decide (p1_m.Time < y204.TelemetryMsg.Time)) rfl (fun hb210 => ?_) (fun hb210 => ?_)
              · have hm := ite_t' hb210 hm
                refine C_seq ?_
                refine C_region ?_
                refine W_assign rfl rfl rfl ?_
                refine W_assign rfl rfl rfl ?_
                refine W_end ?_
                refine E_then ?_
                refine C_ret ?_
                refine E_ret_block ?_
                refine E_ret_then ?_
                obtain rfl := Option.some.inj hm
                refine E_drop (List.Sublist.cons_cons _ (List.Sublist.cons_cons _ (List.Sublist.cons _ (List.Sublist.refl _)))) ?_
                refine E_weak (Hp.le_trans hle202 hle209) ?_
                exact end2 rfl rfl rfl ⟨rfl, v0, xs0, rfl, rfl, (((h0.mono hle202).mono hle209)).toF⟩
              · have hm := ite_f' hb210 hm
                obtain ⟨y211, h212, he213, hm⟩ := idx_some hm
                obtain ⟨_, rfl, hg214⟩ := (h0).elem he213
                refine C_region_tok0 16 (phiT [(fun H rs v => [] = rs ∧ .pointer (some ⟨b0, 0, none⟩) = v), (fun H rs v => [] = rs ∧ .pointer (some ⟨b0, 0, none⟩) = v), (fun H rs v => [] = rs ∧ .pointer (some ⟨b0, 1, none⟩) = v), (fun H rs v => [] = rs ∧ v0 = v), (fun H rs v => [] = rs ∧ .int .i64 (r105) = v), (fun H rs v => [] = rs ∧ .agg [.string (p1_m.Point), .int .i64 (p1_m.Number), .int .i64 (p1_m.Time), .int .i64 (p1_m.Value)].toArray = v), (fun H rs v => [] = rs ∧ .pointer (some ⟨b0, 0, none⟩) = v), (fun H rs v => [] = rs ∧ .pointer (some ⟨b0, 0, none⟩) = v), (fun H rs v => [] = rs ∧ .pointer (some ⟨b0, 1, none⟩) = v), (fun H rs v => [] = rs ∧ v0 = v), (fun H rs v => [] = rs ∧ .int .i64 (r105) = v), (fun H rs v => [] = rs ∧ .pointer (some ((Value.base (v0)).add ((r105 : Int).toNat * Rep.sz S_telemetry_point))) = v), (fun H rs v => [] = rs ∧ .pointer (some (((Value.base (v0)).add ((r105 : Int).toNat * Rep.sz S_telemetry_point)).add 4)) = v), (fun H rs v => [] = rs ∧ .int .i64 (y211.many) = v), (fun H rs v => [] = rs ∧ .int .i64 (IntKind.i64.wrap (y211.many + 1)) = v), (fun H rs v => [] = rs ∧ .agg [.string (p1_m.Point), .int .i64 (p1_m.Number), .int .i64 (p1_m.Time), .int .i64 (p1_m.Value), .int .i64 (IntKind.i64.wrap (y211.many + 1))].toArray = v)]) [[], [], [], [], [], [], [], [], [], [], [], [], [], [], [], []] [[], [], [], [], [], [], [], [], [], [], [], [], [], [], [], []] [] [0, 1, 2, 3, 4, 5, 6, 7, 8, 9, 10, 11, 12, 13, 14, 15] Facts.mixed (by kernel_rfl) rfl rfl rfl (by kernel_rfl) (phiT_mono ⟨eq_monoT _ _, eq_monoT _ _, eq_monoT _ _, eq_monoT _ _, eq_monoT _ _, eq_monoT _ _, eq_monoT _ _, eq_monoT _ _, eq_monoT _ _, eq_monoT _ _, eq_monoT _ _, eq_monoT _ _, eq_monoT _ _, eq_monoT _ _, eq_monoT _ _, eq_monoT _ _, trivial⟩) ⟨?_, ?_, ?_, ?_, ?_, ?_, ?_, ?_, ?_, ?_, ?_, ?_, ?_, ?_, ?_, ?_, trivial⟩ ?_
                · intro HX hX X Rest hR
                  intro hU
                  refine W_move rfl rfl rfl ?_
                  exact W_end (OneT_end [] (Hp.le_refl _) ⟨rfl, rfl⟩)
                · intro HX hX X Rest hR
                  rintro _ _ ⟨rfl, rfl⟩
                  intro hU
                  refine W_nilCheck rfl rfl rfl ?_
                  exact W_end (OneT_end [] (Hp.le_refl _) ⟨rfl, rfl⟩)
                · intro HX hX X Rest hR
                  rintro _ _ ⟨rfl, rfl⟩
                  intro hU
                  refine W_field (o := 1) rfl rfl Proofs.Try.runUnderlying53 rfl Proofs.Try.sizeOf51 rfl rfl rfl ?_
                  exact W_end (OneT_end [] (Hp.le_refl _) ⟨rfl, rfl⟩)
                · intro HX hX X Rest hR
                  rintro _ _ ⟨rfl, rfl⟩
                  intro hU
                  refine W_load rfl rfl Proofs.Try.isAgg51 rfl (own_at (hR _ (List.mem_cons_self ..)) rfl) ?_
                  exact W_end (OneT_end [] (Hp.le_refl _) ⟨rfl, rfl⟩)
                · intro HX hX X Rest hR
                  intro hU
                  refine W_move rfl rfl rfl ?_
                  exact W_end (OneT_end [] (Hp.le_refl _) ⟨rfl, rfl⟩)
                · intro HX hX X Rest hR
                  intro hU
                  refine W_loadAgg rfl rfl Proofs.Try.isAgg35 Proofs.Try.sizeOf35 rfl (own_all (hR _ (List.mem_cons_of_mem _ (List.mem_cons_of_mem _ (List.mem_cons_self ..))))) rfl ?_
                  exact W_end (OneT_end [] (Hp.le_refl _) ⟨rfl, rfl⟩)
                · intro HX hX X Rest hR
                  intro hU
                  refine W_move rfl rfl rfl ?_
                  exact W_end (OneT_end [] (Hp.le_refl _) ⟨rfl, rfl⟩)
                · intro HX hX X Rest hR
                  rintro _ _ ⟨rfl, rfl⟩
                  intro hU
                  refine W_nilCheck rfl rfl rfl ?_
                  exact W_end (OneT_end [] (Hp.le_refl _) ⟨rfl, rfl⟩)
                · intro HX hX X Rest hR
                  rintro _ _ ⟨rfl, rfl⟩
                  intro hU
                  refine W_field (o := 1) rfl rfl Proofs.Try.runUnderlying53 rfl Proofs.Try.sizeOf51 rfl rfl rfl ?_
                  exact W_end (OneT_end [] (Hp.le_refl _) ⟨rfl, rfl⟩)
                · intro HX hX X Rest hR
                  rintro _ _ ⟨rfl, rfl⟩
                  intro hU
                  refine W_load rfl rfl Proofs.Try.isAgg51 rfl (own_at (hR _ (List.mem_cons_self ..)) rfl) ?_
                  exact W_end (OneT_end [] (Hp.le_refl _) ⟨rfl, rfl⟩)
                · intro HX hX X Rest hR
                  intro hU
                  refine W_move rfl rfl rfl ?_
                  exact W_end (OneT_end [] (Hp.le_refl _) ⟨rfl, rfl⟩)
                · intro HX hX X Rest hR
                  rintro _ _ ⟨rfl, rfl⟩
                  rintro _ _ ⟨rfl, rfl⟩
                  intro hU
                  refine W_indexO (hR _ (List.mem_cons_of_mem _ (List.mem_cons_self ..))) rfl rfl Proofs.Try.runUnderlying51 Proofs.Try.sizeOf57 rfl rfl h212 (List.getElem?_eq_some_iff.1 he213).1 ?_
                  exact W_end (OneT_end [] (Hp.le_refl _) ⟨rfl, rfl⟩)
                · intro HX hX X Rest hR
                  rintro _ _ ⟨rfl, rfl⟩
                  intro hU
                  refine W_field (o := 4) rfl rfl Proofs.Try.runUnderlying57 rfl Proofs.Try.sizeOf3 rfl rfl rfl ?_
                  exact W_end (OneT_end [] (Hp.le_refl _) ⟨rfl, rfl⟩)
                · intro HX hX X Rest hR
                  rintro _ _ ⟨rfl, rfl⟩
                  intro hU
                  refine W_load rfl rfl Proofs.Try.isAgg3 rfl (row_one (o := 4) (hR _ (List.mem_cons_of_mem _ (List.mem_cons_self ..))) hg214 rfl) ?_
                  exact W_end (OneT_end [] (Hp.le_refl _) ⟨rfl, rfl⟩)
                · intro HX hX X Rest hR
                  rintro _ _ ⟨rfl, rfl⟩
                  intro hU
                  refine W_bin rfl rfl rfl rfl rfl ?_
                  exact W_end (OneT_end [] (Hp.le_refl _) ⟨rfl, rfl⟩)
                · intro HX hX X Rest hR
                  rintro _ _ ⟨rfl, rfl⟩
                  rintro _ _ ⟨rfl, rfl⟩
                  intro hU
                  refine W_build (css := [[.string (p1_m.Point), .int .i64 (p1_m.Number), .int .i64 (p1_m.Time), .int .i64 (p1_m.Value)], [.int .i64 (IntKind.i64.wrap (y211.many + 1))]]) (zs := [.string (⟨#[]⟩), .int .i64 (0), .int .i64 (0), .int .i64 (0), .int .i64 (0)]) (out := [.string (p1_m.Point), .int .i64 (p1_m.Number), .int .i64 (p1_m.Time), .int .i64 (p1_m.Value), .int .i64 (IntKind.i64.wrap (y211.many + 1))]) (places := [(0, 4), (4, 1)]) rfl rfl rfl ⟨rfl, rfl, trivial⟩ Proofs.Try.zeroValue57 rfl Proofs.Try.runUnderlying57 (fun w => by kernel_rfl) rfl ?_
                  exact W_end (OneT_end [] (Hp.le_refl _) ⟨rfl, rfl⟩)
                intro H215 hle216
                rintro _ _ ⟨rfl, rfl⟩
                rintro _ _ ⟨rfl, rfl⟩
                rintro _ _ ⟨rfl, rfl⟩
                rintro _ _ ⟨rfl, rfl⟩
                rintro _ _ ⟨rfl, rfl⟩
                rintro _ _ ⟨rfl, rfl⟩
                rintro _ _ ⟨rfl, rfl⟩
                rintro _ _ ⟨rfl, rfl⟩
                rintro _ _ ⟨rfl, rfl⟩
                rintro _ _ ⟨rfl, rfl⟩
                rintro _ _ ⟨rfl, rfl⟩
                rintro _ _ ⟨rfl, rfl⟩
                rintro _ _ ⟨rfl, rfl⟩
                rintro _ _ ⟨rfl, rfl⟩
                rintro _ _ ⟨rfl, rfl⟩
                rintro _ _ ⟨rfl, rfl⟩
                obtain ⟨y217, h218, he219, hm⟩ := idx_some hm
                refine W_indexO (List.mem_cons_of_mem _ (List.mem_cons_self ..)) rfl rfl Proofs.Try.runUnderlying51 Proofs.Try.sizeOf57 rfl rfl h218 (List.getElem?_eq_some_iff.1 he219).1 ?_
                obtain ⟨_, rfl, hg220⟩ := (h0).elem he219
                refine W_perm (List.Perm.swap _ _ _) ?_
                obtain ⟨hr221, he222, hg223⟩ := Rw.put (cs := [.string (p1_m.Point), .int .i64 (p1_m.Number), .int .i64 (p1_m.Time), .int .i64 (p1_m.Value), .int .i64 (IntKind.i64.wrap (y211.many + 1))]) (o := 0) (c := [.string (y217.TelemetryMsg.Point), .int .i64 (y217.TelemetryMsg.Number), .int .i64 (y217.TelemetryMsg.Time), .int .i64 (y217.TelemetryMsg.Value), .int .i64 (y217.many)]) (out := [.string (p1_m.Point), .int .i64 (p1_m.Number), .int .i64 (p1_m.Time), .int .i64 (p1_m.Value), .int .i64 (IntKind.i64.wrap (y211.many + 1))]) (e2 := (S_telemetry_point.mk p1_m (IntKind.i64.wrap (y211.many + 1)))) (((h0.mono hle202).mono hle209).mono hle216) he219 rfl hg220 rfl rfl rfl
                refine W_storeO2 (i := (r105 : Int).toNat * Rep.sz S_telemetry_point + 0) (cs := [.string (p1_m.Point), .int .i64 (p1_m.Number), .int .i64 (p1_m.Time), .int .i64 (p1_m.Value), .int .i64 (IntKind.i64.wrap (y211.many + 1))]) rfl Proofs.Try.sizeOf57 rfl (row_ad0 _ _) rfl rfl rfl (Rw.room (((h0.mono hle202).mono hle209).mono hle216) he219 rfl) rfl (all_cons rfl (all_cons rfl (all_cons rfl (all_cons rfl (all_cons rfl all_nil))))) (n' := (p0_p.all_.set ((r105 : Int).toNat) (S_telemetry_point.mk p1_m (IntKind.i64.wrap (y211.many + 1)))).length) List.length_set ?_
                generalize over xs0 ((r105 : Int).toNat * Rep.sz S_telemetry_point + 0) [.string (p1_m.Point), .int .i64 (p1_m.Number), .int .i64 (p1_m.Time), .int .i64 (p1_m.Value), .int .i64 (IntKind.i64.wrap (y211.many + 1))] = xs224 at hr221 hg223 ⊢
                refine W_end ?_
                refine E_normal_block ?_
                refine E_drop (List.Sublist.cons_cons _ (List.Sublist.cons_cons _ (List.Sublist.cons _ (List.Sublist.refl _)))) ?_
                exact E_keepJ (J169 _ _ _ ⟨(p0_p.all_.set ((r105 : Int).toNat) (S_telemetry_point.mk p1_m (IntKind.i64.wrap (y211.many + 1)))), v0, xs224, hm, hr221, (Hp.le_trans (Hp.le_trans hle202 hle209) hle216), rfl, rfl⟩) (List.Perm.refl _) trivial
      · refine C_region ?_
        refine W_move rfl rfl rfl ?_
        refine W_bin rfl rfl rfl rfl rfl ?_
        refine W_move rfl rfl rfl ?_
        cases hb225 : (decide (r105 < 0))
        · refine W_no rfl rfl rfl ?_
          refine W_no rfl rfl rfl ?_
          refine W_no rfl rfl rfl ?_
          refine W_no rfl rfl rfl ?_
          refine W_no rfl rfl rfl ?_
          refine W_no rfl rfl rfl ?_
          refine W_pick rfl rfl rfl rfl ?_
          refine W_assign rfl rfl rfl ?_
          refine W_end ?_
          exact E_keepJ (J171 _ _ _ ⟨rfl, rfl, rfl⟩) (List.Perm.refl _) ⟨rfl, rfl, rfl, (by show some (Value.bool (false)) = some (Value.bool ((decide (r105 < 0)) && (decide ((p0_p.all_.length : Int) = 24)))); simp only [hb104, hb225, Bool.and_true, Bool.true_and, Bool.false_and, Bool.and_false, Bool.or_true, Bool.true_or, Bool.or_false, Bool.false_or, Bool.not_true, Bool.not_false]), trivial⟩
        · refine W_move rfl rfl rfl ?_
          refine W_nilCheck rfl rfl rfl ?_
          refine W_field (o := 1) rfl rfl Proofs.Try.runUnderlying53 rfl Proofs.Try.sizeOf51 rfl rfl rfl ?_
          refine W_load rfl rfl Proofs.Try.isAgg51 rfl (own_at (List.mem_cons_self ..) rfl) ?_
          refine W_lenO (List.mem_cons_of_mem _ (List.mem_cons_self ..)) rfl rfl Proofs.Try.runUnderlying51 rfl ?_
          refine W_bin rfl rfl rfl rfl rfl ?_
          refine W_pick rfl rfl rfl rfl ?_
          refine W_assign rfl rfl rfl ?_
          refine W_end ?_
          exact E_keepJ (J171 _ _ _ ⟨rfl, rfl, rfl⟩) (List.Perm.refl _) ⟨rfl, rfl, rfl, (by show some (Value.bool (decide ((p0_p.all_.length : Int) = 24))) = some (Value.bool ((decide (r105 < 0)) && (decide ((p0_p.all_.length : Int) = 24)))); simp only [hb104, hb225, Bool.and_true, Bool.true_and, Bool.false_and, Bool.and_false, Bool.or_true, Bool.true_or, Bool.or_false, Bool.false_or, Bool.not_true, Bool.not_false]), trivial⟩

theorem m_telemetry_Points_Value_c {B : Nat} {w0 w : World} {H : Hp} {M : List Res} {p0_p : S_telemetry_Points} {name : ByteArray} {now : Int} {b0 : Nat} {v0 : Value} {xs0 : List Value} {r : Int × Int × Int} (hm : m_telemetry_Points_Value p0_p name now = some r) (h0 : Rw H v0 xs0 p0_p.all_) (ht : St B w0 H (.obj b0 (.cells [.int .i64 (p0_p.age), v0].toArray 53 (0, 0)) :: .row v0 57 (Rep.sz S_telemetry_point) p0_p.all_.length xs0 :: M) w) :
    Calls Proofs.Try.prog 15 [.pointer (some ⟨b0, 0, none⟩), .string (name), .int .i64 (now)].toArray w (Ret B w0 fun H' M' v => H = H' ∧ .obj b0 (.cells [.int .i64 (p0_p.age), v0].toArray 53 (0, 0)) :: .row v0 57 (Rep.sz S_telemetry_point) p0_p.all_.length xs0 :: M = M' ∧ .tuple #[.int .i64 (r.1), .int .i64 (r.2.1), .int .i64 (r.2.2)] = v) := by
  unfold m_telemetry_Points_Value at hm
  refine enter Proofs.Try.func15 rfl rfl rfl ht ?_
  refine C_seq ?_
  refine C_region ?_
  refine W_assign rfl rfl rfl ?_
  refine W_assign rfl rfl rfl ?_
  refine W_assign rfl rfl rfl ?_
  refine W_end ?_
  refine E_then ?_
  refine C_seq ?_
  refine C_region ?_
  refine W_move rfl rfl rfl ?_
  refine W_move rfl rfl rfl ?_
  obtain ⟨r101, hc102, hm⟩ := bind_some hm
  refine W_call Proofs.Try.call23 rfl rfl rfl (fun w ht => by have h := m_telemetry_Points_index_c (hm := hc102) h0 ht; exact h) ?_
  rintro _ _ _ ⟨rfl, rfl, rfl⟩
  refine W_assign rfl rfl rfl ?_
  refine W_end ?_
  refine E_then ?_
  refine C_seq ?_
  refine C_block ?_
  refine C_seq_join (fun H' M' L' => H = H' ∧ .obj b0 (.cells [.int .i64 (p0_p.age), v0].toArray 53 (0, 0)) :: .row v0 57 (Rep.sz S_telemetry_point) p0_p.all_.length xs0 :: M = M' ∧ [(0, .pointer (some ⟨b0, 0, none⟩)), (2, .int .i64 (now)), (9, .int .i64 (r101)), (13, .bool ((decide (now < 0)) || (decide (200000 < now))))] = L') ?_ (fun J104 => ?_)
  · rintro _ _ _ ⟨rfl, rfl, rfl⟩
    refine C_cond (b := (decide (now < 0)) || (decide (200000 < now))) rfl (fun hb105 => ?_) (fun hb105 => ?_)
    · have hm := ite_t' hb105 hm
      refine C_seq ?_
      refine C_region ?_
      refine W_assign rfl rfl rfl ?_
      refine W_assign rfl rfl rfl ?_
      refine W_assign rfl rfl rfl ?_
      refine W_end ?_
      refine E_then ?_
      refine C_ret ?_
      refine E_ret_block ?_
      refine E_ret_then ?_
      obtain rfl := Option.some.inj hm
      refine E_weak (Hp.le_refl _) ?_
      exact end3 rfl rfl rfl rfl ⟨rfl, rfl, rfl⟩
    · have hm := ite_f' hb105 hm
      refine C_seq ?_
      refine C_region ?_
      refine W_move rfl rfl rfl ?_
      refine W_bin rfl rfl rfl rfl rfl ?_
      refine W_assign rfl rfl rfl ?_
      refine W_end ?_
      refine E_then ?_
      refine C_cond (b := decide (r101 < 0)) rfl (fun hb106 => ?_) (fun hb106 => ?_)
      · have hm := ite_t' hb106 hm
        refine C_seq ?_
        refine C_region ?_
        refine W_assign rfl rfl rfl ?_
        refine W_assign rfl rfl rfl ?_
        refine W_assign rfl rfl rfl ?_
        refine W_end ?_
        refine E_then ?_
        refine C_ret ?_
        refine E_ret_block ?_
        refine E_ret_then ?_
        obtain rfl := Option.some.inj hm
        refine E_weak (Hp.le_refl _) ?_
        exact end3 rfl rfl rfl rfl ⟨rfl, rfl, rfl⟩
      · have hm := ite_f' hb106 hm
        refine C_seq ?_
        refine C_region ?_
        refine W_move rfl rfl rfl ?_
        refine W_nilCheck rfl rfl rfl ?_
        refine W_field (o := 1) rfl rfl Proofs.Try.runUnderlying53 rfl Proofs.Try.sizeOf51 rfl rfl rfl ?_
        refine W_load rfl rfl Proofs.Try.isAgg51 rfl (own_at (List.mem_cons_self ..) rfl) ?_
        refine W_move rfl rfl rfl ?_
        obtain ⟨y107, h108, he109, hm⟩ := idx_some hm
        refine W_indexO (List.mem_cons_of_mem _ (List.mem_cons_self ..)) rfl rfl Proofs.Try.runUnderlying51 Proofs.Try.sizeOf57 rfl rfl h108 (List.getElem?_eq_some_iff.1 he109).1 ?_
        obtain ⟨_, rfl, hg110⟩ := (h0).elem he109
        refine W_field (o := 0) rfl rfl Proofs.Try.runUnderlying57 rfl Proofs.Try.sizeOf35 rfl rfl rfl ?_
        refine W_field (o := 2) rfl rfl Proofs.Try.runUnderlying35 rfl Proofs.Try.sizeOf3 rfl rfl rfl ?_
        refine W_load rfl rfl Proofs.Try.isAgg3 rfl (row_one (o := 2) (List.mem_cons_of_mem _ (List.mem_cons_self ..)) hg110 rfl) ?_
        refine W_move rfl rfl rfl ?_
        refine W_bin rfl rfl rfl rfl rfl ?_
        refine W_assign rfl rfl rfl ?_
        refine W_end ?_
        refine E_then ?_
        refine C_cond (b := decide (now < y107.TelemetryMsg.Time)) rfl (fun hb111 => ?_) (fun hb111 => ?_)
        · have hm := ite_t' hb111 hm
          refine C_seq ?_
          refine C_region ?_
          refine W_assign rfl rfl rfl ?_
          refine W_assign rfl rfl rfl ?_
          refine W_assign rfl rfl rfl ?_
          refine W_end ?_
          refine E_then ?_
          refine C_ret ?_
          refine E_ret_block ?_
          refine E_ret_then ?_
          obtain rfl := Option.some.inj hm
          refine E_weak (Hp.le_refl _) ?_
          exact end3 rfl rfl rfl rfl ⟨rfl, rfl, rfl⟩
        · have hm := ite_f' hb111 hm
          refine C_seq ?_
          obtain ⟨y112, h113, he114, hm⟩ := idx_some hm
          obtain ⟨_, rfl, hg115⟩ := (h0).elem he114
          refine C_region_tok0 15 (phiT [(fun H rs v => [] = rs ∧ .int .i64 (now) = v), (fun H rs v => [] = rs ∧ .pointer (some ⟨b0, 0, none⟩) = v), (fun H rs v => [] = rs ∧ .pointer (some ⟨b0, 0, none⟩) = v), (fun H rs v => [] = rs ∧ .pointer (some ⟨b0, 1, none⟩) = v), (fun H rs v => [] = rs ∧ v0 = v), (fun H rs v => [] = rs ∧ .int .i64 (r101) = v), (fun H rs v => [] = rs ∧ .pointer (some ((Value.base (v0)).add ((r101 : Int).toNat * Rep.sz S_telemetry_point))) = v), (fun H rs v => [] = rs ∧ .pointer (some ((Value.base (v0)).add ((r101 : Int).toNat * Rep.sz S_telemetry_point))) = v), (fun H rs v => [] = rs ∧ .pointer (some (((Value.base (v0)).add ((r101 : Int).toNat * Rep.sz S_telemetry_point)).add 2)) = v), (fun H rs v => [] = rs ∧ .int .i64 (y112.TelemetryMsg.Time) = v), (fun H rs v => [] = rs ∧ .int .i64 (IntKind.i64.wrap (now - y112.TelemetryMsg.Time)) = v), (fun H rs v => [] = rs ∧ .pointer (some ⟨b0, 0, none⟩) = v), (fun H rs v => [] = rs ∧ .pointer (some ⟨b0, 0, none⟩) = v), (fun H rs v => [] = rs ∧ .pointer (some ⟨b0, 0, none⟩) = v), (fun H rs v => [] = rs ∧ .int .i64 (p0_p.age) = v)]) [[], [], [], [], [], [], [], [], [], [], [], [], [], [], []] [[], [], [], [], [], [], [], [], [], [], [], [], [], [], []] [] [0, 1, 2, 3, 4, 5, 6, 7, 8, 9, 10, 11, 12, 13, 14] Facts.mixed (by kernel_rfl) rfl rfl rfl (by kernel_rfl) (phiT_mono ⟨eq_monoT _ _, eq_monoT _ _, eq_monoT _ _, eq_monoT _ _, eq_monoT _ _, eq_monoT _ _, eq_monoT _ _, eq_monoT _ _, eq_monoT _ _, eq_monoT _ _, eq_monoT _ _, eq_monoT _ _, eq_monoT _ _, eq_monoT _ _, eq_monoT _ _, trivial⟩) ⟨?_, ?_, ?_, ?_, ?_, ?_, ?_, ?_, ?_, ?_, ?_, ?_, ?_, ?_, ?_, trivial⟩ ?_
          · intro HX hX X Rest hR
            intro hU
            refine W_move rfl rfl rfl ?_
            exact W_end (OneT_end [] (Hp.le_refl _) ⟨rfl, rfl⟩)
          · intro HX hX X Rest hR
            intro hU
            refine W_move rfl rfl rfl ?_
            exact W_end (OneT_end [] (Hp.le_refl _) ⟨rfl, rfl⟩)
          · intro HX hX X Rest hR
            rintro _ _ ⟨rfl, rfl⟩
            intro hU
            refine W_nilCheck rfl rfl rfl ?_
            exact W_end (OneT_end [] (Hp.le_refl _) ⟨rfl, rfl⟩)
          · intro HX hX X Rest hR
            rintro _ _ ⟨rfl, rfl⟩
            intro hU
            refine W_field (o := 1) rfl rfl Proofs.Try.runUnderlying53 rfl Proofs.Try.sizeOf51 rfl rfl rfl ?_
            exact W_end (OneT_end [] (Hp.le_refl _) ⟨rfl, rfl⟩)
          · intro HX hX X Rest hR
            rintro _ _ ⟨rfl, rfl⟩
            intro hU
            refine W_load rfl rfl Proofs.Try.isAgg51 rfl (own_at (hR _ (List.mem_cons_self ..)) rfl) ?_
            exact W_end (OneT_end [] (Hp.le_refl _) ⟨rfl, rfl⟩)
          · intro HX hX X Rest hR
            intro hU
            refine W_move rfl rfl rfl ?_
            exact W_end (OneT_end [] (Hp.le_refl _) ⟨rfl, rfl⟩)
          · intro HX hX X Rest hR
            rintro _ _ ⟨rfl, rfl⟩
            rintro _ _ ⟨rfl, rfl⟩
            intro hU
            refine W_indexO (hR _ (List.mem_cons_of_mem _ (List.mem_cons_self ..))) rfl rfl Proofs.Try.runUnderlying51 Proofs.Try.sizeOf57 rfl rfl h113 (List.getElem?_eq_some_iff.1 he114).1 ?_
            exact W_end (OneT_end [] (Hp.le_refl _) ⟨rfl, rfl⟩)
          · intro HX hX X Rest hR
            rintro _ _ ⟨rfl, rfl⟩
            intro hU
            refine W_field (o := 0) rfl rfl Proofs.Try.runUnderlying57 rfl Proofs.Try.sizeOf35 rfl rfl rfl ?_
            exact W_end (OneT_end [] (Hp.le_refl _) ⟨rfl, rfl⟩)
          · intro HX hX X Rest hR
            rintro _ _ ⟨rfl, rfl⟩
            intro hU
            refine W_field (o := 2) rfl rfl Proofs.Try.runUnderlying35 rfl Proofs.Try.sizeOf3 rfl rfl rfl ?_
            exact W_end (OneT_end [] (Hp.le_refl _) ⟨rfl, rfl⟩)
          · intro HX hX X Rest hR
            rintro _ _ ⟨rfl, rfl⟩
            intro hU
            refine W_load rfl rfl Proofs.Try.isAgg3 rfl (row_one (o := 2) (hR _ (List.mem_cons_of_mem _ (List.mem_cons_self ..))) hg115 rfl) ?_
            exact W_end (OneT_end [] (Hp.le_refl _) ⟨rfl, rfl⟩)
          · intro HX hX X Rest hR
            rintro _ _ ⟨rfl, rfl⟩
            rintro _ _ ⟨rfl, rfl⟩
            intro hU
            refine W_bin rfl rfl rfl rfl rfl ?_
            exact W_end (OneT_end [] (Hp.le_refl _) ⟨rfl, rfl⟩)
          · intro HX hX X Rest hR
            intro hU
            refine W_move rfl rfl rfl ?_
            exact W_end (OneT_end [] (Hp.le_refl _) ⟨rfl, rfl⟩)
          · intro HX hX X Rest hR
            rintro _ _ ⟨rfl, rfl⟩
            intro hU
            refine W_nilCheck rfl rfl rfl ?_
            exact W_end (OneT_end [] (Hp.le_refl _) ⟨rfl, rfl⟩)
          · intro HX hX X Rest hR
            rintro _ _ ⟨rfl, rfl⟩
            intro hU
            refine W_field (o := 0) rfl rfl Proofs.Try.runUnderlying53 rfl Proofs.Try.sizeOf3 rfl rfl rfl ?_
            exact W_end (OneT_end [] (Hp.le_refl _) ⟨rfl, rfl⟩)
          · intro HX hX X Rest hR
            rintro _ _ ⟨rfl, rfl⟩
            intro hU
            refine W_load rfl rfl Proofs.Try.isAgg3 rfl (own_at (hR _ (List.mem_cons_self ..)) rfl) ?_
            exact W_end (OneT_end [] (Hp.le_refl _) ⟨rfl, rfl⟩)
          intro H116 hle117
          rintro _ _ ⟨rfl, rfl⟩
          rintro _ _ ⟨rfl, rfl⟩
          rintro _ _ ⟨rfl, rfl⟩
          rintro _ _ ⟨rfl, rfl⟩
          rintro _ _ ⟨rfl, rfl⟩
          rintro _ _ ⟨rfl, rfl⟩
          rintro _ _ ⟨rfl, rfl⟩
          rintro _ _ ⟨rfl, rfl⟩
          rintro _ _ ⟨rfl, rfl⟩
          rintro _ _ ⟨rfl, rfl⟩
          rintro _ _ ⟨rfl, rfl⟩
          rintro _ _ ⟨rfl, rfl⟩
          rintro _ _ ⟨rfl, rfl⟩
          rintro _ _ ⟨rfl, rfl⟩
          rintro _ _ ⟨rfl, rfl⟩
          refine W_bin rfl rfl rfl rfl rfl ?_
          refine W_assign rfl rfl rfl ?_
          refine W_end ?_
          refine E_then ?_
          refine C_cond (b := decide ((IntKind.i64.wrap (now - y112.TelemetryMsg.Time)) ≤ p0_p.age)) rfl (fun hb118 => ?_) (fun hb118 => ?_)
          · have hm := ite_t' hb118 hm
            refine C_seq ?_
            refine C_region ?_
            refine W_move rfl rfl rfl ?_
            refine W_nilCheck rfl rfl rfl ?_
            refine W_field (o := 1) rfl rfl Proofs.Try.runUnderlying53 rfl Proofs.Try.sizeOf51 rfl rfl rfl ?_
            refine W_load rfl rfl Proofs.Try.isAgg51 rfl (own_at (List.mem_cons_self ..) rfl) ?_
            refine W_move rfl rfl rfl ?_
            obtain ⟨y119, h120, he121, hm⟩ := idx_some hm
            refine W_indexO (List.mem_cons_of_mem _ (List.mem_cons_self ..)) rfl rfl Proofs.Try.runUnderlying51 Proofs.Try.sizeOf57 rfl rfl h120 (List.getElem?_eq_some_iff.1 he121).1 ?_
            obtain ⟨_, rfl, hg122⟩ := (h0).elem he121
            refine W_field (o := 0) rfl rfl Proofs.Try.runUnderlying57 rfl Proofs.Try.sizeOf35 rfl rfl rfl ?_
            refine W_field (o := 3) rfl rfl Proofs.Try.runUnderlying35 rfl Proofs.Try.sizeOf3 rfl rfl rfl ?_
            refine W_load rfl rfl Proofs.Try.isAgg3 rfl (row_one (o := 3) (List.mem_cons_of_mem _ (List.mem_cons_self ..)) hg122 rfl) ?_
            refine W_assign rfl rfl rfl ?_
            refine W_assign rfl rfl rfl ?_
            refine W_assign rfl rfl rfl ?_
            refine W_end ?_
            refine E_then ?_
            refine C_ret ?_
            refine E_ret_block ?_
            refine E_ret_then ?_
            obtain rfl := Option.some.inj hm
            refine E_weak hle117 ?_
            exact end3 rfl rfl rfl rfl ⟨rfl, rfl, rfl⟩
          · have hm := ite_f' hb118 hm
            refine C_skip ?_
            refine E_normal_block ?_
            refine E_then ?_
            refine C_seq ?_
            refine C_region ?_
            refine W_move rfl rfl rfl ?_
            refine W_nilCheck rfl rfl rfl ?_
            refine W_field (o := 1) rfl rfl Proofs.Try.runUnderlying53 rfl Proofs.Try.sizeOf51 rfl rfl rfl ?_
            refine W_load rfl rfl Proofs.Try.isAgg51 rfl (own_at (List.mem_cons_self ..) rfl) ?_
            refine W_move rfl rfl rfl ?_
            obtain ⟨y123, h124, he125, hm⟩ := idx_some hm
            refine W_indexO (List.mem_cons_of_mem _ (List.mem_cons_self ..)) rfl rfl Proofs.Try.runUnderlying51 Proofs.Try.sizeOf57 rfl rfl h124 (List.getElem?_eq_some_iff.1 he125).1 ?_
            obtain ⟨_, rfl, hg126⟩ := (h0).elem he125
            refine W_field (o := 0) rfl rfl Proofs.Try.runUnderlying57 rfl Proofs.Try.sizeOf35 rfl rfl rfl ?_
            refine W_field (o := 3) rfl rfl Proofs.Try.runUnderlying35 rfl Proofs.Try.sizeOf3 rfl rfl rfl ?_
            refine W_load rfl rfl Proofs.Try.isAgg3 rfl (row_one (o := 3) (List.mem_cons_of_mem _ (List.mem_cons_self ..)) hg126 rfl) ?_
            refine W_assign rfl rfl rfl ?_
            refine W_assign rfl rfl rfl ?_
            refine W_assign rfl rfl rfl ?_
            refine W_end ?_
            refine E_then ?_
            refine C_ret ?_
            obtain rfl := Option.some.inj hm
            refine E_weak hle117 ?_
            exact end3 rfl rfl rfl rfl ⟨rfl, rfl, rfl⟩
  · refine C_region ?_
    refine W_move rfl rfl rfl ?_
    refine W_bin rfl rfl rfl rfl rfl ?_
    refine W_move rfl rfl rfl ?_
    cases hb127 : (decide (now < 0))
    · refine W_move rfl rfl rfl ?_
      refine W_bin rfl rfl rfl rfl rfl ?_
      refine W_pick rfl rfl rfl rfl ?_
      refine W_assign rfl rfl rfl ?_
      refine W_end ?_
      exact E_keepJ (J104 _ _ _ ⟨rfl, rfl, rfl⟩) (List.Perm.refl _) ⟨rfl, rfl, rfl, (by show some (Value.bool (decide (200000 < now))) = some (Value.bool ((decide (now < 0)) || (decide (200000 < now)))); simp only [hb127, Bool.and_true, Bool.true_and, Bool.false_and, Bool.and_false, Bool.or_true, Bool.true_or, Bool.or_false, Bool.false_or, Bool.not_true, Bool.not_false]), trivial⟩
    · refine W_no rfl rfl rfl ?_
      refine W_no rfl rfl rfl ?_
      refine W_pick rfl rfl rfl rfl ?_
      refine W_assign rfl rfl rfl ?_
      refine W_end ?_
      exact E_keepJ (J104 _ _ _ ⟨rfl, rfl, rfl⟩) (List.Perm.refl _) ⟨rfl, rfl, rfl, (by show some (Value.bool (true)) = some (Value.bool ((decide (now < 0)) || (decide (200000 < now)))); simp only [hb127, Bool.and_true, Bool.true_and, Bool.false_and, Bool.and_false, Bool.or_true, Bool.true_or, Bool.or_false, Bool.false_or, Bool.not_true, Bool.not_false]), trivial⟩

theorem m_gridhallkeep4_telemetryFact_c {B : Nat} {w0 w : World} {H : Hp} {M : List Res} {r : Bool} (hm : m_gridhallkeep4_telemetryFact = some r) (ht : St B w0 H (M) w) :
    Calls Proofs.Try.prog 11 [].toArray w (Ret B w0 fun H' M' v => H = H' ∧ M = M' ∧ .bool (r) = v) := by
  unfold m_gridhallkeep4_telemetryFact at hm
  refine enter Proofs.Try.func11 rfl rfl rfl ht ?_
  refine C_seq ?_
  refine C_region ?_
  refine W_assign rfl rfl rfl ?_
  refine W_end ?_
  refine E_then ?_
  refine C_seq ?_
  refine C_region ?_
  refine W_call Proofs.Try.call10 rfl rfl rfl (fun w ht => by have h := m_telemetry_New_c (hm := (rfl : m_telemetry_New 10 = _))  ht; exact h) ?_
  rintro _ H112 _ (⟨hn106, hle108, rfl, rfl⟩ | ⟨sp101, hn109, hle111, b102, v103, xs104, rfl, rfl, h105⟩)
  · have hm := optC_n hn106 hm
    refine W_move rfl rfl rfl ?_
    refine W_extract rfl rfl rfl rfl ?_
    refine W_extract rfl rfl rfl rfl ?_
    refine W_assign rfl rfl rfl ?_
    refine W_assign rfl rfl rfl ?_
    refine W_end ?_
    refine E_then ?_
    refine C_seq ?_
    refine C_seq_join (fun H' M' L' => H112 = H' ∧ M = M' ∧ [(1, .pointer none), (17, .bool (true))] = L') ?_ (fun J114 => ?_)
    · rintro _ _ _ ⟨rfl, rfl, rfl⟩
      refine C_cond (b := true) rfl (fun _ => ?_) (fun hb => Bool.noConfusion hb)
      refine C_seq ?_
      refine C_region ?_
      refine W_assign rfl rfl rfl ?_
      refine W_end ?_
      refine E_then ?_
      refine C_ret ?_
      refine E_ret_then ?_
      obtain rfl := Option.some.inj hm
      refine E_weak hle108 ?_
      exact end1 rfl rfl ⟨rfl, rfl, rfl⟩
    · refine C_region ?_
      refine W_move rfl rfl rfl ?_
      refine W_bin rfl rfl rfl rfl rfl ?_
      refine W_move rfl rfl rfl ?_
      cases hb115 : (decide ((((m_telemetry_New 10)).2) = 0))
      · refine W_no rfl rfl rfl ?_
        refine W_no rfl rfl rfl ?_
        refine W_pick rfl rfl rfl rfl ?_
        refine W_end ?_
        exact E_keepJ (J114 _ _ _ ⟨rfl, rfl, rfl⟩) (List.Perm.refl _) ⟨rfl, rfl, trivial⟩
      · refine W_move rfl rfl rfl ?_
        refine W_ptrNil rfl rfl Proofs.Try.runUnderlying29 rfl rfl ?_
        refine W_pick rfl rfl rfl rfl ?_
        refine W_end ?_
        exact E_keepJ (J114 _ _ _ ⟨rfl, rfl, rfl⟩) (List.Perm.refl _) ⟨rfl, rfl, trivial⟩
  · have hm := optC_s hn109 hm
    refine W_move rfl rfl rfl ?_
    refine W_extract rfl rfl rfl rfl ?_
    refine W_extract rfl rfl rfl rfl ?_
    refine W_assign rfl rfl rfl ?_
    refine W_assign rfl rfl rfl ?_
    refine W_end ?_
    refine E_then ?_
    refine C_seq ?_
    refine C_seq_join (fun H' M' L' => H112 = H' ∧ .obj b102 (.cells [.int .i64 (sp101.age), v103].toArray 53 (0, 0)) :: .row v103 57 (Rep.sz S_telemetry_point) sp101.all_.length xs104 :: M = M' ∧ [(1, .pointer (some ⟨b102, 0, none⟩)), (17, .bool (!decide ((((m_telemetry_New 10)).2) = 0)))] = L') ?_ (fun J117 => ?_)
    · rintro _ _ _ ⟨rfl, rfl, rfl⟩
      refine C_cond (b := !decide ((((m_telemetry_New 10)).2) = 0)) rfl (fun hb118 => ?_) (fun hb118 => ?_)
      · have hm := ite_t' hb118 hm
        refine C_seq ?_
        refine C_region ?_
        refine W_assign rfl rfl rfl ?_
        refine W_end ?_
        refine E_then ?_
        refine C_ret ?_
        refine E_ret_then ?_
        obtain rfl := Option.some.inj hm
        refine E_drop (List.Sublist.cons _ (List.Sublist.cons _ (List.Sublist.refl _))) ?_
        refine E_weak hle111 ?_
        exact end1 rfl rfl ⟨rfl, rfl, rfl⟩
      · have hm := ite_f' hb118 hm
        refine C_skip ?_
        refine E_then ?_
        refine C_seq ?_
        refine C_region ?_
        refine W_move rfl rfl rfl ?_
        refine W_build (css := [[.string (⟨#[65]⟩)], [.int .i64 (3)], [.int .i64 (100)], [.int .i64 (7)]]) (zs := [.string (⟨#[]⟩), .int .i64 (0), .int .i64 (0), .int .i64 (0)]) (out := [.string (⟨#[65]⟩), .int .i64 (3), .int .i64 (100), .int .i64 (7)]) (places := [(0, 1), (1, 1), (2, 1), (3, 1)]) rfl rfl rfl ⟨rfl, rfl, rfl, rfl, trivial⟩ Proofs.Try.zeroValue35 rfl Proofs.Try.runUnderlying35 (fun w => by kernel_rfl) rfl ?_
        obtain ⟨r119, hc120, hm⟩ := bind_some hm
        refine W_call Proofs.Try.call12 rfl rfl rfl (fun w ht => by have h := m_telemetry_Points_Take_c (hm := hc120) h105 ht; exact h) ?_
        rintro _ _ _ ⟨rfl, v122, xs123, rfl, rfl, h124⟩
        have h124 := h124 H112
        refine W_move rfl rfl rfl ?_
        refine W_extract rfl rfl rfl rfl ?_
        refine W_extract rfl rfl rfl rfl ?_
        refine W_assign rfl rfl rfl ?_
        refine W_assign rfl rfl rfl ?_
        refine W_end ?_
        refine E_then ?_
        refine C_seq ?_
        refine C_region ?_
        refine W_move rfl rfl rfl ?_
        obtain ⟨r125, hc126, hm⟩ := bind_some hm
        refine W_call Proofs.Try.call15 rfl rfl rfl (fun w ht => by have h := m_telemetry_Points_Value_c (hm := hc126) h124 ht; exact h) ?_
        rintro _ _ _ ⟨rfl, rfl, rfl⟩
        refine W_move rfl rfl rfl ?_
        refine W_extract rfl rfl rfl rfl ?_
        refine W_extract rfl rfl rfl rfl ?_
        refine W_extract rfl rfl rfl rfl ?_
        refine W_assign rfl rfl rfl ?_
        refine W_assign rfl rfl rfl ?_
        refine W_assign rfl rfl rfl ?_
        refine W_end ?_
        refine E_then ?_
        refine C_seq_join (fun H' M' L' => H112 = H' ∧ M = M' ∧ [(0, .bool ((((r119.1 && (decide (r119.2.1 = 0))) && (decide (r125.2.2 = 0))) && (decide (r125.1 = 7))) && (decide (r125.2.1 = 1))))] = L') ?_ (fun J131 => ?_)
        · rintro _ _ _ ⟨rfl, rfl, rfl⟩
          refine C_ret ?_
          obtain rfl := Option.some.inj hm
          refine E_weak hle111 ?_
          exact end1 rfl rfl ⟨rfl, rfl, rfl⟩
        · refine C_region ?_
          refine W_move rfl rfl rfl ?_
          refine W_move rfl rfl rfl ?_
          cases hb132 : (r119.1)
          · refine W_no rfl rfl rfl ?_
            refine W_no rfl rfl rfl ?_
            refine W_pick rfl rfl rfl rfl ?_
            refine W_move rfl rfl rfl ?_
            refine W_no rfl rfl rfl ?_
            refine W_no rfl rfl rfl ?_
            refine W_pick rfl rfl rfl rfl ?_
            refine W_move rfl rfl rfl ?_
            refine W_no rfl rfl rfl ?_
            refine W_no rfl rfl rfl ?_
            refine W_pick rfl rfl rfl rfl ?_
            refine W_move rfl rfl rfl ?_
            refine W_no rfl rfl rfl ?_
            refine W_no rfl rfl rfl ?_
            refine W_pick rfl rfl rfl rfl ?_
            refine W_assign rfl rfl rfl ?_
            refine W_end ?_
            refine E_drop (List.Sublist.cons _ (List.Sublist.cons _ (List.Sublist.refl _))) ?_
            exact E_keepJ (J131 _ _ _ ⟨rfl, rfl, rfl⟩) (List.Perm.refl _) ⟨(by show some (Value.bool (false)) = some (Value.bool ((((r119.1 && (decide (r119.2.1 = 0))) && (decide (r125.2.2 = 0))) && (decide (r125.1 = 7))) && (decide (r125.2.1 = 1)))); simp only [hb118, hb132, Bool.and_true, Bool.true_and, Bool.false_and, Bool.and_false, Bool.or_true, Bool.true_or, Bool.or_false, Bool.false_or, Bool.not_true, Bool.not_false]), trivial⟩
          · refine W_move rfl rfl rfl ?_
            refine W_bin rfl rfl rfl rfl rfl ?_
            refine W_pick rfl rfl rfl rfl ?_
            refine W_move rfl rfl rfl ?_
            cases hb133 : (decide (r119.2.1 = 0))
            · refine W_no rfl rfl rfl ?_
              refine W_no rfl rfl rfl ?_
              refine W_pick rfl rfl rfl rfl ?_
              refine W_move rfl rfl rfl ?_
              refine W_no rfl rfl rfl ?_
              refine W_no rfl rfl rfl ?_
              refine W_pick rfl rfl rfl rfl ?_
              refine W_move rfl rfl rfl ?_
              refine W_no rfl rfl rfl ?_
              refine W_no rfl rfl rfl ?_
              refine W_pick rfl rfl rfl rfl ?_
              refine W_assign rfl rfl rfl ?_
              refine W_end ?_
              refine E_drop (List.Sublist.cons _ (List.Sublist.cons _ (List.Sublist.refl _))) ?_
              exact E_keepJ (J131 _ _ _ ⟨rfl, rfl, rfl⟩) (List.Perm.refl _) ⟨(by show some (Value.bool (false)) = some (Value.bool ((((r119.1 && (decide (r119.2.1 = 0))) && (decide (r125.2.2 = 0))) && (decide (r125.1 = 7))) && (decide (r125.2.1 = 1)))); simp only [hb118, hb132, hb133, Bool.and_true, Bool.true_and, Bool.false_and, Bool.and_false, Bool.or_true, Bool.true_or, Bool.or_false, Bool.false_or, Bool.not_true, Bool.not_false]), trivial⟩
            · refine W_move rfl rfl rfl ?_
              refine W_bin rfl rfl rfl rfl rfl ?_
              refine W_pick rfl rfl rfl rfl ?_
              refine W_move rfl rfl rfl ?_
              cases hb134 : (decide (r125.2.2 = 0))
              · refine W_no rfl rfl rfl ?_
                refine W_no rfl rfl rfl ?_
                refine W_pick rfl rfl rfl rfl ?_
                refine W_move rfl rfl rfl ?_
                refine W_no rfl rfl rfl ?_
                refine W_no rfl rfl rfl ?_
                refine W_pick rfl rfl rfl rfl ?_
                refine W_assign rfl rfl rfl ?_
                refine W_end ?_
                refine E_drop (List.Sublist.cons _ (List.Sublist.cons _ (List.Sublist.refl _))) ?_
                exact E_keepJ (J131 _ _ _ ⟨rfl, rfl, rfl⟩) (List.Perm.refl _) ⟨(by show some (Value.bool (false)) = some (Value.bool ((((r119.1 && (decide (r119.2.1 = 0))) && (decide (r125.2.2 = 0))) && (decide (r125.1 = 7))) && (decide (r125.2.1 = 1)))); simp only [hb118, hb132, hb133, hb134, Bool.and_true, Bool.true_and, Bool.false_and, Bool.and_false, Bool.or_true, Bool.true_or, Bool.or_false, Bool.false_or, Bool.not_true, Bool.not_false]), trivial⟩
              · refine W_move rfl rfl rfl ?_
                refine W_bin rfl rfl rfl rfl rfl ?_
                refine W_pick rfl rfl rfl rfl ?_
                refine W_move rfl rfl rfl ?_
                cases hb135 : (decide (r125.1 = 7))
                · refine W_no rfl rfl rfl ?_
                  refine W_no rfl rfl rfl ?_
                  refine W_pick rfl rfl rfl rfl ?_
                  refine W_assign rfl rfl rfl ?_
                  refine W_end ?_
                  refine E_drop (List.Sublist.cons _ (List.Sublist.cons _ (List.Sublist.refl _))) ?_
                  exact E_keepJ (J131 _ _ _ ⟨rfl, rfl, rfl⟩) (List.Perm.refl _) ⟨(by show some (Value.bool (false)) = some (Value.bool ((((r119.1 && (decide (r119.2.1 = 0))) && (decide (r125.2.2 = 0))) && (decide (r125.1 = 7))) && (decide (r125.2.1 = 1)))); simp only [hb118, hb132, hb133, hb134, hb135, Bool.and_true, Bool.true_and, Bool.false_and, Bool.and_false, Bool.or_true, Bool.true_or, Bool.or_false, Bool.false_or, Bool.not_true, Bool.not_false]), trivial⟩
                · refine W_move rfl rfl rfl ?_
                  refine W_bin rfl rfl rfl rfl rfl ?_
                  refine W_pick rfl rfl rfl rfl ?_
                  refine W_assign rfl rfl rfl ?_
                  refine W_end ?_
                  refine E_drop (List.Sublist.cons _ (List.Sublist.cons _ (List.Sublist.refl _))) ?_
                  exact E_keepJ (J131 _ _ _ ⟨rfl, rfl, rfl⟩) (List.Perm.refl _) ⟨(by show some (Value.bool (decide (r125.2.1 = 1))) = some (Value.bool ((((r119.1 && (decide (r119.2.1 = 0))) && (decide (r125.2.2 = 0))) && (decide (r125.1 = 7))) && (decide (r125.2.1 = 1)))); simp only [hb118, hb132, hb133, hb134, hb135, Bool.and_true, Bool.true_and, Bool.false_and, Bool.and_false, Bool.or_true, Bool.true_or, Bool.or_false, Bool.false_or, Bool.not_true, Bool.not_false]), trivial⟩
    · refine C_region ?_
      refine W_move rfl rfl rfl ?_
      refine W_bin rfl rfl rfl rfl rfl ?_
      refine W_move rfl rfl rfl ?_
      cases hb136 : (decide ((((m_telemetry_New 10)).2) = 0))
      · refine W_no rfl rfl rfl ?_
        refine W_no rfl rfl rfl ?_
        refine W_pick rfl rfl rfl rfl ?_
        refine W_end ?_
        exact E_keepJ (J117 _ _ _ ⟨rfl, rfl, rfl⟩) (List.Perm.refl _) ⟨rfl, (by show some (Value.bool (true)) = some (Value.bool (!decide ((((m_telemetry_New 10)).2) = 0))); simp only [hb136, Bool.and_true, Bool.true_and, Bool.false_and, Bool.and_false, Bool.or_true, Bool.true_or, Bool.or_false, Bool.false_or, Bool.not_true, Bool.not_false]), trivial⟩
      · refine W_move rfl rfl rfl ?_
        refine W_ptrNil rfl rfl Proofs.Try.runUnderlying29 rfl rfl ?_
        refine W_pick rfl rfl rfl rfl ?_
        refine W_end ?_
        exact E_keepJ (J117 _ _ _ ⟨rfl, rfl, rfl⟩) (List.Perm.refl _) ⟨rfl, (by show some (Value.bool (false)) = some (Value.bool (!decide ((((m_telemetry_New 10)).2) = 0))); simp only [hb136, Bool.and_true, Bool.true_and, Bool.false_and, Bool.and_false, Bool.or_true, Bool.true_or, Bool.or_false, Bool.false_or, Bool.not_true, Bool.not_false]), trivial⟩

theorem m_gridhallref4_Cut_c {B : Nat} {w0 w : World} {H : Hp} {M : List Res} {p0_n : Int} {p1_low : Int} {p2_high : Int} {r : Int} (hm : m_gridhallref4_Cut p0_n p1_low p2_high = some r) (ht : St B w0 H (M) w) :
    Calls Proofs.Try.prog 13 [.int .i64 (p0_n), .int .i64 (p1_low), .int .i64 (p2_high)].toArray w (Ret B w0 fun H' M' v => H = H' ∧ M = M' ∧ .int .i64 (r) = v) := by
  unfold m_gridhallref4_Cut at hm
  refine enter Proofs.Try.func13 rfl rfl rfl ht ?_
  refine C_seq ?_
  refine C_region ?_
  refine W_assign rfl rfl rfl ?_
  refine W_end ?_
  refine E_then ?_
  refine C_seq ?_
  refine C_region ?_
  refine W_move rfl rfl rfl ?_
  refine W_move rfl rfl rfl ?_
  refine W_bin rfl rfl rfl rfl rfl ?_
  refine W_bin rfl rfl rfl rfl rfl ?_
  refine W_assign rfl rfl rfl ?_
  refine W_end ?_
  refine E_then ?_
  refine C_seq ?_
  refine C_region ?_
  refine W_move rfl rfl rfl ?_
  refine W_move rfl rfl rfl ?_
  obtain ⟨hq101, hm⟩ := need_some hm
  refine W_rem rfl rfl rfl rfl hq101 ?_
  refine W_assign rfl rfl rfl ?_
  refine W_end ?_
  refine E_then ?_
  refine C_seq_join (fun H' M' L' => ∃ n103 : Int, m_gridhallref4_Cut_b1 p1_low n103 = some r ∧ H = H' ∧ M = M' ∧ [(0, .int .i64 (n103)), (1, .int .i64 (p1_low))] = L') ?_ (fun J104 => ?_)
  · rintro _ _ _ ⟨n103, hm, rfl, rfl, rfl⟩
    unfold m_gridhallref4_Cut_b1 at hm
    refine C_seq ?_
    refine C_region ?_
    refine W_move rfl rfl rfl ?_
    refine W_move rfl rfl rfl ?_
    refine W_bin rfl rfl rfl rfl rfl ?_
    refine W_assign rfl rfl rfl ?_
    refine W_end ?_
    refine E_then ?_
    refine C_ret ?_
    obtain rfl := Option.some.inj hm
    refine E_weak (Hp.le_refl _) ?_
    exact end1 rfl rfl ⟨rfl, rfl, rfl⟩
  · refine C_seq ?_
    refine C_region ?_
    refine W_move rfl rfl rfl ?_
    refine W_bin rfl rfl rfl rfl rfl ?_
    refine W_end ?_
    refine E_then ?_
    refine C_cond (b := decide ((Int.tmod p0_n (IntKind.i64.wrap ((IntKind.i64.wrap (p2_high - p1_low)) + 1))) < 0)) rfl (fun hb105 => ?_) (fun hb105 => ?_)
    · have hm := ite_t' hb105 hm
      refine C_region ?_
      refine W_move rfl rfl rfl ?_
      refine W_move rfl rfl rfl ?_
      refine W_bin rfl rfl rfl rfl rfl ?_
      refine W_assign rfl rfl rfl ?_
      refine W_end ?_
      exact E_keepJ (J104 _ _ _ ⟨IntKind.i64.wrap ((Int.tmod p0_n (IntKind.i64.wrap ((IntKind.i64.wrap (p2_high - p1_low)) + 1))) + (IntKind.i64.wrap ((IntKind.i64.wrap (p2_high - p1_low)) + 1))), hm, rfl, rfl, rfl⟩) (List.Perm.refl _) ⟨rfl, rfl, trivial⟩
    · have hm := ite_f' hb105 hm
      refine C_skip ?_
      exact E_keepJ (J104 _ _ _ ⟨Int.tmod p0_n (IntKind.i64.wrap ((IntKind.i64.wrap (p2_high - p1_low)) + 1)), hm, rfl, rfl, rfl⟩) (List.Perm.refl _) ⟨rfl, rfl, trivial⟩

theorem m_math_bits_Len64_c {B : Nat} {w0 w : World} {H : Hp} {M : List Res} {p0_x : Int} {r : Int} (hm : m_math_bits_Len64 p0_x = some r) (ht : St B w0 H (M) w) :
    Calls Proofs.Try.prog 44 [.int .u64 (p0_x)].toArray w (Ret B w0 fun H' M' v => H = H' ∧ M = M' ∧ .int .i64 (r) = v) := by
  unfold m_math_bits_Len64 at hm
  refine enter Proofs.Try.func44 rfl rfl rfl ht ?_
  refine C_seq ?_
  refine C_region ?_
  refine W_assign rfl rfl rfl ?_
  refine W_end ?_
  refine E_then ?_
  refine C_seq_join (fun H' M' L' => ∃ n102 : Int, ∃ n103 : Int, m_math_bits_Len64_b3 n102 n103 = some r ∧ H = H' ∧ M = M' ∧ [(0, .int .u64 (n102)), (2, .int .i64 (n103))] = L') ?_ (fun J104 => ?_)
  · rintro _ _ _ ⟨n102, n103, hm, rfl, rfl, rfl⟩
    unfold m_math_bits_Len64_b3 at hm
    refine C_seq_join (fun H' M' L' => ∃ n106 : Int, ∃ n107 : Int, m_math_bits_Len64_b2 n106 n107 = some r ∧ H = H' ∧ M = M' ∧ [(0, .int .u64 (n106)), (2, .int .i64 (n107))] = L') ?_ (fun J108 => ?_)
    · rintro _ _ _ ⟨n106, n107, hm, rfl, rfl, rfl⟩
      unfold m_math_bits_Len64_b2 at hm
      refine C_seq_join (fun H' M' L' => ∃ n110 : Int, ∃ n111 : Int, m_math_bits_Len64_b1 n110 n111 = some r ∧ H = H' ∧ M = M' ∧ [(0, .int .u64 (n110)), (2, .int .i64 (n111))] = L') ?_ (fun J112 => ?_)
      · rintro _ _ _ ⟨n110, n111, hm, rfl, rfl, rfl⟩
        unfold m_math_bits_Len64_b1 at hm
        refine C_seq ?_
        refine C_region ?_
        refine W_move rfl rfl rfl ?_
        refine W_move rfl rfl rfl ?_
        refine W_convInt rfl rfl Proofs.Try.runUnderlying78 Proofs.Try.runUnderlying5 rfl ?_
        obtain ⟨y113, h114, he115, hm⟩ := idx_some hm
        refine W_indexStr rfl rfl Proofs.Try.runUnderlying9 rfl rfl h114 he115 ?_
        refine W_convInt rfl rfl Proofs.Try.runUnderlying5 Proofs.Try.runUnderlying3 rfl ?_
        refine W_bin rfl rfl rfl rfl rfl ?_
        refine W_assign rfl rfl rfl ?_
        refine W_end ?_
        refine E_then ?_
        refine C_ret ?_
        obtain rfl := Option.some.inj hm
        refine E_weak (Hp.le_refl _) ?_
        exact end1 rfl rfl ⟨rfl, rfl, rfl⟩
      · refine C_seq ?_
        refine C_region ?_
        refine W_move rfl rfl rfl ?_
        refine W_bin rfl rfl rfl rfl rfl ?_
        refine W_end ?_
        refine E_then ?_
        refine C_cond (b := decide (256 ≤ n106)) rfl (fun hb116 => ?_) (fun hb116 => ?_)
        · have hm := ite_t' hb116 hm
          refine C_seq ?_
          refine C_region ?_
          refine W_move rfl rfl rfl ?_
          refine W_shr rfl rfl rfl rfl (by decide) ?_
          refine W_assign rfl rfl rfl ?_
          refine W_end ?_
          refine E_then ?_
          refine C_region ?_
          refine W_move rfl rfl rfl ?_
          refine W_bin rfl rfl rfl rfl rfl ?_
          refine W_assign rfl rfl rfl ?_
          refine W_end ?_
          exact E_keepJ (J112 _ _ _ ⟨shrV .u64 n106 8, IntKind.i64.wrap (n107 + 8), hm, rfl, rfl, rfl⟩) (List.Perm.refl _) ⟨rfl, rfl, trivial⟩
        · have hm := ite_f' hb116 hm
          refine C_skip ?_
          exact E_keepJ (J112 _ _ _ ⟨n106, n107, hm, rfl, rfl, rfl⟩) (List.Perm.refl _) ⟨rfl, rfl, trivial⟩
    · refine C_seq ?_
      refine C_region ?_
      refine W_move rfl rfl rfl ?_
      refine W_bin rfl rfl rfl rfl rfl ?_
      refine W_end ?_
      refine E_then ?_
      refine C_cond (b := decide (65536 ≤ n102)) rfl (fun hb117 => ?_) (fun hb117 => ?_)
      · have hm := ite_t' hb117 hm
        refine C_seq ?_
        refine C_region ?_
        refine W_move rfl rfl rfl ?_
        refine W_shr rfl rfl rfl rfl (by decide) ?_
        refine W_assign rfl rfl rfl ?_
        refine W_end ?_
        refine E_then ?_
        refine C_region ?_
        refine W_move rfl rfl rfl ?_
        refine W_bin rfl rfl rfl rfl rfl ?_
        refine W_assign rfl rfl rfl ?_
        refine W_end ?_
        exact E_keepJ (J108 _ _ _ ⟨shrV .u64 n102 16, IntKind.i64.wrap (n103 + 16), hm, rfl, rfl, rfl⟩) (List.Perm.refl _) ⟨rfl, rfl, trivial⟩
      · have hm := ite_f' hb117 hm
        refine C_skip ?_
        exact E_keepJ (J108 _ _ _ ⟨n102, n103, hm, rfl, rfl, rfl⟩) (List.Perm.refl _) ⟨rfl, rfl, trivial⟩
  · refine C_seq ?_
    refine C_region ?_
    refine W_move rfl rfl rfl ?_
    refine W_bin rfl rfl rfl rfl rfl ?_
    refine W_end ?_
    refine E_then ?_
    refine C_cond (b := decide (4294967296 ≤ p0_x)) rfl (fun hb118 => ?_) (fun hb118 => ?_)
    · have hm := ite_t' hb118 hm
      refine C_seq ?_
      refine C_region ?_
      refine W_move rfl rfl rfl ?_
      refine W_shr rfl rfl rfl rfl (by decide) ?_
      refine W_assign rfl rfl rfl ?_
      refine W_end ?_
      refine E_then ?_
      refine C_region ?_
      refine W_assign rfl rfl rfl ?_
      refine W_end ?_
      exact E_keepJ (J104 _ _ _ ⟨shrV .u64 p0_x 32, 32, hm, rfl, rfl, rfl⟩) (List.Perm.refl _) ⟨rfl, rfl, trivial⟩
    · have hm := ite_f' hb118 hm
      refine C_skip ?_
      exact E_keepJ (J104 _ _ _ ⟨p0_x, 0, hm, rfl, rfl, rfl⟩) (List.Perm.refl _) ⟨rfl, rfl, trivial⟩

theorem m_math_bits_Len_c {B : Nat} {w0 w : World} {H : Hp} {M : List Res} {p0_x : Int} {r : Int} (hm : m_math_bits_Len p0_x = some r) (ht : St B w0 H (M) w) :
    Calls Proofs.Try.prog 28 [.int .u64 (p0_x)].toArray w (Ret B w0 fun H' M' v => H = H' ∧ M = M' ∧ .int .i64 (r) = v) := by
  unfold m_math_bits_Len at hm
  refine enter Proofs.Try.func28 rfl rfl rfl ht ?_
  refine C_seq ?_
  refine C_region ?_
  refine W_assign rfl rfl rfl ?_
  refine W_end ?_
  refine E_then ?_
  refine C_seq ?_
  refine C_cond (b := false) rfl (fun hb => Bool.noConfusion hb) (fun _ => ?_)
  refine C_skip ?_
  refine E_then ?_
  refine C_seq ?_
  refine C_region ?_
  refine W_move rfl rfl rfl ?_
  obtain ⟨r101, hc102, hm⟩ := bind_some hm
  refine W_call Proofs.Try.call44 rfl rfl rfl (fun w ht => by have h := m_math_bits_Len64_c (hm := hc102)  ht; exact h) ?_
  rintro _ _ _ ⟨rfl, rfl, rfl⟩
  refine W_assign rfl rfl rfl ?_
  refine W_end ?_
  refine E_then ?_
  refine C_ret ?_
  obtain rfl := Option.some.inj hm
  refine E_weak (Hp.le_refl _) ?_
  exact end1 rfl rfl ⟨rfl, rfl, rfl⟩

theorem m_internal_bytealg_CompareString_c {B : Nat} {w0 w : World} {H : Hp} {M : List Res} {p0_a : ByteArray} {p1_b : ByteArray} {r : Int} (hm : m_internal_bytealg_CompareString p0_a p1_b = r) (ht : St B w0 H (M) w) :
    Calls Proofs.Try.prog 34 [.string (p0_a), .string (p1_b)].toArray w (Ret B w0 fun H' M' v => H = H' ∧ M = M' ∧ .int .i64 (r) = v) := by
  unfold m_internal_bytealg_CompareString at hm
  refine enter Proofs.Try.func34 rfl rfl rfl ht ?_
  refine C_seq ?_
  refine C_region ?_
  refine W_assign rfl rfl rfl ?_
  refine W_end ?_
  refine E_then ?_
  refine C_seq ?_
  refine C_region ?_
  refine W_move rfl rfl rfl ?_
  refine W_move rfl rfl rfl ?_
  refine W_extern (cmpS_extern Proofs.Try.func53 (by kernel_rfl) (by kernel_rfl) (by kernel_rfl) (by kernel_rfl) _ _) rfl rfl rfl ?_
  refine W_assign rfl rfl rfl ?_
  refine W_end ?_
  refine E_then ?_
  refine C_ret ?_
  obtain rfl := hm
  refine E_weak (Hp.le_refl _) ?_
  exact end1 rfl rfl ⟨rfl, rfl, rfl⟩

theorem m_strings_Compare_c {B : Nat} {w0 w : World} {H : Hp} {M : List Res} {p0_a : ByteArray} {p1_b : ByteArray} {r : Int} (hm : m_strings_Compare p0_a p1_b = r) (ht : St B w0 H (M) w) :
    Calls Proofs.Try.prog 26 [.string (p0_a), .string (p1_b)].toArray w (Ret B w0 fun H' M' v => H = H' ∧ M = M' ∧ .int .i64 (r) = v) := by
  unfold m_strings_Compare at hm
  refine enter Proofs.Try.func26 rfl rfl rfl ht ?_
  refine C_seq ?_
  refine C_region ?_
  refine W_assign rfl rfl rfl ?_
  refine W_end ?_
  refine E_then ?_
  refine C_seq ?_
  refine C_region ?_
  refine W_move rfl rfl rfl ?_
  refine W_move rfl rfl rfl ?_
  refine W_call Proofs.Try.call34 rfl rfl rfl (fun w ht => by have h := m_internal_bytealg_CompareString_c (hm := (rfl : m_internal_bytealg_CompareString p0_a p1_b = _))  ht; exact h) ?_
  rintro _ _ _ ⟨rfl, rfl, rfl⟩
  refine W_assign rfl rfl rfl ?_
  refine W_end ?_
  refine E_then ?_
  refine C_ret ?_
  obtain rfl := hm
  refine E_weak (Hp.le_refl _) ?_
  exact end1 rfl rfl ⟨rfl, rfl, rfl⟩

theorem m_telemetry_Points_List_1_c {B : Nat} {w0 w : World} {H : Hp} {M : List Res} {p0_a : S_api_TelemetryMsg} {p1_b : S_api_TelemetryMsg} {r : Int} (hm : m_telemetry_Points_List_1 p0_a p1_b = r) (ht : St B w0 H (M) w) :
    Calls Proofs.Try.prog 25 [.agg [.string (p0_a.Point), .int .i64 (p0_a.Number), .int .i64 (p0_a.Time), .int .i64 (p0_a.Value)].toArray, .agg [.string (p1_b.Point), .int .i64 (p1_b.Number), .int .i64 (p1_b.Time), .int .i64 (p1_b.Value)].toArray].toArray w (Ret B w0 fun H' M' v => H = H' ∧ M = M' ∧ .int .i64 (r) = v) := by
  unfold m_telemetry_Points_List_1 at hm
  refine enter Proofs.Try.func25 rfl rfl rfl ht ?_
  refine C_seq ?_
  refine C_region ?_
  refine W_box (cs := [.string (p0_a.Point), .int .i64 (p0_a.Number), .int .i64 (p0_a.Time), .int .i64 (p0_a.Value)]) rfl rfl rfl rfl (fun b101 => ?_)
  refine W_box (cs := [.string (p1_b.Point), .int .i64 (p1_b.Number), .int .i64 (p1_b.Time), .int .i64 (p1_b.Value)]) rfl rfl rfl rfl (fun b102 => ?_)
  refine W_assign rfl rfl rfl ?_
  refine W_end ?_
  refine E_then ?_
  refine C_seq ?_
  refine C_region ?_
  refine W_field (o := 0) rfl rfl Proofs.Try.runUnderlying35 rfl Proofs.Try.sizeOf9 rfl rfl rfl ?_
  refine W_load rfl rfl Proofs.Try.isAgg9 rfl (own_at (List.mem_cons_of_mem _ (List.mem_cons_self ..)) rfl) ?_
  refine W_field (o := 0) rfl rfl Proofs.Try.runUnderlying35 rfl Proofs.Try.sizeOf9 rfl rfl rfl ?_
  refine W_load rfl rfl Proofs.Try.isAgg9 rfl (own_at (List.mem_cons_self ..) rfl) ?_
  refine W_call Proofs.Try.call26 rfl rfl rfl (fun w ht => by have h := m_strings_Compare_c (hm := (rfl : m_strings_Compare p0_a.Point p1_b.Point = _))  ht; exact h) ?_
  rintro _ _ _ ⟨rfl, rfl, rfl⟩
  refine W_assign rfl rfl rfl ?_
  refine W_end ?_
  refine E_then ?_
  refine C_ret ?_
  obtain rfl := hm
  refine E_drop (List.Sublist.cons _ (List.Sublist.cons _ (List.Sublist.refl _))) ?_
  refine E_weak (Hp.le_refl _) ?_
  exact end1 rfl rfl ⟨rfl, rfl, rfl⟩

theorem m_slices_insertionSortCmpFunc_api_TelemetryMsg__telemetry_Points_List_1_c {B : Nat} {w0 w : World} {H : Hp} {M : List Res} {data : (List S_api_TelemetryMsg)} {p1_a : Int} {p2_b : Int} {v0 : Value} {xs0 : List Value} {r : (List S_api_TelemetryMsg)} (hm : m_slices_insertionSortCmpFunc_api_TelemetryMsg__telemetry_Points_List_1 data p1_a p2_b = some r) (h0 : Rw H v0 xs0 data) (ht : St B w0 H (.row v0 35 (Rep.sz S_api_TelemetryMsg) data.length xs0 :: M) w) :
    Calls Proofs.Try.prog 45 [v0, .int .i64 (p1_a), .int .i64 (p2_b), .func (.func 25) [].toArray [].toArray].toArray w (Ret B w0 fun H' M' v => H = H' ∧ ∃ qxs0 : List Value, .row v0 35 (Rep.sz S_api_TelemetryMsg) r.length qxs0 :: M = M' ∧ .tuple #[] = v ∧ RwF v0 qxs0 r) := by
  unfold m_slices_insertionSortCmpFunc_api_TelemetryMsg__telemetry_Points_List_1 at hm
  refine enter Proofs.Try.func45 rfl rfl rfl ht ?_
  refine C_seq ?_
  refine C_region ?_
  refine W_move rfl rfl rfl ?_
  refine W_bin rfl rfl rfl rfl rfl ?_
  refine W_assign rfl rfl rfl ?_
  refine W_end ?_
  refine E_then ?_
  refine C_block ?_
  refine C_keep (L' := [(0, v0), (1, .int .i64 (p1_a)), (2, .int .i64 (p2_b)), (3, .func (.func 25) [].toArray [].toArray), (8, .int .i64 (IntKind.i64.wrap (p1_a + 1)))]) ⟨rfl, rfl, rfl, rfl, rfl, trivial⟩ (List.Perm.refl _) ?_
  refine C_loop (fun n H' M' L' => ∃ l443 : List S_api_TelemetryMsg, ∃ n445 : Int, ∃ xs442 : List Value, loopF (fun s448 n => m_slices_insertionSortCmpFunc_api_TelemetryMsg__telemetry_Points_List_1_b3 p1_a p2_b s448.1 s448.2 n) n (l443, n445) = some r ∧ Rw H' v0 xs442 l443 ∧ H.le H' ∧ .row v0 35 (Rep.sz S_api_TelemetryMsg) l443.length xs442 :: M = M' ∧ [(0, v0), (1, .int .i64 (p1_a)), (2, .int .i64 (p2_b)), (3, .func (.func 25) [].toArray [].toArray), (8, .int .i64 (n445))] = L') FUEL ⟨data, IntKind.i64.wrap (p1_a + 1), xs0, hm, h0, (Hp.le_refl _), rfl, rfl⟩ ?_
  rintro n451 H446 _ _ ⟨l443, n445, xs442, hm, hr444, hle447, rfl, rfl⟩
  cases n451 with
  | zero => cases hm
  | succ n451 =>
    have hm : m_slices_insertionSortCmpFunc_api_TelemetryMsg__telemetry_Points_List_1_b3 p1_a p2_b l443 n445 (loopF (fun s448 n => m_slices_insertionSortCmpFunc_api_TelemetryMsg__telemetry_Points_List_1_b3 p1_a p2_b s448.1 s448.2 n) n451) = some r := hm
    generalize hn450 : loopF (fun s448 n => m_slices_insertionSortCmpFunc_api_TelemetryMsg__telemetry_Points_List_1_b3 p1_a p2_b s448.1 s448.2 n) n451 = nx449 at hm
    unfold m_slices_insertionSortCmpFunc_api_TelemetryMsg__telemetry_Points_List_1_b3 at hm
    refine C_seq ?_
    refine C_seq ?_
    refine C_region ?_
    refine W_move rfl rfl rfl ?_
    refine W_move rfl rfl rfl ?_
    refine W_bin rfl rfl rfl rfl rfl ?_
    refine W_end ?_
    refine E_then ?_
    refine C_cond (b := decide (n445 < p2_b)) rfl (fun hb457 => ?_) (fun hb457 => ?_)
    · have hm := ite_t' hb457 hm
      refine C_skip ?_
      refine E_then ?_
      refine C_seq ?_
      refine C_block ?_
      refine C_seq ?_
      refine C_region ?_
      refine W_move rfl rfl rfl ?_
      refine W_assign rfl rfl rfl ?_
      refine W_end ?_
      refine E_then ?_
      refine C_block ?_
      refine C_keep (L' := [(0, v0), (1, .int .i64 (p1_a)), (2, .int .i64 (p2_b)), (3, .func (.func 25) [].toArray [].toArray), (8, .int .i64 (n445)), (9, .int .i64 (n445))]) ⟨rfl, rfl, rfl, rfl, rfl, rfl, trivial⟩ (List.Perm.refl _) ?_
      refine C_loop (fun n H' M' L' => ∃ l562 : List S_api_TelemetryMsg, ∃ n564 : Int, ∃ xs561 : List Value, loopF (fun s567 n => m_slices_insertionSortCmpFunc_api_TelemetryMsg__telemetry_Points_List_1_b4 p1_a n445 nx449 s567.1 s567.2 n) n (l562, n564) = some r ∧ Rw H' v0 xs561 l562 ∧ H446.le H' ∧ .row v0 35 (Rep.sz S_api_TelemetryMsg) l562.length xs561 :: M = M' ∧ [(0, v0), (1, .int .i64 (p1_a)), (2, .int .i64 (p2_b)), (3, .func (.func 25) [].toArray [].toArray), (8, .int .i64 (n445)), (9, .int .i64 (n564))] = L') FUEL ⟨l443, n445, xs442, hm, hr444, (Hp.le_refl _), rfl, rfl⟩ ?_
      rintro n570 H565 _ _ ⟨l562, n564, xs561, hm, hr563, hle566, rfl, rfl⟩
      cases n570 with
      | zero => cases hm
      | succ n570 =>
        have hm : m_slices_insertionSortCmpFunc_api_TelemetryMsg__telemetry_Points_List_1_b4 p1_a n445 nx449 l562 n564 (loopF (fun s567 n => m_slices_insertionSortCmpFunc_api_TelemetryMsg__telemetry_Points_List_1_b4 p1_a n445 nx449 s567.1 s567.2 n) n570) = some r := hm
        generalize hn569 : loopF (fun s567 n => m_slices_insertionSortCmpFunc_api_TelemetryMsg__telemetry_Points_List_1_b4 p1_a n445 nx449 s567.1 s567.2 n) n570 = nx568 at hm
        unfold m_slices_insertionSortCmpFunc_api_TelemetryMsg__telemetry_Points_List_1_b4 at hm
        refine C_seq ?_
        refine C_seq ?_
        cases hb576 : (decide (p1_a < n564))
        · have hm := ite_f' hb576 hm
          refine C_region_tok0 14 (phiT [(fun H rs v => [] = rs ∧ .int .i64 (n564) = v), (fun H rs v => [] = rs ∧ .int .i64 (p1_a) = v), (fun H rs v => [] = rs ∧ .bool (false) = v), (fun H rs v => [] = rs ∧ .bool (false) = v), (fun H rs v => [] = rs ∧ undef = v), (fun H rs v => [] = rs ∧ undef = v), (fun H rs v => [] = rs ∧ undef = v), (fun H rs v => [] = rs ∧ undef = v), (fun H rs v => [] = rs ∧ undef = v), (fun H rs v => [] = rs ∧ undef = v), (fun H rs v => [] = rs ∧ undef = v), (fun H rs v => [] = rs ∧ undef = v), (fun H rs v => [] = rs ∧ undef = v), (fun H rs v => [] = rs ∧ undef = v)]) [[], [], [], [], [], [], [], [], [], [], [], [], [], []] [[], [], [], [], [], [], [], [], [], [], [], [], [], []] [] [0, 1, 2, 3, 4, 5, 6, 7, 8, 9, 10, 11, 12, 13] Facts.mixed (by kernel_rfl) rfl rfl rfl (by kernel_rfl) (phiT_mono ⟨eq_monoT _ _, eq_monoT _ _, eq_monoT _ _, eq_monoT _ _, eq_monoT _ _, eq_monoT _ _, eq_monoT _ _, eq_monoT _ _, eq_monoT _ _, eq_monoT _ _, eq_monoT _ _, eq_monoT _ _, eq_monoT _ _, eq_monoT _ _, trivial⟩) ⟨?_, ?_, ?_, ?_, ?_, ?_, ?_, ?_, ?_, ?_, ?_, ?_, ?_, ?_, trivial⟩ ?_
          · intro HX hX X Rest hR
            intro hU
            refine W_move rfl rfl rfl ?_
            exact W_end (OneT_end [] (Hp.le_refl _) ⟨rfl, rfl⟩)
          · intro HX hX X Rest hR
            intro hU
            refine W_move rfl rfl rfl ?_
            exact W_end (OneT_end [] (Hp.le_refl _) ⟨rfl, rfl⟩)
          · intro HX hX X Rest hR
            rintro _ _ ⟨rfl, rfl⟩
            rintro _ _ ⟨rfl, rfl⟩
            intro hU
            refine W_bin rfl rfl rfl rfl rfl ?_
            exact W_end (OneT_end [] (Hp.le_refl _) ⟨rfl, (by rw [hb576]; try rfl)⟩)
          · intro HX hX X Rest hR
            rintro _ _ ⟨rfl, rfl⟩
            intro hU
            refine W_move rfl rfl rfl ?_
            exact W_end (OneT_end [] (Hp.le_refl _) ⟨rfl, rfl⟩)
          · intro HX hX X Rest hR
            rintro _ _ ⟨rfl, rfl⟩
            intro hU
            refine W_no rfl rfl rfl ?_
            exact W_end (OneT_end [] (Hp.le_refl _) ⟨rfl, rfl⟩)
          · intro HX hX X Rest hR
            rintro _ _ ⟨rfl, rfl⟩
            intro hU
            refine W_no rfl rfl rfl ?_
            exact W_end (OneT_end [] (Hp.le_refl _) ⟨rfl, rfl⟩)
          · intro HX hX X Rest hR
            rintro _ _ ⟨rfl, rfl⟩
            intro hU
            refine W_no rfl rfl rfl ?_
            exact W_end (OneT_end [] (Hp.le_refl _) ⟨rfl, rfl⟩)
          · intro HX hX X Rest hR
            rintro _ _ ⟨rfl, rfl⟩
            rintro _ _ ⟨rfl, rfl⟩
            rintro _ _ ⟨rfl, rfl⟩
            intro hU
            refine W_no rfl rfl rfl ?_
            exact W_end (OneT_end [] (Hp.le_refl _) ⟨rfl, rfl⟩)
          · intro HX hX X Rest hR
            rintro _ _ ⟨rfl, rfl⟩
            rintro _ _ ⟨rfl, rfl⟩
            intro hU
            refine W_no rfl rfl rfl ?_
            exact W_end (OneT_end [] (Hp.le_refl _) ⟨rfl, rfl⟩)
          · intro HX hX X Rest hR
            rintro _ _ ⟨rfl, rfl⟩
            intro hU
            refine W_no rfl rfl rfl ?_
            exact W_end (OneT_end [] (Hp.le_refl _) ⟨rfl, rfl⟩)
          · intro HX hX X Rest hR
            rintro _ _ ⟨rfl, rfl⟩
            intro hU
            refine W_no rfl rfl rfl ?_
            exact W_end (OneT_end [] (Hp.le_refl _) ⟨rfl, rfl⟩)
          · intro HX hX X Rest hR
            rintro _ _ ⟨rfl, rfl⟩
            rintro _ _ ⟨rfl, rfl⟩
            intro hU
            refine W_no rfl rfl rfl ?_
            exact W_end (OneT_end [] (Hp.le_refl _) ⟨rfl, rfl⟩)
          · intro HX hX X Rest hR
            rintro _ _ ⟨rfl, rfl⟩
            rintro _ _ ⟨rfl, rfl⟩
            rintro _ _ ⟨rfl, rfl⟩
            intro hU
            refine W_no rfl rfl rfl ?_
            exact W_end (OneT_end [] (Hp.le_refl _) ⟨rfl, rfl⟩)
          · intro HX hX X Rest hR
            rintro _ _ ⟨rfl, rfl⟩
            rintro _ _ ⟨rfl, rfl⟩
            intro hU
            refine W_no rfl rfl rfl ?_
            exact W_end (OneT_end [] (Hp.le_refl _) ⟨rfl, rfl⟩)
          intro H577 hle578
          rintro _ _ ⟨rfl, rfl⟩
          rintro _ _ ⟨rfl, rfl⟩
          rintro _ _ ⟨rfl, rfl⟩
          rintro _ _ ⟨rfl, rfl⟩
          rintro _ _ ⟨rfl, rfl⟩
          rintro _ _ ⟨rfl, rfl⟩
          rintro _ _ ⟨rfl, rfl⟩
          rintro _ _ ⟨rfl, rfl⟩
          rintro _ _ ⟨rfl, rfl⟩
          rintro _ _ ⟨rfl, rfl⟩
          rintro _ _ ⟨rfl, rfl⟩
          rintro _ _ ⟨rfl, rfl⟩
          rintro _ _ ⟨rfl, rfl⟩
          rintro _ _ ⟨rfl, rfl⟩
          refine W_no rfl rfl rfl ?_
          refine W_no rfl rfl rfl ?_
          refine W_pick rfl rfl rfl rfl ?_
          refine W_end ?_
          refine E_then ?_
          refine C_cond (b := false) rfl (fun hb => Bool.noConfusion hb) (fun _ => ?_)
          refine C_exit ?_
          refine E_exit_then ?_
          refine E_exit_then ?_
          refine E_exit_hit ?_
          refine E_normal_block ?_
          refine E_then ?_
          refine C_region ?_
          refine W_move rfl rfl rfl ?_
          refine W_bin rfl rfl rfl rfl rfl ?_
          refine W_assign rfl rfl rfl ?_
          refine W_end ?_
          exact E_keepJ (E_back (Nat.lt_succ_self _) ⟨l562, IntKind.i64.wrap (n445 + 1), xs561, (by rw [hn450]; exact hm), (hr563.mono hle578), (Hp.le_trans (Hp.le_trans hle447 hle566) hle578), rfl, rfl⟩) (List.Perm.refl _) ⟨rfl, rfl, rfl, rfl, rfl, trivial⟩
        · have hm := ite_t' hb576 hm
          obtain ⟨y579, h580, he581, hm⟩ := idx_some hm
          obtain ⟨_, rfl, hg582⟩ := (hr563).elem he581
          obtain ⟨y583, h584, he585, hm⟩ := idx_some hm
          obtain ⟨_, rfl, hg586⟩ := (hr563).elem he585
          refine C_region_tok0 14 (phiT [(fun H rs v => [] = rs ∧ .int .i64 (n564) = v), (fun H rs v => [] = rs ∧ .int .i64 (p1_a) = v), (fun H rs v => [] = rs ∧ .bool (true) = v), (fun H rs v => [] = rs ∧ .bool (true) = v), (fun H rs v => [] = rs ∧ .func (.func 25) [].toArray [].toArray = v), (fun H rs v => [] = rs ∧ v0 = v), (fun H rs v => [] = rs ∧ .int .i64 (n564) = v), (fun H rs v => [] = rs ∧ .pointer (some ((Value.base (v0)).add ((n564 : Int).toNat * Rep.sz S_api_TelemetryMsg))) = v), (fun H rs v => [] = rs ∧ .agg [.string (y579.Point), .int .i64 (y579.Number), .int .i64 (y579.Time), .int .i64 (y579.Value)].toArray = v), (fun H rs v => [] = rs ∧ v0 = v), (fun H rs v => [] = rs ∧ .int .i64 (n564) = v), (fun H rs v => [] = rs ∧ .int .i64 (IntKind.i64.wrap (n564 - 1)) = v), (fun H rs v => [] = rs ∧ .pointer (some ((Value.base (v0)).add ((IntKind.i64.wrap (n564 - 1) : Int).toNat * Rep.sz S_api_TelemetryMsg))) = v), (fun H rs v => [] = rs ∧ .agg [.string (y583.Point), .int .i64 (y583.Number), .int .i64 (y583.Time), .int .i64 (y583.Value)].toArray = v)]) [[], [], [], [], [], [], [], [], [], [], [], [], [], []] [[], [], [], [], [], [], [], [], [], [], [], [], [], []] [] [0, 1, 2, 3, 4, 5, 6, 7, 8, 9, 10, 11, 12, 13] Facts.mixed (by kernel_rfl) rfl rfl rfl (by kernel_rfl) (phiT_mono ⟨eq_monoT _ _, eq_monoT _ _, eq_monoT _ _, eq_monoT _ _, eq_monoT _ _, eq_monoT _ _, eq_monoT _ _, eq_monoT _ _, eq_monoT _ _, eq_monoT _ _, eq_monoT _ _, eq_monoT _ _, eq_monoT _ _, eq_monoT _ _, trivial⟩) ⟨?_, ?_, ?_, ?_, ?_, ?_, ?_, ?_, ?_, ?_, ?_, ?_, ?_, ?_, trivial⟩ ?_
          · intro HX hX X Rest hR
            intro hU
            refine W_move rfl rfl rfl ?_
            exact W_end (OneT_end [] (Hp.le_refl _) ⟨rfl, rfl⟩)
          · intro HX hX X Rest hR
            intro hU
            refine W_move rfl rfl rfl ?_
            exact W_end (OneT_end [] (Hp.le_refl _) ⟨rfl, rfl⟩)
          · intro HX hX X Rest hR
            rintro _ _ ⟨rfl, rfl⟩
            rintro _ _ ⟨rfl, rfl⟩
            intro hU
            refine W_bin rfl rfl rfl rfl rfl ?_
            exact W_end (OneT_end [] (Hp.le_refl _) ⟨rfl, (by rw [hb576]; try rfl)⟩)
          · intro HX hX X Rest hR
            rintro _ _ ⟨rfl, rfl⟩
            intro hU
            refine W_move rfl rfl rfl ?_
            exact W_end (OneT_end [] (Hp.le_refl _) ⟨rfl, rfl⟩)
          · intro HX hX X Rest hR
            rintro _ _ ⟨rfl, rfl⟩
            intro hU
            refine W_move rfl rfl rfl ?_
            exact W_end (OneT_end [] (Hp.le_refl _) ⟨rfl, rfl⟩)
          · intro HX hX X Rest hR
            rintro _ _ ⟨rfl, rfl⟩
            intro hU
            refine W_move rfl rfl rfl ?_
            exact W_end (OneT_end [] (Hp.le_refl _) ⟨rfl, rfl⟩)
          · intro HX hX X Rest hR
            rintro _ _ ⟨rfl, rfl⟩
            intro hU
            refine W_move rfl rfl rfl ?_
            exact W_end (OneT_end [] (Hp.le_refl _) ⟨rfl, rfl⟩)
          · intro HX hX X Rest hR
            rintro _ _ ⟨rfl, rfl⟩
            rintro _ _ ⟨rfl, rfl⟩
            rintro _ _ ⟨rfl, rfl⟩
            intro hU
            refine W_indexO (hR _ (List.mem_cons_self ..)) rfl rfl Proofs.Try.runUnderlying28 Proofs.Try.sizeOf35 rfl rfl h580 (List.getElem?_eq_some_iff.1 he581).1 ?_
            exact W_end (OneT_end [] (Hp.le_refl _) ⟨rfl, rfl⟩)
          · intro HX hX X Rest hR
            rintro _ _ ⟨rfl, rfl⟩
            rintro _ _ ⟨rfl, rfl⟩
            intro hU
            refine W_loadAgg (cs := [.string (y579.Point), .int .i64 (y579.Number), .int .i64 (y579.Time), .int .i64 (y579.Value)]) rfl rfl Proofs.Try.isAgg35 Proofs.Try.sizeOf35 rfl (row_cells (hR _ (List.mem_cons_self ..)) hg582) rfl ?_
            exact W_end (OneT_end [] (Hp.le_refl _) ⟨rfl, rfl⟩)
          · intro HX hX X Rest hR
            rintro _ _ ⟨rfl, rfl⟩
            intro hU
            refine W_move rfl rfl rfl ?_
            exact W_end (OneT_end [] (Hp.le_refl _) ⟨rfl, rfl⟩)
          · intro HX hX X Rest hR
            rintro _ _ ⟨rfl, rfl⟩
            intro hU
            refine W_move rfl rfl rfl ?_
            exact W_end (OneT_end [] (Hp.le_refl _) ⟨rfl, rfl⟩)
          · intro HX hX X Rest hR
            rintro _ _ ⟨rfl, rfl⟩
            rintro _ _ ⟨rfl, rfl⟩
            intro hU
            refine W_bin rfl rfl rfl rfl rfl ?_
            exact W_end (OneT_end [] (Hp.le_refl _) ⟨rfl, rfl⟩)
          · intro HX hX X Rest hR
            rintro _ _ ⟨rfl, rfl⟩
            rintro _ _ ⟨rfl, rfl⟩
            rintro _ _ ⟨rfl, rfl⟩
            intro hU
            refine W_indexO (hR _ (List.mem_cons_self ..)) rfl rfl Proofs.Try.runUnderlying28 Proofs.Try.sizeOf35 rfl rfl h584 (List.getElem?_eq_some_iff.1 he585).1 ?_
            exact W_end (OneT_end [] (Hp.le_refl _) ⟨rfl, rfl⟩)
          · intro HX hX X Rest hR
            rintro _ _ ⟨rfl, rfl⟩
            rintro _ _ ⟨rfl, rfl⟩
            intro hU
            refine W_loadAgg (cs := [.string (y583.Point), .int .i64 (y583.Number), .int .i64 (y583.Time), .int .i64 (y583.Value)]) rfl rfl Proofs.Try.isAgg35 Proofs.Try.sizeOf35 rfl (row_cells (hR _ (List.mem_cons_self ..)) hg586) rfl ?_
            exact W_end (OneT_end [] (Hp.le_refl _) ⟨rfl, rfl⟩)
          intro H587 hle588
          rintro _ _ ⟨rfl, rfl⟩
          rintro _ _ ⟨rfl, rfl⟩
          rintro _ _ ⟨rfl, rfl⟩
          rintro _ _ ⟨rfl, rfl⟩
          rintro _ _ ⟨rfl, rfl⟩
          rintro _ _ ⟨rfl, rfl⟩
          rintro _ _ ⟨rfl, rfl⟩
          rintro _ _ ⟨rfl, rfl⟩
          rintro _ _ ⟨rfl, rfl⟩
          rintro _ _ ⟨rfl, rfl⟩
          rintro _ _ ⟨rfl, rfl⟩
          rintro _ _ ⟨rfl, rfl⟩
          rintro _ _ ⟨rfl, rfl⟩
          rintro _ _ ⟨rfl, rfl⟩
          refine W_callv Proofs.Try.call25 rfl rfl rfl rfl (fun w ht => by have h := m_telemetry_Points_List_1_c (hm := (rfl : m_telemetry_Points_List_1 y579 y583 = _))  ht; exact h) ?_
          rintro _ _ _ ⟨rfl, rfl, rfl⟩
          refine W_bin rfl rfl rfl rfl rfl ?_
          refine W_pick rfl rfl rfl rfl ?_
          refine W_end ?_
          refine E_then ?_
          refine C_cond (b := decide ((m_telemetry_Points_List_1 y579 y583) < 0)) rfl (fun hb589 => ?_) (fun hb589 => ?_)
          · have hm := ite_t' hb589 hm
            refine C_skip ?_
            refine E_then ?_
            refine C_seq ?_
            refine C_block ?_
            obtain ⟨y590, h591, he592, hm⟩ := idx_some hm
            obtain ⟨_, rfl, hg593⟩ := (hr563).elem he592
            obtain ⟨y594, h595, he596, hm⟩ := idx_some hm
            obtain ⟨_, rfl, hg597⟩ := (hr563).elem he596
            obtain ⟨y598, h599, he600, hm⟩ := idx_some hm
            obtain ⟨_, rfl, hg601⟩ := (hr563).elem he600
            refine C_perm (List.Perm.refl _) ?_
            refine C_as (M' := [[.row v0 35 (Rep.sz S_api_TelemetryMsg) l562.length xs561]].flatten ++ (M)) rfl ?_
            refine C_region_tok0 16 (phiT [(fun H rs v => [] = rs ∧ v0 = v), (fun H rs v => [] = rs ∧ .int .i64 (n564) = v), (fun H rs v => [] = rs ∧ v0 = v), (fun H rs v => [] = rs ∧ .int .i64 (n564) = v), (fun H rs v => [] = rs ∧ .int .i64 (IntKind.i64.wrap (n564 - 1)) = v), (fun H rs v => [] = rs ∧ v0 = v), (fun H rs v => [] = rs ∧ .int .i64 (n564) = v), (fun H rs v => [] = rs ∧ .int .i64 (IntKind.i64.wrap (n564 - 1)) = v), (fun H rs v => [] = rs ∧ .pointer (some ((Value.base (v0)).add ((IntKind.i64.wrap (n564 - 1) : Int).toNat * Rep.sz S_api_TelemetryMsg))) = v), (fun H rs v => [] = rs ∧ .agg [.string (y590.Point), .int .i64 (y590.Number), .int .i64 (y590.Time), .int .i64 (y590.Value)].toArray = v), (fun H rs v => [] = rs ∧ v0 = v), (fun H rs v => [] = rs ∧ .int .i64 (n564) = v), (fun H rs v => [] = rs ∧ .pointer (some ((Value.base (v0)).add ((n564 : Int).toNat * Rep.sz S_api_TelemetryMsg))) = v), (fun H rs v => [] = rs ∧ .agg [.string (y594.Point), .int .i64 (y594.Number), .int .i64 (y594.Time), .int .i64 (y594.Value)].toArray = v), (fun H rs v => [] = rs ∧ .pointer (some ((Value.base (v0)).add ((n564 : Int).toNat * Rep.sz S_api_TelemetryMsg))) = v), (fun H rs v => ∃ xs609 : List Value, [.row v0 35 (Rep.sz S_api_TelemetryMsg) (l562.set ((n564 : Int).toNat) y590).length xs609] = rs ∧ .pointer (some ((Value.base (v0)).add ((n564 : Int).toNat * Rep.sz S_api_TelemetryMsg))) = v ∧ Rw H v0 xs609 (l562.set ((n564 : Int).toNat) y590))]) [[], [], [], [], [], [], [], [], [], [], [], [], [], [], [], [16]] [[], [], [], [], [], [], [], [], [16], [16], [], [], [16], [16], [16], []] [[.row v0 35 (Rep.sz S_api_TelemetryMsg) l562.length xs561]] [0, 1, 2, 3, 4, 5, 6, 7, 8, 9, 10, 11, 12, 13, 14, 15] Facts.mixed (by kernel_rfl) rfl rfl rfl (by kernel_rfl) (phiT_mono ⟨eq_monoT _ _, eq_monoT _ _, eq_monoT _ _, eq_monoT _ _, eq_monoT _ _, eq_monoT _ _, eq_monoT _ _, eq_monoT _ _, eq_monoT _ _, eq_monoT _ _, eq_monoT _ _, eq_monoT _ _, eq_monoT _ _, eq_monoT _ _, eq_monoT _ _, (by rintro H1 H2 rs v hle ⟨xs609, rfl, hv_, hr606⟩; exact ⟨xs609, rfl, hv_, (hr606.mono hle)⟩), trivial⟩) ⟨?_, ?_, ?_, ?_, ?_, ?_, ?_, ?_, ?_, ?_, ?_, ?_, ?_, ?_, ?_, ?_, trivial⟩ ?_
            · intro HX hX X Rest hR
              intro hU
              refine W_move rfl rfl rfl ?_
              exact W_end (OneT_end [] (Hp.le_refl _) ⟨rfl, rfl⟩)
            · intro HX hX X Rest hR
              intro hU
              refine W_move rfl rfl rfl ?_
              exact W_end (OneT_end [] (Hp.le_refl _) ⟨rfl, rfl⟩)
            · intro HX hX X Rest hR
              intro hU
              refine W_move rfl rfl rfl ?_
              exact W_end (OneT_end [] (Hp.le_refl _) ⟨rfl, rfl⟩)
            · intro HX hX X Rest hR
              intro hU
              refine W_move rfl rfl rfl ?_
              exact W_end (OneT_end [] (Hp.le_refl _) ⟨rfl, rfl⟩)
            · intro HX hX X Rest hR
              rintro _ _ ⟨rfl, rfl⟩
              intro hU
              refine W_bin rfl rfl rfl rfl rfl ?_
              exact W_end (OneT_end [] (Hp.le_refl _) ⟨rfl, rfl⟩)
            · intro HX hX X Rest hR
              intro hU
              refine W_move rfl rfl rfl ?_
              exact W_end (OneT_end [] (Hp.le_refl _) ⟨rfl, rfl⟩)
            · intro HX hX X Rest hR
              intro hU
              refine W_move rfl rfl rfl ?_
              exact W_end (OneT_end [] (Hp.le_refl _) ⟨rfl, rfl⟩)
            · intro HX hX X Rest hR
              rintro _ _ ⟨rfl, rfl⟩
              intro hU
              refine W_bin rfl rfl rfl rfl rfl ?_
              exact W_end (OneT_end [] (Hp.le_refl _) ⟨rfl, rfl⟩)
            · intro HX hX X Rest hR
              rintro _ _ ⟨rfl, rfl⟩
              rintro _ _ ⟨rfl, rfl⟩
              intro hU
              have hU2 : ∀ s ∈ [.row v0 35 (Rep.sz S_api_TelemetryMsg) l562.length xs561], s ∈ Rest := hU
              refine W_indexO (hU2 _ (List.mem_cons_self ..)) rfl rfl Proofs.Try.runUnderlying28 Proofs.Try.sizeOf35 rfl rfl h591 (List.getElem?_eq_some_iff.1 he592).1 ?_
              exact W_end (OneT_end [] (Hp.le_refl _) ⟨rfl, rfl⟩)
            · intro HX hX X Rest hR
              rintro _ _ ⟨rfl, rfl⟩
              intro hU
              have hU2 : ∀ s ∈ [.row v0 35 (Rep.sz S_api_TelemetryMsg) l562.length xs561], s ∈ Rest := hU
              refine W_loadAgg (cs := [.string (y590.Point), .int .i64 (y590.Number), .int .i64 (y590.Time), .int .i64 (y590.Value)]) rfl rfl Proofs.Try.isAgg35 Proofs.Try.sizeOf35 rfl (row_cells (hU2 _ (List.mem_cons_self ..)) hg593) rfl ?_
              exact W_end (OneT_end [] (Hp.le_refl _) ⟨rfl, rfl⟩)
            · intro HX hX X Rest hR
              intro hU
              refine W_move rfl rfl rfl ?_
              exact W_end (OneT_end [] (Hp.le_refl _) ⟨rfl, rfl⟩)
            · intro HX hX X Rest hR
              intro hU
              refine W_move rfl rfl rfl ?_
              exact W_end (OneT_end [] (Hp.le_refl _) ⟨rfl, rfl⟩)
            · intro HX hX X Rest hR
              rintro _ _ ⟨rfl, rfl⟩
              rintro _ _ ⟨rfl, rfl⟩
              intro hU
              have hU2 : ∀ s ∈ [.row v0 35 (Rep.sz S_api_TelemetryMsg) l562.length xs561], s ∈ Rest := hU
              refine W_indexO (hU2 _ (List.mem_cons_self ..)) rfl rfl Proofs.Try.runUnderlying28 Proofs.Try.sizeOf35 rfl rfl h595 (List.getElem?_eq_some_iff.1 he596).1 ?_
              exact W_end (OneT_end [] (Hp.le_refl _) ⟨rfl, rfl⟩)
            · intro HX hX X Rest hR
              rintro _ _ ⟨rfl, rfl⟩
              intro hU
              have hU2 : ∀ s ∈ [.row v0 35 (Rep.sz S_api_TelemetryMsg) l562.length xs561], s ∈ Rest := hU
              refine W_loadAgg (cs := [.string (y594.Point), .int .i64 (y594.Number), .int .i64 (y594.Time), .int .i64 (y594.Value)]) rfl rfl Proofs.Try.isAgg35 Proofs.Try.sizeOf35 rfl (row_cells (hU2 _ (List.mem_cons_self ..)) hg597) rfl ?_
              exact W_end (OneT_end [] (Hp.le_refl _) ⟨rfl, rfl⟩)
            · intro HX hX X Rest hR
              rintro _ _ ⟨rfl, rfl⟩
              rintro _ _ ⟨rfl, rfl⟩
              rintro _ _ ⟨rfl, rfl⟩
              rintro _ _ ⟨rfl, rfl⟩
              rintro _ _ ⟨rfl, rfl⟩
              rintro _ _ ⟨rfl, rfl⟩
              rintro _ _ ⟨rfl, rfl⟩
              rintro _ _ ⟨rfl, rfl⟩
              rintro _ _ ⟨rfl, rfl⟩
              rintro _ _ ⟨rfl, rfl⟩
              intro hU
              have hU2 : ∀ s ∈ [.row v0 35 (Rep.sz S_api_TelemetryMsg) l562.length xs561], s ∈ Rest := hU
              refine W_indexO (hU2 _ (List.mem_cons_self ..)) rfl rfl Proofs.Try.runUnderlying28 Proofs.Try.sizeOf35 rfl rfl h599 (List.getElem?_eq_some_iff.1 he600).1 ?_
              exact W_end (OneT_end [] (Hp.le_refl _) ⟨rfl, rfl⟩)
            · intro HX hX X Rest hR
              rintro _ _ ⟨rfl, rfl⟩
              rintro _ _ ⟨rfl, rfl⟩
              rintro _ _ ⟨rfl, rfl⟩
              rintro _ _ ⟨rfl, rfl⟩
              rintro _ _ ⟨rfl, rfl⟩
              rintro _ _ ⟨rfl, rfl⟩
              rintro _ _ ⟨rfl, rfl⟩
              rintro _ _ ⟨rfl, rfl⟩
              rintro _ _ ⟨rfl, rfl⟩
              rintro _ _ ⟨rfl, rfl⟩
              intro hU
              refine W_as (M' := .row v0 35 (Rep.sz S_api_TelemetryMsg) l562.length xs561 :: Rest) rfl ?_
              obtain ⟨hr606, he607, hg608⟩ := Rw.put (cs := [.string (y590.Point), .int .i64 (y590.Number), .int .i64 (y590.Time), .int .i64 (y590.Value)]) (o := 0) (c := [.string (y598.Point), .int .i64 (y598.Number), .int .i64 (y598.Time), .int .i64 (y598.Value)]) (out := [.string (y590.Point), .int .i64 (y590.Number), .int .i64 (y590.Time), .int .i64 (y590.Value)]) (e2 := y590) ((hr563.mono hle588).mono hX) he600 rfl hg601 rfl rfl rfl
              refine W_storeO2 (i := (n564 : Int).toNat * Rep.sz S_api_TelemetryMsg + 0) (cs := [.string (y590.Point), .int .i64 (y590.Number), .int .i64 (y590.Time), .int .i64 (y590.Value)]) rfl Proofs.Try.sizeOf35 rfl (row_ad0 _ _) rfl rfl rfl (Rw.room ((hr563.mono hle588).mono hX) he600 rfl) rfl (all_cons rfl (all_cons rfl (all_cons rfl (all_cons rfl all_nil)))) (n' := (l562.set ((n564 : Int).toNat) y590).length) List.length_set ?_
              generalize over xs561 ((n564 : Int).toNat * Rep.sz S_api_TelemetryMsg + 0) [.string (y590.Point), .int .i64 (y590.Number), .int .i64 (y590.Time), .int .i64 (y590.Value)] = xs609 at hr606 hg608 ⊢
              exact W_end (OneT_endL rfl [.row v0 35 (Rep.sz S_api_TelemetryMsg) (l562.set ((n564 : Int).toNat) y590).length xs609] (Hp.le_refl _) ⟨xs609, rfl, rfl, (hr606)⟩)
            intro H610 hle611
            rintro _ _ ⟨rfl, rfl⟩
            rintro _ _ ⟨rfl, rfl⟩
            rintro _ _ ⟨rfl, rfl⟩
            rintro _ _ ⟨rfl, rfl⟩
            rintro _ _ ⟨rfl, rfl⟩
            rintro _ _ ⟨rfl, rfl⟩
            rintro _ _ ⟨rfl, rfl⟩
            rintro _ _ ⟨rfl, rfl⟩
            rintro _ _ ⟨rfl, rfl⟩
            rintro _ _ ⟨rfl, rfl⟩
            rintro _ _ ⟨rfl, rfl⟩
            rintro _ _ ⟨rfl, rfl⟩
            rintro _ _ ⟨rfl, rfl⟩
            rintro _ _ ⟨rfl, rfl⟩
            rintro _ _ ⟨rfl, rfl⟩
            rintro _ _ _ ⟨xs609, rfl, _, hr606⟩
            refine W_as (M' := .row v0 35 (Rep.sz S_api_TelemetryMsg) (l562.set ((n564 : Int).toNat) y590).length xs609 :: M) rfl ?_
            obtain ⟨y612, h613, he614, hm⟩ := idx_some hm
            refine W_indexO (List.mem_cons_self ..) rfl rfl Proofs.Try.runUnderlying28 Proofs.Try.sizeOf35 rfl rfl h613 (List.getElem?_eq_some_iff.1 he614).1 ?_
            obtain ⟨_, rfl, hg615⟩ := (hr606).elem he614
            obtain ⟨hr616, he617, hg618⟩ := Rw.put (cs := [.string (y594.Point), .int .i64 (y594.Number), .int .i64 (y594.Time), .int .i64 (y594.Value)]) (o := 0) (c := [.string (y612.Point), .int .i64 (y612.Number), .int .i64 (y612.Time), .int .i64 (y612.Value)]) (out := [.string (y594.Point), .int .i64 (y594.Number), .int .i64 (y594.Time), .int .i64 (y594.Value)]) (e2 := y594) hr606 he614 rfl hg615 rfl rfl rfl
            refine W_storeO2 (i := (IntKind.i64.wrap (n564 - 1) : Int).toNat * Rep.sz S_api_TelemetryMsg + 0) (cs := [.string (y594.Point), .int .i64 (y594.Number), .int .i64 (y594.Time), .int .i64 (y594.Value)]) rfl Proofs.Try.sizeOf35 rfl (row_ad0 _ _) rfl rfl rfl (Rw.room hr606 he614 rfl) rfl (all_cons rfl (all_cons rfl (all_cons rfl (all_cons rfl all_nil)))) (n' := ((l562.set ((n564 : Int).toNat) y590).set ((IntKind.i64.wrap (n564 - 1) : Int).toNat) y594).length) List.length_set ?_
            generalize over xs609 ((IntKind.i64.wrap (n564 - 1) : Int).toNat * Rep.sz S_api_TelemetryMsg + 0) [.string (y594.Point), .int .i64 (y594.Number), .int .i64 (y594.Time), .int .i64 (y594.Value)] = xs619 at hr616 hg618 ⊢
            refine W_end ?_
            refine E_normal_block ?_
            refine E_then ?_
            refine C_region ?_
            refine W_move rfl rfl rfl ?_
            refine W_bin rfl rfl rfl rfl rfl ?_
            refine W_assign rfl rfl rfl ?_
            refine W_end ?_
            exact E_keepJ (E_back (Nat.lt_succ_self _) ⟨((l562.set ((n564 : Int).toNat) y590).set ((IntKind.i64.wrap (n564 - 1) : Int).toNat) y594), IntKind.i64.wrap (n564 - 1), xs619, (by rw [hn569]; exact hm), hr616, (Hp.le_trans (Hp.le_trans hle566 hle588) hle611), rfl, rfl⟩) (List.Perm.refl _) ⟨rfl, rfl, rfl, rfl, rfl, rfl, trivial⟩
          · have hm := ite_f' hb589 hm
            refine C_exit ?_
            refine E_exit_then ?_
            refine E_exit_then ?_
            refine E_exit_hit ?_
            refine E_normal_block ?_
            refine E_then ?_
            refine C_region ?_
            refine W_move rfl rfl rfl ?_
            refine W_bin rfl rfl rfl rfl rfl ?_
            refine W_assign rfl rfl rfl ?_
            refine W_end ?_
            exact E_keepJ (E_back (Nat.lt_succ_self _) ⟨l562, IntKind.i64.wrap (n445 + 1), xs561, (by rw [hn450]; exact hm), (hr563.mono hle588), (Hp.le_trans (Hp.le_trans hle447 hle566) hle588), rfl, rfl⟩) (List.Perm.refl _) ⟨rfl, rfl, rfl, rfl, rfl, trivial⟩
    · have hm := ite_f' hb457 hm
      refine C_exit ?_
      refine E_exit_then ?_
      refine E_exit_then ?_
      refine E_exit_hit ?_
      refine E_off ?_
      obtain rfl := Option.some.inj hm
      refine E_weak hle447 ?_
      exact end0 rfl ⟨rfl, xs442, rfl, rfl, (hr444).toF⟩

theorem m_slices_pdqsortCmpFunc_api_TelemetryMsg__telemetry_Points_List_1_c {B : Nat} {w0 w : World} {H : Hp} {M : List Res} {data : (List S_api_TelemetryMsg)} {p1_a : Int} {p2_b : Int} {limit : Int} {v0 : Value} {xs0 : List Value} {r : (List S_api_TelemetryMsg)} (hm : m_slices_pdqsortCmpFunc_api_TelemetryMsg__telemetry_Points_List_1 data p1_a p2_b limit = some r) (h0 : Rw H v0 xs0 data) (ht : St B w0 H (.row v0 35 (Rep.sz S_api_TelemetryMsg) data.length xs0 :: M) w) :
    Calls Proofs.Try.prog 33 [v0, .int .i64 (p1_a), .int .i64 (p2_b), .int .i64 (limit), .func (.func 25) [].toArray [].toArray].toArray w (Ret B w0 fun H' M' v => H = H' ∧ ∃ qxs0 : List Value, .row v0 35 (Rep.sz S_api_TelemetryMsg) r.length qxs0 :: M = M' ∧ .tuple #[] = v ∧ RwF v0 qxs0 r) := by
  unfold m_slices_pdqsortCmpFunc_api_TelemetryMsg__telemetry_Points_List_1 at hm
  refine enter Proofs.Try.func33 rfl rfl rfl ht ?_
  refine C_seq ?_
  refine C_region ?_
  refine W_assign rfl rfl rfl ?_
  refine W_end ?_
  refine E_then ?_
  refine C_seq ?_
  refine C_region ?_
  refine W_assign rfl rfl rfl ?_
  refine W_end ?_
  refine E_then ?_
  refine C_block ?_
  refine C_keep (L' := [(0, v0), (1, .int .i64 (p1_a)), (2, .int .i64 (p2_b)), (3, .int .i64 (limit)), (4, .func (.func 25) [].toArray [].toArray), (10, .bool (true)), (11, .bool (true))]) ⟨rfl, rfl, rfl, rfl, rfl, rfl, rfl, trivial⟩ (List.Perm.refl _) ?_
  refine C_loop (fun n H' M' L' => loopF (fun s119 n => m_slices_pdqsortCmpFunc_api_TelemetryMsg__telemetry_Points_List_1_b3 data p1_a p2_b limit n) n () = some r ∧ H.le H' ∧ .row v0 35 (Rep.sz S_api_TelemetryMsg) data.length xs0 :: M = M' ∧ [(0, v0), (1, .int .i64 (p1_a)), (2, .int .i64 (p2_b)), (3, .int .i64 (limit)), (4, .func (.func 25) [].toArray [].toArray), (10, .bool (true)), (11, .bool (true))] = L') FUEL ⟨hm, (Hp.le_refl _), rfl, rfl⟩ ?_
  rintro n122 H117 _ _ ⟨hm, hle118, rfl, rfl⟩
  cases n122 with
  | zero => cases hm
  | succ n122 =>
    have hm : m_slices_pdqsortCmpFunc_api_TelemetryMsg__telemetry_Points_List_1_b3 data p1_a p2_b limit (loopF (fun s119 n => m_slices_pdqsortCmpFunc_api_TelemetryMsg__telemetry_Points_List_1_b3 data p1_a p2_b limit n) n122) = some r := hm
    generalize hn121 : loopF (fun s119 n => m_slices_pdqsortCmpFunc_api_TelemetryMsg__telemetry_Points_List_1_b3 data p1_a p2_b limit n) n122 = nx120 at hm
    unfold m_slices_pdqsortCmpFunc_api_TelemetryMsg__telemetry_Points_List_1_b3 at hm
    refine C_block ?_
    refine C_seq ?_
    refine C_region ?_
    refine W_move rfl rfl rfl ?_
    refine W_move rfl rfl rfl ?_
    refine W_bin rfl rfl rfl rfl rfl ?_
    refine W_assign rfl rfl rfl ?_
    refine W_end ?_
    refine E_then ?_
    refine C_seq ?_
    refine C_seq ?_
    refine C_region ?_
    refine W_move rfl rfl rfl ?_
    refine W_bin rfl rfl rfl rfl rfl ?_
    refine W_end ?_
    refine E_then ?_
    refine C_cond (b := decide ((IntKind.i64.wrap (p2_b - p1_a)) ≤ 12)) rfl (fun hb128 => ?_) (fun hb128 => ?_)
    · have hm := ite_t' hb128 hm
      refine C_seq ?_
      refine C_region ?_
      refine W_move rfl rfl rfl ?_
      refine W_move rfl rfl rfl ?_
      refine W_move rfl rfl rfl ?_
      refine W_move rfl rfl rfl ?_
      obtain ⟨r129, hc130, hm⟩ := bind_some hm
      refine W_call Proofs.Try.call45 rfl rfl rfl (fun w ht => by have h := m_slices_insertionSortCmpFunc_api_TelemetryMsg__telemetry_Points_List_1_c (hm := hc130) (h0.mono hle118) ht; exact h) ?_
      rintro _ _ _ ⟨rfl, xs132, rfl, rfl, h133⟩
      have h133 := h133 H117
      refine W_end ?_
      refine E_then ?_
      refine C_ret ?_
      refine E_ret_then ?_
      refine E_ret_block ?_
      refine E_ret_then ?_
      refine E_ret_block ?_
      obtain rfl := Option.some.inj hm
      refine E_weak hle118 ?_
      exact end0 rfl ⟨rfl, xs132, rfl, rfl, (h133).toF⟩
    · have hm := ite_f' hb128 hm
      refine C_skip ?_
      refine E_then ?_
      refine C_seq ?_
      refine C_seq ?_
      refine C_region ?_
      refine W_move rfl rfl rfl ?_
      refine W_bin rfl rfl rfl rfl rfl ?_
      refine W_end ?_
      refine E_then ?_
      refine C_cond (b := decide (limit = 0)) rfl (fun hb134 => ?_) (fun hb134 => ?_)
      · have hm := ite_t' hb134 hm
        refine C_seq ?_
        refine C_region ?_
        refine W_move rfl rfl rfl ?_
        refine W_move rfl rfl rfl ?_
        refine W_move rfl rfl rfl ?_
        refine W_move rfl rfl rfl ?_
        cases hm
      · have hm := ite_f' hb134 hm
        refine C_skip ?_
        refine E_then ?_
        refine C_seq_join (fun H' M' L' => m_slices_pdqsortCmpFunc_api_TelemetryMsg__telemetry_Points_List_1_b4 = some r ∧ H117 = H' ∧ .row v0 35 (Rep.sz S_api_TelemetryMsg) data.length xs0 :: M = M' ∧ [(0, v0), (1, .int .i64 (p1_a)), (2, .int .i64 (p2_b)), (3, .int .i64 (limit)), (4, .func (.func 25) [].toArray [].toArray), (10, .bool (true)), (11, .bool (true)), (12, .int .i64 (IntKind.i64.wrap (p2_b - p1_a)))] = L') ?_ (fun J135 => ?_)
        · rintro _ _ _ ⟨hm, rfl, rfl, rfl⟩
          unfold m_slices_pdqsortCmpFunc_api_TelemetryMsg__telemetry_Points_List_1_b4 at hm
          refine C_seq ?_
          refine C_region ?_
          refine W_move rfl rfl rfl ?_
          refine W_move rfl rfl rfl ?_
          refine W_move rfl rfl rfl ?_
          refine W_move rfl rfl rfl ?_
          cases hm
        · refine C_seq ?_
          refine C_region ?_
          refine W_move rfl rfl rfl ?_
          refine W_un rfl rfl rfl rfl ?_
          refine W_end ?_
          refine E_then ?_
          refine C_cond (b := false) rfl (fun hb => Bool.noConfusion hb) (fun _ => ?_)
          refine C_skip ?_
          exact E_keepJ (J135 _ _ _ ⟨hm, rfl, rfl, rfl⟩) (List.Perm.refl _) ⟨rfl, rfl, rfl, rfl, rfl, rfl, rfl, rfl, trivial⟩

theorem m_slices_SortFunc_api_TelemetryMsg_api_TelemetryMsg__telemetry_Points_List_1_c {B : Nat} {w0 w : World} {H : Hp} {M : List Res} {p0_x : (List S_api_TelemetryMsg)} {v0 : Value} {xs0 : List Value} {r : (List S_api_TelemetryMsg)} (hm : m_slices_SortFunc_api_TelemetryMsg_api_TelemetryMsg__telemetry_Points_List_1 p0_x = some r) (h0 : Rw H v0 xs0 p0_x) (ht : St B w0 H (.row v0 35 (Rep.sz S_api_TelemetryMsg) p0_x.length xs0 :: M) w) :
    Calls Proofs.Try.prog 24 [v0, .func (.func 25) [].toArray [].toArray].toArray w (Ret B w0 fun H' M' v => H = H' ∧ ∃ qxs0 : List Value, .row v0 35 (Rep.sz S_api_TelemetryMsg) r.length qxs0 :: M = M' ∧ .tuple #[] = v ∧ RwF v0 qxs0 r) := by
  unfold m_slices_SortFunc_api_TelemetryMsg_api_TelemetryMsg__telemetry_Points_List_1 at hm
  refine enter Proofs.Try.func24 rfl rfl rfl ht ?_
  refine C_seq ?_
  refine C_region ?_
  refine W_move rfl rfl rfl ?_
  refine W_lenO (List.mem_cons_self ..) rfl rfl Proofs.Try.runUnderlying28 rfl ?_
  refine W_assign rfl rfl rfl ?_
  refine W_end ?_
  refine E_then ?_
  refine C_region ?_
  refine W_move rfl rfl rfl ?_
  refine W_move rfl rfl rfl ?_
  refine W_move rfl rfl rfl ?_
  refine W_convInt rfl rfl Proofs.Try.runUnderlying3 Proofs.Try.runUnderlying63 rfl ?_
  obtain ⟨r101, hc102, hm⟩ := bind_some hm
  refine W_call Proofs.Try.call28 rfl rfl rfl (fun w ht => by have h := m_math_bits_Len_c (hm := hc102)  ht; exact h) ?_
  rintro _ _ _ ⟨rfl, rfl, rfl⟩
  refine W_move rfl rfl rfl ?_
  obtain ⟨r103, hc104, hm⟩ := bind_some hm
  refine W_call Proofs.Try.call33 rfl rfl rfl (fun w ht => by have h := m_slices_pdqsortCmpFunc_api_TelemetryMsg__telemetry_Points_List_1_c (hm := hc104) h0 ht; exact h) ?_
  rintro _ _ _ ⟨rfl, xs106, rfl, rfl, h107⟩
  have h107 := h107 H
  refine W_end ?_
  refine E_off ?_
  obtain rfl := Option.some.inj hm
  refine E_weak (Hp.le_refl _) ?_
  exact end0 rfl ⟨rfl, xs106, rfl, rfl, (h107).toF⟩

theorem m_telemetry_Points_List_c {B : Nat} {w0 w : World} {H : Hp} {M : List Res} {p0_p : S_telemetry_Points} {b0 : Nat} {v0 : Value} {xs0 : List Value} {r : (List S_api_TelemetryMsg)} (hm : m_telemetry_Points_List p0_p = some r) (h0 : Rw H v0 xs0 p0_p.all_) (ht : St B w0 H (.obj b0 (.cells [.int .i64 (p0_p.age), v0].toArray 53 (0, 0)) :: .row v0 57 (Rep.sz S_telemetry_point) p0_p.all_.length xs0 :: M) w) :
    Calls Proofs.Try.prog 14 [.pointer (some ⟨b0, 0, none⟩)].toArray w (Ret B w0 fun H' M' v => H = H' ∧ ∃ qv0 : Value, ∃ qxs0 : List Value, .row qv0 35 (Rep.sz S_api_TelemetryMsg) r.length qxs0 :: .obj b0 (.cells [.int .i64 (p0_p.age), v0].toArray 53 (0, 0)) :: .row v0 57 (Rep.sz S_telemetry_point) p0_p.all_.length xs0 :: M = M' ∧ qv0 = v ∧ RwF qv0 qxs0 r) := by
  unfold m_telemetry_Points_List at hm
  refine enter Proofs.Try.func14 rfl rfl rfl ht ?_
  refine C_seq ?_
  refine C_region ?_
  refine W_assign rfl rfl rfl ?_
  refine W_end ?_
  refine E_then ?_
  refine C_seq ?_
  refine C_region ?_
  refine W_assign rfl rfl rfl ?_
  refine W_end ?_
  refine E_then ?_
  refine C_seq ?_
  refine C_seq ?_
  refine C_region ?_
  refine W_move rfl rfl rfl ?_
  refine W_nilCheck rfl rfl rfl ?_
  refine W_field (o := 1) rfl rfl Proofs.Try.runUnderlying53 rfl Proofs.Try.sizeOf51 rfl rfl rfl ?_
  refine W_load rfl rfl Proofs.Try.isAgg51 rfl (own_at (List.mem_cons_self ..) rfl) ?_
  refine W_lenO (List.mem_cons_of_mem _ (List.mem_cons_self ..)) rfl rfl Proofs.Try.runUnderlying51 rfl ?_
  refine W_move rfl rfl rfl ?_
  refine W_end ?_
  refine E_then ?_
  refine C_block ?_
  refine C_rowMax (List.mem_cons_of_mem _ (List.mem_cons_self ..)) (fun hmx150 => ?_)
  refine C_nilRow 35 (Rep.sz S_api_TelemetryMsg) ?_
  refine C_keep (L' := [(3, (.slice none 0 0)), (9, v0), (10, .int .i64 ((p0_p.all_.length : Int))), (11, .int .i64 (((0 : Nat) : Int)))]) ⟨rfl, rfl, rfl, rfl, trivial⟩ (List.Perm.refl _) ?_
  refine C_loop (fun n H' M' L' => ∃ (k101 : Nat) (zs152' : List S_telemetry_point), ∃ l142 : List S_api_TelemetryMsg, ∃ v140 : Value, ∃ xs141 : List Value, (p0_p.all_).drop k101 = zs152' ∧ zs152'.length = n ∧ forI (fun k y s146 n => m_telemetry_Points_List_b1 k y s146 n) (fun s146 => (m_slices_SortFunc_api_TelemetryMsg_api_TelemetryMsg__telemetry_Points_List_1 s146).bind fun r170 => some r170) k101 zs152' l142 = some r ∧ Rw H' v140 xs141 l142 ∧ H.le H' ∧ .row v140 35 (Rep.sz S_api_TelemetryMsg) l142.length xs141 :: .obj b0 (.cells [.int .i64 (p0_p.age), v0].toArray 53 (0, 0)) :: .row v0 57 (Rep.sz S_telemetry_point) p0_p.all_.length xs0 :: M = M' ∧ [(3, v140), (9, v0), (10, .int .i64 ((p0_p.all_.length : Int))), (11, .int .i64 ((k101 : Int)))] = L') _ ⟨0, _, ([] : List S_api_TelemetryMsg), (.slice none 0 0), ([]), rfl, rfl, hm, Rw.nil, (Hp.le_refl _), rfl, rfl⟩ ?_
  rintro _ H144 _ _ ⟨k101, zs152', l142, v140, xs141, hd154, rfl, hm, hr143, hle145, rfl, rfl⟩
  refine C_seq ?_
  refine C_region ?_
  refine W_bin rfl rfl rfl rfl rfl ?_
  refine W_end (E_then ?_)
  refine C_seq ?_
  refine C_cond (b := decide ((k101 : Int) < (p0_p.all_.length : Int))) rfl (fun hb156 => ?_) (fun hb156 => ?_)
  · obtain ⟨y151, zs152, rfl, hy153, hd155⟩ := rng_t hd154 hb156
    have hm : m_telemetry_Points_List_b1 k101 y151 l142 (forI (fun k y s146 n => m_telemetry_Points_List_b1 k y s146 n) (fun s146 => (m_slices_SortFunc_api_TelemetryMsg_api_TelemetryMsg__telemetry_Points_List_1 s146).bind fun r170 => some r170) (k101 + 1) zs152) = some r := hm
    generalize hn148 : forI (fun k y s146 n => m_telemetry_Points_List_b1 k y s146 n) (fun s146 => (m_slices_SortFunc_api_TelemetryMsg_api_TelemetryMsg__telemetry_Points_List_1 s146).bind fun r170 => some r170) (k101 + 1) zs152 = nx147 at hm
    unfold m_telemetry_Points_List_b1 at hm
    refine C_skip (E_then ?_)
    refine C_seq ?_
    refine C_block ?_
    refine C_seq ?_
    refine C_region ?_
    refine W_indexO (List.mem_cons_of_mem _ (List.mem_cons_of_mem _ (List.mem_cons_self ..))) rfl rfl Proofs.Try.runUnderlying51 Proofs.Try.sizeOf57 rfl rfl (Int.natCast_nonneg _) (List.getElem?_eq_some_iff.1 hy153).1 ?_
    obtain ⟨_, rfl, hg157⟩ := (h0).elem hy153
    refine W_loadAgg (cs := [.string (y151.TelemetryMsg.Point), .int .i64 (y151.TelemetryMsg.Number), .int .i64 (y151.TelemetryMsg.Time), .int .i64 (y151.TelemetryMsg.Value), .int .i64 (y151.many)]) rfl rfl Proofs.Try.isAgg57 Proofs.Try.sizeOf57 rfl (row_cells (List.mem_cons_of_mem _ (List.mem_cons_of_mem _ (List.mem_cons_self ..))) hg157) rfl ?_
    refine W_alloc (cs := [.string (⟨#[]⟩), .int .i64 (0), .int .i64 (0), .int .i64 (0), .int .i64 (0)]) rfl rfl Proofs.Try.zeroValue57 rfl (fun b158 => ?_)
    refine W_store (cs := [.string (y151.TelemetryMsg.Point), .int .i64 (y151.TelemetryMsg.Number), .int .i64 (y151.TelemetryMsg.Time), .int .i64 (y151.TelemetryMsg.Value), .int .i64 (y151.many)]) (out := [.string (y151.TelemetryMsg.Point), .int .i64 (y151.TelemetryMsg.Number), .int .i64 (y151.TelemetryMsg.Time), .int .i64 (y151.TelemetryMsg.Value), .int .i64 (y151.many)]) rfl Proofs.Try.sizeOf57 rfl rfl rfl rfl rfl (all_cons rfl (all_cons rfl (all_cons rfl (all_cons rfl (all_cons rfl all_nil))))) (over_all rfl) ?_
    refine W_end ?_
    refine E_then ?_
    refine C_region ?_
    refine W_move rfl rfl rfl ?_
    refine W_field (o := 0) rfl rfl Proofs.Try.runUnderlying57 rfl Proofs.Try.sizeOf35 rfl rfl rfl ?_
    refine W_loadAgg (cs := [.string (y151.TelemetryMsg.Point), .int .i64 (y151.TelemetryMsg.Number), .int .i64 (y151.TelemetryMsg.Time), .int .i64 (y151.TelemetryMsg.Value)]) rfl rfl Proofs.Try.isAgg35 Proofs.Try.sizeOf35 rfl (own_part (List.mem_cons_self ..) rfl) rfl ?_
    refine W_buildSlice (α := S_api_TelemetryMsg) (css := [[.string (y151.TelemetryMsg.Point), .int .i64 (y151.TelemetryMsg.Number), .int .i64 (y151.TelemetryMsg.Time), .int .i64 (y151.TelemetryMsg.Value)]]) (zs := [.string (⟨#[]⟩), .int .i64 (0), .int .i64 (0), .int .i64 (0)]) (out := [.string (y151.TelemetryMsg.Point), .int .i64 (y151.TelemetryMsg.Number), .int .i64 (y151.TelemetryMsg.Time), .int .i64 (y151.TelemetryMsg.Value)]) (ys := [y151.TelemetryMsg]) rfl rfl rfl ⟨rfl, trivial⟩ Proofs.Try.runUnderlying28 Proofs.Try.sizeOf35 rfl Proofs.Try.zeroValue35 (by kernel_rfl) rfl rfl rfl rfl ⟨[.string (y151.TelemetryMsg.Point), .int .i64 (y151.TelemetryMsg.Number), .int .i64 (y151.TelemetryMsg.Time), .int .i64 (y151.TelemetryMsg.Value)], [], rfl, rfl, rfl⟩ rfl ?_
    intro b159 v160 H161 hv162 hle163 h164
    have hc165 : Value.cap' v160 = ([y151.TelemetryMsg]).length := by rw [hv162]; rfl
    obtain ⟨hz166, hm⟩ := need_some hm
    refine W_perm (List.Perm.swap _ _ _) ?_
    refine W_appendO (α := S_api_TelemetryMsg) (l := l142) (ys := [y151.TelemetryMsg]) rfl rfl Proofs.Try.underlying28 ⟨_, rfl, rfl, rfl, rfl⟩ rfl rfl rfl rfl rfl (hr143.mono hle163) h164 hz166 ?_
    intro v167 xs168 hr169
    refine W_assign rfl rfl rfl ?_
    refine W_end ?_
    refine E_normal_block ?_
    refine E_then ?_
    refine C_region ?_
    refine W_bin rfl rfl rfl rfl rfl ?_
    refine W_move rfl rfl rfl ?_
    refine W_end ?_
    refine E_drop (List.Sublist.cons_cons _ (List.Sublist.cons _ (List.Sublist.refl _))) ?_
    exact E_keepJ (E_back (Nat.lt_succ_self _) ⟨k101 + 1, zs152, (l142 ++ ([y151.TelemetryMsg])), v167, xs168, hd155, rfl, (by rw [hn148]; exact hm), hr169, (Hp.le_trans hle145 hle163), rfl, rfl⟩) (List.Perm.refl _) ⟨rfl, rfl, rfl, (congrArg (fun z => some (Value.int .i64 z)) (i64_succ hy153 hmx150)), trivial⟩
  · obtain rfl := rng_f hd154 hb156
    have hm : ((m_slices_SortFunc_api_TelemetryMsg_api_TelemetryMsg__telemetry_Points_List_1 l142).bind fun r170 => some r170) = some r := hm
    refine C_exit (E_exit_then ?_)
    refine E_exit_then ?_
    refine E_exit_hit ?_
    refine E_then ?_
    refine C_seq ?_
    refine C_region ?_
    refine W_move rfl rfl rfl ?_
    obtain ⟨r170, hc171, hm⟩ := bind_some hm
    refine W_call Proofs.Try.call24 rfl rfl rfl (fun w ht => by have h := m_slices_SortFunc_api_TelemetryMsg_api_TelemetryMsg__telemetry_Points_List_1_c (hm := hc171) hr143 ht; exact h) ?_
    rintro _ _ _ ⟨rfl, xs173, rfl, rfl, h174⟩
    have h174 := h174 H144
    refine W_end ?_
    refine E_then ?_
    refine C_seq ?_
    refine C_region ?_
    refine W_move rfl rfl rfl ?_
    refine W_assign rfl rfl rfl ?_
    refine W_end ?_
    refine E_then ?_
    refine C_ret ?_
    obtain rfl := Option.some.inj hm
    refine E_weak hle145 ?_
    exact end1 rfl rfl ⟨rfl, v140, xs173, rfl, rfl, (h174).toF⟩
end Go.Sim
