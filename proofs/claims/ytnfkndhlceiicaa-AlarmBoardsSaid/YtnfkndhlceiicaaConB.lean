/-
  Printed by a program: each Go function computes its model.
-/
import Derived.Test.YtnfkndhlceiicaaConB1
namespace Go.Sim
open Go
set_option linter.unusedVariables false
set_option linter.unusedSimpArgs false
set_option maxRecDepth 100000
theorem m_cmp_isNaN_int_c {B : Nat} {w0 w : World} {H : Hp} {M : List Res} {p0_x : Int} {r : Bool} (hm : m_cmp_isNaN_int p0_x = r) (ht : St B w0 H (M) w) :
    Calls Proofs.Try.prog 51 [.int .i64 (p0_x)].toArray w (Ret B w0 fun H' M' v => H = H' ∧ M = M' ∧ .bool (r) = v) := by
  unfold m_cmp_isNaN_int at hm
  refine enter Proofs.Try.func51 rfl rfl rfl ht ?_
  refine C_seq ?_
  refine C_region ?_
  refine W_assign rfl rfl rfl ?_
  refine W_end ?_
  refine E_then ?_
  refine C_seq ?_
  refine C_region ?_
  refine W_move rfl rfl rfl ?_
  refine W_move rfl rfl rfl ?_
  refine W_bin rfl rfl rfl rfl rfl ?_
  refine W_assign rfl rfl rfl ?_
  refine W_end ?_
  refine E_then ?_
  refine C_ret ?_
  obtain rfl := hm
  refine E_weak (Hp.le_refl _) ?_
  exact end1 rfl rfl ⟨rfl, rfl, rfl⟩

theorem m_cmp_Compare_int_c {B : Nat} {w0 w : World} {H : Hp} {M : List Res} {p0_x : Int} {p1_y : Int} {r : Int} (hm : m_cmp_Compare_int p0_x p1_y = r) (ht : St B w0 H (M) w) :
    Calls Proofs.Try.prog 33 [.int .i64 (p0_x), .int .i64 (p1_y)].toArray w (Ret B w0 fun H' M' v => H = H' ∧ M = M' ∧ .int .i64 (r) = v) := by
  unfold m_cmp_Compare_int at hm
  refine enter Proofs.Try.func33 rfl rfl rfl ht ?_
  refine C_seq ?_
  refine C_region ?_
  refine W_assign rfl rfl rfl ?_
  refine W_end ?_
  refine E_then ?_
  refine C_seq ?_
  refine C_region ?_
  refine W_move rfl rfl rfl ?_
  refine W_call Proofs.Try.call51 rfl rfl rfl (fun w ht => by have h := m_cmp_isNaN_int_c (hm := (rfl : m_cmp_isNaN_int p0_x = _))  ht; exact h) ?_
  rintro _ _ _ ⟨rfl, rfl, rfl⟩
  refine W_assign rfl rfl rfl ?_
  refine W_end ?_
  refine E_then ?_
  refine C_seq ?_
  refine C_region ?_
  refine W_move rfl rfl rfl ?_
  refine W_call Proofs.Try.call51 rfl rfl rfl (fun w ht => by have h := m_cmp_isNaN_int_c (hm := (rfl : m_cmp_isNaN_int p1_y = _))  ht; exact h) ?_
  rintro _ _ _ ⟨rfl, rfl, rfl⟩
  refine W_assign rfl rfl rfl ?_
  refine W_end ?_
  refine E_then ?_
  refine C_seq ?_
  refine C_seq ?_
  refine C_region ?_
  refine W_move rfl rfl rfl ?_
  refine W_end ?_
  refine E_then ?_
  refine C_cond (b := (m_cmp_isNaN_int p0_x)) rfl (fun hb101 => ?_) (fun hb101 => ?_)
  · have hm := ite_t' hb101 hm
    refine C_seq ?_
    refine C_seq ?_
    refine C_region ?_
    refine W_move rfl rfl rfl ?_
    refine W_end ?_
    refine E_then ?_
    refine C_cond (b := (m_cmp_isNaN_int p1_y)) rfl (fun hb102 => ?_) (fun hb102 => ?_)
    · have hm := ite_t' hb102 hm
      refine C_seq ?_
      refine C_region ?_
      refine W_assign rfl rfl rfl ?_
      refine W_end ?_
      refine E_then ?_
      refine C_ret ?_
      refine E_ret_then ?_
      refine E_ret_then ?_
      obtain rfl := hm
      refine E_weak (Hp.le_refl _) ?_
      exact end1 rfl rfl ⟨rfl, rfl, rfl⟩
    · have hm := ite_f' hb102 hm
      refine C_skip ?_
      refine E_then ?_
      refine C_seq ?_
      refine C_region ?_
      refine W_assign rfl rfl rfl ?_
      refine W_end ?_
      refine E_then ?_
      refine C_ret ?_
      refine E_ret_then ?_
      obtain rfl := hm
      refine E_weak (Hp.le_refl _) ?_
      exact end1 rfl rfl ⟨rfl, rfl, rfl⟩
  · have hm := ite_f' hb101 hm
    refine C_skip ?_
    refine E_then ?_
    refine C_seq ?_
    refine C_seq ?_
    refine C_region ?_
    refine W_move rfl rfl rfl ?_
    refine W_end ?_
    refine E_then ?_
    refine C_cond (b := (m_cmp_isNaN_int p1_y)) rfl (fun hb103 => ?_) (fun hb103 => ?_)
    · have hm := ite_t' hb103 hm
      refine C_seq ?_
      refine C_region ?_
      refine W_assign rfl rfl rfl ?_
      refine W_end ?_
      refine E_then ?_
      refine C_ret ?_
      refine E_ret_then ?_
      obtain rfl := hm
      refine E_weak (Hp.le_refl _) ?_
      exact end1 rfl rfl ⟨rfl, rfl, rfl⟩
    · have hm := ite_f' hb103 hm
      refine C_skip ?_
      refine E_then ?_
      refine C_seq ?_
      refine C_seq ?_
      refine C_region ?_
      refine W_move rfl rfl rfl ?_
      refine W_move rfl rfl rfl ?_
      refine W_bin rfl rfl rfl rfl rfl ?_
      refine W_end ?_
      refine E_then ?_
      refine C_cond (b := decide (p0_x < p1_y)) rfl (fun hb104 => ?_) (fun hb104 => ?_)
      · have hm := ite_t' hb104 hm
        refine C_seq ?_
        refine C_region ?_
        refine W_assign rfl rfl rfl ?_
        refine W_end ?_
        refine E_then ?_
        refine C_ret ?_
        refine E_ret_then ?_
        obtain rfl := hm
        refine E_weak (Hp.le_refl _) ?_
        exact end1 rfl rfl ⟨rfl, rfl, rfl⟩
      · have hm := ite_f' hb104 hm
        refine C_skip ?_
        refine E_then ?_
        refine C_seq ?_
        refine C_seq ?_
        refine C_region ?_
        refine W_move rfl rfl rfl ?_
        refine W_move rfl rfl rfl ?_
        refine W_bin rfl rfl rfl rfl rfl ?_
        refine W_end ?_
        refine E_then ?_
        refine C_cond (b := decide (p1_y < p0_x)) rfl (fun hb105 => ?_) (fun hb105 => ?_)
        · have hm := ite_t' hb105 hm
          refine C_seq ?_
          refine C_region ?_
          refine W_assign rfl rfl rfl ?_
          refine W_end ?_
          refine E_then ?_
          refine C_ret ?_
          refine E_ret_then ?_
          obtain rfl := hm
          refine E_weak (Hp.le_refl _) ?_
          exact end1 rfl rfl ⟨rfl, rfl, rfl⟩
        · have hm := ite_f' hb105 hm
          refine C_skip ?_
          refine E_then ?_
          refine C_seq ?_
          refine C_region ?_
          refine W_assign rfl rfl rfl ?_
          refine W_end ?_
          refine E_then ?_
          refine C_ret ?_
          obtain rfl := hm
          refine E_weak (Hp.le_refl _) ?_
          exact end1 rfl rfl ⟨rfl, rfl, rfl⟩

theorem m_cmp_Compare_string_c {B : Nat} {w0 w : World} {H : Hp} {M : List Res} {p0_x : ByteArray} {p1_y : ByteArray} {r : Int} (hm : m_cmp_Compare_string p0_x p1_y = r) (ht : St B w0 H (M) w) :
    Calls Proofs.Try.prog 34 [.string (p0_x), .string (p1_y)].toArray w (Ret B w0 fun H' M' v => H = H' ∧ M = M' ∧ .int .i64 (r) = v) := by
  unfold m_cmp_Compare_string at hm
  refine enter Proofs.Try.func34 rfl rfl rfl ht ?_
  refine C_seq ?_
  refine C_region ?_
  refine W_assign rfl rfl rfl ?_
  refine W_end ?_
  refine E_then ?_
  refine C_seq ?_
  refine C_region ?_
  refine W_move rfl rfl rfl ?_
  refine W_call Proofs.Try.call52 rfl rfl rfl (fun w ht => by have h := m_cmp_isNaN_string_c (hm := (rfl : m_cmp_isNaN_string p0_x = _))  ht; exact h) ?_
  rintro _ _ _ ⟨rfl, rfl, rfl⟩
  refine W_assign rfl rfl rfl ?_
  refine W_end ?_
  refine E_then ?_
  refine C_seq ?_
  refine C_region ?_
  refine W_move rfl rfl rfl ?_
  refine W_call Proofs.Try.call52 rfl rfl rfl (fun w ht => by have h := m_cmp_isNaN_string_c (hm := (rfl : m_cmp_isNaN_string p1_y = _))  ht; exact h) ?_
  rintro _ _ _ ⟨rfl, rfl, rfl⟩
  refine W_assign rfl rfl rfl ?_
  refine W_end ?_
  refine E_then ?_
  refine C_seq ?_
  refine C_seq ?_
  refine C_region ?_
  refine W_move rfl rfl rfl ?_
  refine W_end ?_
  refine E_then ?_
  refine C_cond (b := (m_cmp_isNaN_string p0_x)) rfl (fun hb101 => ?_) (fun hb101 => ?_)
  · have hm := ite_t' hb101 hm
    refine C_seq ?_
    refine C_seq ?_
    refine C_region ?_
    refine W_move rfl rfl rfl ?_
    refine W_end ?_
    refine E_then ?_
    refine C_cond (b := (m_cmp_isNaN_string p1_y)) rfl (fun hb102 => ?_) (fun hb102 => ?_)
    · have hm := ite_t' hb102 hm
      refine C_seq ?_
      refine C_region ?_
      refine W_assign rfl rfl rfl ?_
      refine W_end ?_
      refine E_then ?_
      refine C_ret ?_
      refine E_ret_then ?_
      refine E_ret_then ?_
      obtain rfl := hm
      refine E_weak (Hp.le_refl _) ?_
      exact end1 rfl rfl ⟨rfl, rfl, rfl⟩
    · have hm := ite_f' hb102 hm
      refine C_skip ?_
      refine E_then ?_
      refine C_seq ?_
      refine C_region ?_
      refine W_assign rfl rfl rfl ?_
      refine W_end ?_
      refine E_then ?_
      refine C_ret ?_
      refine E_ret_then ?_
      obtain rfl := hm
      refine E_weak (Hp.le_refl _) ?_
      exact end1 rfl rfl ⟨rfl, rfl, rfl⟩
  · have hm := ite_f' hb101 hm
    refine C_skip ?_
    refine E_then ?_
    refine C_seq ?_
    refine C_seq ?_
    refine C_region ?_
    refine W_move rfl rfl rfl ?_
    refine W_end ?_
    refine E_then ?_
    refine C_cond (b := (m_cmp_isNaN_string p1_y)) rfl (fun hb103 => ?_) (fun hb103 => ?_)
    · have hm := ite_t' hb103 hm
      refine C_seq ?_
      refine C_region ?_
      refine W_assign rfl rfl rfl ?_
      refine W_end ?_
      refine E_then ?_
      refine C_ret ?_
      refine E_ret_then ?_
      obtain rfl := hm
      refine E_weak (Hp.le_refl _) ?_
      exact end1 rfl rfl ⟨rfl, rfl, rfl⟩
    · have hm := ite_f' hb103 hm
      refine C_skip ?_
      refine E_then ?_
      refine C_seq ?_
      refine C_seq ?_
      refine C_region ?_
      refine W_move rfl rfl rfl ?_
      refine W_move rfl rfl rfl ?_
      refine W_cmpS rfl rfl rfl rfl (.inl ⟨rfl, rfl⟩) ?_
      refine W_end ?_
      refine E_then ?_
      refine C_cond (b := ltS p0_x p1_y) rfl (fun hb104 => ?_) (fun hb104 => ?_)
      · have hm := ite_t' hb104 hm
        refine C_seq ?_
        refine C_region ?_
        refine W_assign rfl rfl rfl ?_
        refine W_end ?_
        refine E_then ?_
        refine C_ret ?_
        refine E_ret_then ?_
        obtain rfl := hm
        refine E_weak (Hp.le_refl _) ?_
        exact end1 rfl rfl ⟨rfl, rfl, rfl⟩
      · have hm := ite_f' hb104 hm
        refine C_skip ?_
        refine E_then ?_
        refine C_seq ?_
        refine C_seq ?_
        refine C_region ?_
        refine W_move rfl rfl rfl ?_
        refine W_move rfl rfl rfl ?_
        refine W_cmpS rfl rfl rfl rfl (.inr (.inl ⟨rfl, rfl⟩)) ?_
        refine W_end ?_
        refine E_then ?_
        refine C_cond (b := ltS p1_y p0_x) rfl (fun hb105 => ?_) (fun hb105 => ?_)
        · have hm := ite_t' hb105 hm
          refine C_seq ?_
          refine C_region ?_
          refine W_assign rfl rfl rfl ?_
          refine W_end ?_
          refine E_then ?_
          refine C_ret ?_
          refine E_ret_then ?_
          obtain rfl := hm
          refine E_weak (Hp.le_refl _) ?_
          exact end1 rfl rfl ⟨rfl, rfl, rfl⟩
        · have hm := ite_f' hb105 hm
          refine C_skip ?_
          refine E_then ?_
          refine C_seq ?_
          refine C_region ?_
          refine W_assign rfl rfl rfl ?_
          refine W_end ?_
          refine E_then ?_
          refine C_ret ?_
          obtain rfl := hm
          refine E_weak (Hp.le_refl _) ?_
          exact end1 rfl rfl ⟨rfl, rfl, rfl⟩

theorem m_cmp_Or_int_c {B : Nat} {w0 w : World} {H : Hp} {M : List Res} {vals : (List Int)} {v0 : Value} {r : Int} (hm : m_cmp_Or_int vals = some r) (h0 : RdS H v0 vals) (ht : St B w0 H (M) w) :
    Calls Proofs.Try.prog 32 [v0].toArray w (Ret B w0 fun H' M' v => H = H' ∧ M = M' ∧ .int .i64 (r) = v) := by
  unfold m_cmp_Or_int at hm
  refine enter Proofs.Try.func32 rfl rfl rfl ht ?_
  refine C_seq ?_
  refine C_region ?_
  refine W_assign rfl rfl rfl ?_
  refine W_end ?_
  refine E_then ?_
  refine C_seq ?_
  refine C_region ?_
  refine W_assign rfl rfl rfl ?_
  refine W_end ?_
  refine E_then ?_
  refine C_seq ?_
  refine C_seq ?_
  refine C_region ?_
  refine W_move rfl rfl rfl ?_
  refine W_lenR rfl rfl Proofs.Try.runUnderlying83 rfl h0 ?_
  refine W_move rfl rfl rfl ?_
  refine W_end ?_
  refine E_then ?_
  refine C_block ?_
  refine C_keep (L' := [(3, .int .i64 (0)), (6, v0), (7, .int .i64 ((vals.length : Int))), (8, .int .i64 (((0 : Nat) : Int)))]) ⟨rfl, rfl, rfl, rfl, trivial⟩ (List.Perm.refl _) ?_
  refine C_loop (fun n H' M' L' => ∃ (k101 : Nat) (zs113' : List Int), (vals).drop k101 = zs113' ∧ zs113'.length = n ∧ forI (fun k y s108 n => m_cmp_Or_int_b1 k y n) (fun _ => some 0) k101 zs113' () = some r ∧ H.le H' ∧ M = M' ∧ [(3, .int .i64 (0)), (6, v0), (7, .int .i64 ((vals.length : Int))), (8, .int .i64 ((k101 : Int)))] = L') _ ⟨0, _, rfl, rfl, hm, (Hp.le_refl _), rfl, rfl⟩ ?_
  rintro _ H106 _ _ ⟨k101, zs113', hd115, rfl, hm, hle107, rfl, rfl⟩
  refine C_seq ?_
  refine C_region ?_
  refine W_bin rfl rfl rfl rfl rfl ?_
  refine W_end (E_then ?_)
  refine C_seq ?_
  refine C_cond (b := decide ((k101 : Int) < (vals.length : Int))) rfl (fun hb117 => ?_) (fun hb117 => ?_)
  · obtain ⟨y112, zs113, rfl, hy114, hd116⟩ := rng_t hd115 hb117
    have hm : m_cmp_Or_int_b1 k101 y112 (forI (fun k y s108 n => m_cmp_Or_int_b1 k y n) (fun _ => some 0) (k101 + 1) zs113) = some r := hm
    generalize hn110 : forI (fun k y s108 n => m_cmp_Or_int_b1 k y n) (fun _ => some 0) (k101 + 1) zs113 = nx109 at hm
    unfold m_cmp_Or_int_b1 at hm
    refine C_skip (E_then ?_)
    refine C_seq ?_
    refine C_block ?_
    refine C_seq ?_
    refine C_region ?_
    obtain ⟨_, rfl, hc118⟩ := (h0).elem hy114
    refine W_indexS rfl rfl Proofs.Try.runUnderlying83 Proofs.Try.sizeOf3 rfl (h0.mono hle107) rfl (Int.natCast_nonneg _) hy114 ?_
    refine W_load rfl rfl Proofs.Try.isAgg3 rfl (HCells.one (hc118.mono hle107) 0 rfl).at ?_
    refine W_assign rfl rfl rfl ?_
    refine W_end ?_
    refine E_then ?_
    refine C_seq ?_
    refine C_region ?_
    refine W_move rfl rfl rfl ?_
    refine W_move rfl rfl rfl ?_
    refine W_bin rfl rfl rfl rfl rfl ?_
    refine W_end ?_
    refine E_then ?_
    refine C_cond (b := !decide (y112 = 0)) rfl (fun hb119 => ?_) (fun hb119 => ?_)
    · have hm := ite_t' hb119 hm
      refine C_seq ?_
      refine C_region ?_
      refine W_move rfl rfl rfl ?_
      refine W_assign rfl rfl rfl ?_
      refine W_end ?_
      refine E_then ?_
      refine C_ret ?_
      refine E_ret_block ?_
      refine E_ret_then ?_
      refine E_ret_then ?_
      refine E_ret_block ?_
      refine E_ret_then ?_
      obtain rfl := Option.some.inj hm
      refine E_weak hle107 ?_
      exact end1 rfl rfl ⟨rfl, rfl, rfl⟩
    · have hm := ite_f' hb119 hm
      refine C_skip ?_
      refine E_normal_block ?_
      refine E_then ?_
      refine C_region ?_
      refine W_bin rfl rfl rfl rfl rfl ?_
      refine W_move rfl rfl rfl ?_
      refine W_end ?_
      exact E_keepJ (E_back (Nat.lt_succ_self _) ⟨k101 + 1, zs113, hd116, rfl, (by rw [hn110]; exact hm), hle107, rfl, rfl⟩) (List.Perm.refl _) ⟨rfl, rfl, rfl, (congrArg (fun z => some (Value.int .i64 z)) (i64_succ hy114 ((h0.mono hle107)).lenMax)), trivial⟩
  · obtain rfl := rng_f hd115 hb117
    have hm : (some 0) = some r := hm
    refine C_exit (E_exit_then ?_)
    refine E_exit_then ?_
    refine E_exit_hit ?_
    refine E_then ?_
    refine C_seq ?_
    refine C_region ?_
    refine W_move rfl rfl rfl ?_
    refine W_assign rfl rfl rfl ?_
    refine W_end ?_
    refine E_then ?_
    refine C_ret ?_
    obtain rfl := Option.some.inj hm
    refine E_weak hle107 ?_
    exact end1 rfl rfl ⟨rfl, rfl, rfl⟩

theorem m_alarm_Board_All_1_c {B : Nat} {w0 w : World} {H : Hp} {M : List Res} {p0_x : S_api_AlarmEntry} {p1_y : S_api_AlarmEntry} {r : Int} (hm : m_alarm_Board_All_1 p0_x p1_y = some r) (ht : St B w0 H (M) w) :
    Calls Proofs.Try.prog 31 [.agg [.string (p0_x.Name), .int .i64 (p0_x.Time), .bool (p0_x.Acked)].toArray, .agg [.string (p1_y.Name), .int .i64 (p1_y.Time), .bool (p1_y.Acked)].toArray].toArray w (Ret B w0 fun H' M' v => H = H' ∧ M = M' ∧ .int .i64 (r) = v) := by
  unfold m_alarm_Board_All_1 at hm
  refine enter Proofs.Try.func31 rfl rfl rfl ht ?_
  refine C_seq ?_
  refine C_region ?_
  refine W_box (cs := [.string (p0_x.Name), .int .i64 (p0_x.Time), .bool (p0_x.Acked)]) rfl rfl rfl rfl (fun b101 => ?_)
  refine W_box (cs := [.string (p1_y.Name), .int .i64 (p1_y.Time), .bool (p1_y.Acked)]) rfl rfl rfl rfl (fun b102 => ?_)
  refine W_assign rfl rfl rfl ?_
  refine W_end ?_
  refine E_then ?_
  refine C_seq ?_
  refine C_region_tok0 9 (phiT [(fun H rs v => [] = rs ∧ .pointer (some ⟨b101, 1, none⟩) = v), (fun H rs v => [] = rs ∧ .int .i64 (p0_x.Time) = v), (fun H rs v => [] = rs ∧ .pointer (some ⟨b102, 1, none⟩) = v), (fun H rs v => [] = rs ∧ .int .i64 (p1_y.Time) = v), (fun H rs v => [] = rs ∧ .int .i64 ((m_cmp_Compare_int p0_x.Time p1_y.Time)) = v), (fun H rs v => [] = rs ∧ .pointer (some ⟨b101, 0, none⟩) = v), (fun H rs v => [] = rs ∧ .string (p0_x.Name) = v), (fun H rs v => [] = rs ∧ .pointer (some ⟨b102, 0, none⟩) = v), (fun H rs v => [] = rs ∧ .string (p1_y.Name) = v)]) [[], [], [], [], [], [], [], [], []] [[], [], [], [], [], [], [], [], []] [] [0, 1, 2, 3, 4, 5, 6, 7, 8] Facts.mixed (by kernel_rfl) rfl rfl rfl (by kernel_rfl) (phiT_mono ⟨eq_monoT _ _, eq_monoT _ _, eq_monoT _ _, eq_monoT _ _, eq_monoT _ _, eq_monoT _ _, eq_monoT _ _, eq_monoT _ _, eq_monoT _ _, trivial⟩) ⟨?_, ?_, ?_, ?_, ?_, ?_, ?_, ?_, ?_, trivial⟩ ?_
  · intro HX hX X Rest hR
    intro hU
    refine W_field (o := 1) rfl rfl Proofs.Try.runUnderlying39 rfl Proofs.Try.sizeOf3 rfl rfl rfl ?_
    exact W_end (OneT_end [] (Hp.le_refl _) ⟨rfl, rfl⟩)
  · intro HX hX X Rest hR
    rintro _ _ ⟨rfl, rfl⟩
    intro hU
    refine W_load rfl rfl Proofs.Try.isAgg3 rfl (own_at (hR _ (List.mem_cons_of_mem _ (List.mem_cons_self ..))) rfl) ?_
    exact W_end (OneT_end [] (Hp.le_refl _) ⟨rfl, rfl⟩)
  · intro HX hX X Rest hR
    intro hU
    refine W_field (o := 1) rfl rfl Proofs.Try.runUnderlying39 rfl Proofs.Try.sizeOf3 rfl rfl rfl ?_
    exact W_end (OneT_end [] (Hp.le_refl _) ⟨rfl, rfl⟩)
  · intro HX hX X Rest hR
    rintro _ _ ⟨rfl, rfl⟩
    intro hU
    refine W_load rfl rfl Proofs.Try.isAgg3 rfl (own_at (hR _ (List.mem_cons_self ..)) rfl) ?_
    exact W_end (OneT_end [] (Hp.le_refl _) ⟨rfl, rfl⟩)
  · intro HX hX X Rest hR
    rintro _ _ ⟨rfl, rfl⟩
    rintro _ _ ⟨rfl, rfl⟩
    intro hU
    refine W_call Proofs.Try.call33 rfl rfl rfl (fun w ht => by have h := m_cmp_Compare_int_c (hm := (rfl : m_cmp_Compare_int p0_x.Time p1_y.Time = _))  ht; exact h) ?_
    rintro _ _ _ ⟨rfl, rfl, rfl⟩
    exact W_end (OneT_end [] (Hp.le_refl _) ⟨rfl, rfl⟩)
  · intro HX hX X Rest hR
    intro hU
    refine W_field (o := 0) rfl rfl Proofs.Try.runUnderlying39 rfl Proofs.Try.sizeOf9 rfl rfl rfl ?_
    exact W_end (OneT_end [] (Hp.le_refl _) ⟨rfl, rfl⟩)
  · intro HX hX X Rest hR
    rintro _ _ ⟨rfl, rfl⟩
    intro hU
    refine W_load rfl rfl Proofs.Try.isAgg9 rfl (own_at (hR _ (List.mem_cons_of_mem _ (List.mem_cons_self ..))) rfl) ?_
    exact W_end (OneT_end [] (Hp.le_refl _) ⟨rfl, rfl⟩)
  · intro HX hX X Rest hR
    intro hU
    refine W_field (o := 0) rfl rfl Proofs.Try.runUnderlying39 rfl Proofs.Try.sizeOf9 rfl rfl rfl ?_
    exact W_end (OneT_end [] (Hp.le_refl _) ⟨rfl, rfl⟩)
  · intro HX hX X Rest hR
    rintro _ _ ⟨rfl, rfl⟩
    intro hU
    refine W_load rfl rfl Proofs.Try.isAgg9 rfl (own_at (hR _ (List.mem_cons_self ..)) rfl) ?_
    exact W_end (OneT_end [] (Hp.le_refl _) ⟨rfl, rfl⟩)
  intro H103 hle104
  rintro _ _ ⟨rfl, rfl⟩
  rintro _ _ ⟨rfl, rfl⟩
  rintro _ _ ⟨rfl, rfl⟩
  rintro _ _ ⟨rfl, rfl⟩
  rintro _ _ ⟨rfl, rfl⟩
  rintro _ _ ⟨rfl, rfl⟩
  rintro _ _ ⟨rfl, rfl⟩
  rintro _ _ ⟨rfl, rfl⟩
  rintro _ _ ⟨rfl, rfl⟩
  refine W_call Proofs.Try.call34 rfl rfl rfl (fun w ht => by have h := m_cmp_Compare_string_c (hm := (rfl : m_cmp_Compare_string p0_x.Name p1_y.Name = _))  ht; exact h) ?_
  rintro _ _ _ ⟨rfl, rfl, rfl⟩
  refine W_buildSliceO (α := Int) (css := [[.int .i64 ((m_cmp_Compare_int p0_x.Time p1_y.Time))], [.int .i64 ((m_cmp_Compare_string p0_x.Name p1_y.Name))]]) (zs := [.int .i64 (0), .int .i64 (0)]) (out := [.int .i64 ((m_cmp_Compare_int p0_x.Time p1_y.Time)), .int .i64 ((m_cmp_Compare_string p0_x.Name p1_y.Name))]) (ys := [((m_cmp_Compare_int p0_x.Time p1_y.Time)), ((m_cmp_Compare_string p0_x.Name p1_y.Name))]) rfl rfl rfl ⟨rfl, rfl, trivial⟩ Proofs.Try.runUnderlying83 Proofs.Try.sizeOf3 rfl Proofs.Try.zeroValue3 (by kernel_rfl) rfl rfl rfl rfl ⟨[.int .i64 ((m_cmp_Compare_int p0_x.Time p1_y.Time))], [.int .i64 ((m_cmp_Compare_string p0_x.Name p1_y.Name))], rfl, rfl, ⟨[.int .i64 ((m_cmp_Compare_string p0_x.Name p1_y.Name))], [], rfl, rfl, rfl⟩⟩ rfl ?_
  intro v105 xs106 hr107
  obtain ⟨r108, hc109, hm⟩ := bind_some hm
  refine W_call Proofs.Try.call32 rfl rfl rfl (fun w ht => by obtain ⟨H0_, hl0_, ht0_, hr0_, bk0_⟩ := ht.lendRow hr107 rfl; have h := m_cmp_Or_int_c (hm := hc109) hr0_ ht0_; exact lend_back bk0_ (h)) ?_
  rintro _ _ _ ⟨rfl, ⟨_, rfl, rfl, rfl⟩⟩
  refine W_assign rfl rfl rfl ?_
  refine W_end ?_
  refine E_then ?_
  refine C_ret ?_
  obtain rfl := Option.some.inj hm
  refine E_drop (List.Sublist.cons _ (List.Sublist.cons _ (List.Sublist.cons _ (List.Sublist.refl _)))) ?_
  refine E_weak hle104 ?_
  exact end1 rfl rfl ⟨rfl, rfl, rfl⟩

theorem m_slices_insertionSortCmpFunc_api_AlarmEntry__alarm_Board_All_1_c {B : Nat} {w0 w : World} {H : Hp} {M : List Res} {data : (List S_api_AlarmEntry)} {p1_a : Int} {p2_b : Int} {v0 : Value} {xs0 : List Value} {r : (List S_api_AlarmEntry)} (hm : m_slices_insertionSortCmpFunc_api_AlarmEntry__alarm_Board_All_1 data p1_a p2_b = some r) (h0 : Rw H v0 xs0 data) (ht : St B w0 H (.row v0 39 (Rep.sz S_api_AlarmEntry) data.length xs0 :: M) w) :
    Calls Proofs.Try.prog 61 [v0, .int .i64 (p1_a), .int .i64 (p2_b), .func (.func 31) [].toArray [].toArray].toArray w (Ret B w0 fun H' M' v => H = H' ∧ ∃ qxs0 : List Value, .row v0 39 (Rep.sz S_api_AlarmEntry) r.length qxs0 :: M = M' ∧ .tuple #[] = v ∧ RwF v0 qxs0 r) := by
  unfold m_slices_insertionSortCmpFunc_api_AlarmEntry__alarm_Board_All_1 at hm
  refine enter Proofs.Try.func61 rfl rfl rfl ht ?_
  refine C_seq ?_
  refine C_region ?_
  refine W_move rfl rfl rfl ?_
  refine W_bin rfl rfl rfl rfl rfl ?_
  refine W_assign rfl rfl rfl ?_
  refine W_end ?_
  refine E_then ?_
  refine C_block ?_
  refine C_keep (L' := [(0, v0), (1, .int .i64 (p1_a)), (2, .int .i64 (p2_b)), (3, .func (.func 31) [].toArray [].toArray), (8, .int .i64 (IntKind.i64.wrap (p1_a + 1)))]) ⟨rfl, rfl, rfl, rfl, rfl, trivial⟩ (List.Perm.refl _) ?_
  refine C_loop (fun n H' M' L' => ∃ l455 : List S_api_AlarmEntry, ∃ n457 : Int, ∃ xs454 : List Value, loopF (fun s460 n => m_slices_insertionSortCmpFunc_api_AlarmEntry__alarm_Board_All_1_b3 p1_a p2_b s460.1 s460.2 n) n (l455, n457) = some r ∧ Rw H' v0 xs454 l455 ∧ H.le H' ∧ .row v0 39 (Rep.sz S_api_AlarmEntry) l455.length xs454 :: M = M' ∧ [(0, v0), (1, .int .i64 (p1_a)), (2, .int .i64 (p2_b)), (3, .func (.func 31) [].toArray [].toArray), (8, .int .i64 (n457))] = L') FUEL ⟨data, IntKind.i64.wrap (p1_a + 1), xs0, hm, h0, (Hp.le_refl _), rfl, rfl⟩ ?_
  rintro n463 H458 _ _ ⟨l455, n457, xs454, hm, hr456, hle459, rfl, rfl⟩
  cases n463 with
  | zero => cases hm
  | succ n463 =>
    have hm : m_slices_insertionSortCmpFunc_api_AlarmEntry__alarm_Board_All_1_b3 p1_a p2_b l455 n457 (loopF (fun s460 n => m_slices_insertionSortCmpFunc_api_AlarmEntry__alarm_Board_All_1_b3 p1_a p2_b s460.1 s460.2 n) n463) = some r := hm
    generalize hn462 : loopF (fun s460 n => m_slices_insertionSortCmpFunc_api_AlarmEntry__alarm_Board_All_1_b3 p1_a p2_b s460.1 s460.2 n) n463 = nx461 at hm
    unfold m_slices_insertionSortCmpFunc_api_AlarmEntry__alarm_Board_All_1_b3 at hm
    refine C_seq ?_
    refine C_seq ?_
    refine C_region ?_
    refine W_move rfl rfl rfl ?_
    refine W_move rfl rfl rfl ?_
    refine W_bin rfl rfl rfl rfl rfl ?_
    refine W_end ?_
    refine E_then ?_
    refine C_cond (b := decide (n457 < p2_b)) rfl (fun hb469 => ?_) (fun hb469 => ?_)
    · have hm := ite_t' hb469 hm
      refine C_skip ?_
      refine E_then ?_
      refine C_seq ?_
      refine C_block ?_
      refine C_seq ?_
      refine C_region ?_
      refine W_move rfl rfl rfl ?_
      refine W_assign rfl rfl rfl ?_
      refine W_end ?_
      refine E_then ?_
      refine C_block ?_
      refine C_keep (L' := [(0, v0), (1, .int .i64 (p1_a)), (2, .int .i64 (p2_b)), (3, .func (.func 31) [].toArray [].toArray), (8, .int .i64 (n457)), (9, .int .i64 (n457))]) ⟨rfl, rfl, rfl, rfl, rfl, rfl, trivial⟩ (List.Perm.refl _) ?_
      refine C_loop (fun n H' M' L' => ∃ l578 : List S_api_AlarmEntry, ∃ n580 : Int, ∃ xs577 : List Value, loopF (fun s583 n => m_slices_insertionSortCmpFunc_api_AlarmEntry__alarm_Board_All_1_b4 p1_a n457 nx461 s583.1 s583.2 n) n (l578, n580) = some r ∧ Rw H' v0 xs577 l578 ∧ H458.le H' ∧ .row v0 39 (Rep.sz S_api_AlarmEntry) l578.length xs577 :: M = M' ∧ [(0, v0), (1, .int .i64 (p1_a)), (2, .int .i64 (p2_b)), (3, .func (.func 31) [].toArray [].toArray), (8, .int .i64 (n457)), (9, .int .i64 (n580))] = L') FUEL ⟨l455, n457, xs454, hm, hr456, (Hp.le_refl _), rfl, rfl⟩ ?_
      rintro n586 H581 _ _ ⟨l578, n580, xs577, hm, hr579, hle582, rfl, rfl⟩
      cases n586 with
      | zero => cases hm
      | succ n586 =>
        have hm : m_slices_insertionSortCmpFunc_api_AlarmEntry__alarm_Board_All_1_b4 p1_a n457 nx461 l578 n580 (loopF (fun s583 n => m_slices_insertionSortCmpFunc_api_AlarmEntry__alarm_Board_All_1_b4 p1_a n457 nx461 s583.1 s583.2 n) n586) = some r := hm
        generalize hn585 : loopF (fun s583 n => m_slices_insertionSortCmpFunc_api_AlarmEntry__alarm_Board_All_1_b4 p1_a n457 nx461 s583.1 s583.2 n) n586 = nx584 at hm
        unfold m_slices_insertionSortCmpFunc_api_AlarmEntry__alarm_Board_All_1_b4 at hm
        refine C_seq ?_
        refine C_seq ?_
        cases hb592 : (decide (p1_a < n580))
        · have hm := ite_f' hb592 hm
          refine C_region_tok0 14 (phiT [(fun H rs v => [] = rs ∧ .int .i64 (n580) = v), (fun H rs v => [] = rs ∧ .int .i64 (p1_a) = v), (fun H rs v => [] = rs ∧ .bool (false) = v), (fun H rs v => [] = rs ∧ .bool (false) = v), (fun H rs v => [] = rs ∧ undef = v), (fun H rs v => [] = rs ∧ undef = v), (fun H rs v => [] = rs ∧ undef = v), (fun H rs v => [] = rs ∧ undef = v), (fun H rs v => [] = rs ∧ undef = v), (fun H rs v => [] = rs ∧ undef = v), (fun H rs v => [] = rs ∧ undef = v), (fun H rs v => [] = rs ∧ undef = v), (fun H rs v => [] = rs ∧ undef = v), (fun H rs v => [] = rs ∧ undef = v)]) [[], [], [], [], [], [], [], [], [], [], [], [], [], []] [[], [], [], [], [], [], [], [], [], [], [], [], [], []] [] [0, 1, 2, 3, 4, 5, 6, 7, 8, 9, 10, 11, 12, 13] Facts.mixed (by kernel_rfl) rfl rfl rfl (by kernel_rfl) (phiT_mono ⟨eq_monoT _ _, eq_monoT _ _, eq_monoT _ _, eq_monoT _ _, eq_monoT _ _, eq_monoT _ _, eq_monoT _ _, eq_monoT _ _, eq_monoT _ _, eq_monoT _ _, eq_monoT _ _, eq_monoT _ _, eq_monoT _ _, eq_monoT _ _, trivial⟩) ⟨?_, ?_, ?_, ?_, ?_, ?_, ?_, ?_, ?_, ?_, ?_, ?_, ?_, ?_, trivial⟩ ?_
          · intro HX hX X Rest hR
            intro hU
            refine W_move rfl rfl rfl ?_
            exact W_end (OneT_end [] (Hp.le_refl _) ⟨rfl, rfl⟩)
          · intro HX hX X Rest hR
            intro hU
            refine W_move rfl rfl rfl ?_
            exact W_end (OneT_end [] (Hp.le_refl _) ⟨rfl, rfl⟩)
          · intro HX hX X Rest hR
            rintro _ _ ⟨rfl, rfl⟩
            rintro _ _ ⟨rfl, rfl⟩
            intro hU
            refine W_bin rfl rfl rfl rfl rfl ?_
            exact W_end (OneT_end [] (Hp.le_refl _) ⟨rfl, (by first | rfl | (rw [hb592]; try rfl))⟩)
          · intro HX hX X Rest hR
            rintro _ _ ⟨rfl, rfl⟩
            intro hU
            refine W_move rfl rfl rfl ?_
            exact W_end (OneT_end [] (Hp.le_refl _) ⟨rfl, rfl⟩)
          · intro HX hX X Rest hR
            rintro _ _ ⟨rfl, rfl⟩
            intro hU
            refine W_no rfl rfl rfl ?_
            exact W_end (OneT_end [] (Hp.le_refl _) ⟨rfl, rfl⟩)
          · intro HX hX X Rest hR
            rintro _ _ ⟨rfl, rfl⟩
            intro hU
            refine W_no rfl rfl rfl ?_
            exact W_end (OneT_end [] (Hp.le_refl _) ⟨rfl, rfl⟩)
          · intro HX hX X Rest hR
            rintro _ _ ⟨rfl, rfl⟩
            intro hU
            refine W_no rfl rfl rfl ?_
            exact W_end (OneT_end [] (Hp.le_refl _) ⟨rfl, rfl⟩)
          · intro HX hX X Rest hR
            rintro _ _ ⟨rfl, rfl⟩
            rintro _ _ ⟨rfl, rfl⟩
            rintro _ _ ⟨rfl, rfl⟩
            intro hU
            refine W_no rfl rfl rfl ?_
            exact W_end (OneT_end [] (Hp.le_refl _) ⟨rfl, rfl⟩)
          · intro HX hX X Rest hR
            rintro _ _ ⟨rfl, rfl⟩
            rintro _ _ ⟨rfl, rfl⟩
            intro hU
            refine W_no rfl rfl rfl ?_
            exact W_end (OneT_end [] (Hp.le_refl _) ⟨rfl, rfl⟩)
          · intro HX hX X Rest hR
            rintro _ _ ⟨rfl, rfl⟩
            intro hU
            refine W_no rfl rfl rfl ?_
            exact W_end (OneT_end [] (Hp.le_refl _) ⟨rfl, rfl⟩)
          · intro HX hX X Rest hR
            rintro _ _ ⟨rfl, rfl⟩
            intro hU
            refine W_no rfl rfl rfl ?_
            exact W_end (OneT_end [] (Hp.le_refl _) ⟨rfl, rfl⟩)
          · intro HX hX X Rest hR
            rintro _ _ ⟨rfl, rfl⟩
            rintro _ _ ⟨rfl, rfl⟩
            intro hU
            refine W_no rfl rfl rfl ?_
            exact W_end (OneT_end [] (Hp.le_refl _) ⟨rfl, rfl⟩)
          · intro HX hX X Rest hR
            rintro _ _ ⟨rfl, rfl⟩
            rintro _ _ ⟨rfl, rfl⟩
            rintro _ _ ⟨rfl, rfl⟩
            intro hU
            refine W_no rfl rfl rfl ?_
            exact W_end (OneT_end [] (Hp.le_refl _) ⟨rfl, rfl⟩)
          · intro HX hX X Rest hR
            rintro _ _ ⟨rfl, rfl⟩
            rintro _ _ ⟨rfl, rfl⟩
            intro hU
            refine W_no rfl rfl rfl ?_
            exact W_end (OneT_end [] (Hp.le_refl _) ⟨rfl, rfl⟩)
          intro H593 hle594
          rintro _ _ ⟨rfl, rfl⟩
          rintro _ _ ⟨rfl, rfl⟩
          rintro _ _ ⟨rfl, rfl⟩
          rintro _ _ ⟨rfl, rfl⟩
          rintro _ _ ⟨rfl, rfl⟩
          rintro _ _ ⟨rfl, rfl⟩
          rintro _ _ ⟨rfl, rfl⟩
          rintro _ _ ⟨rfl, rfl⟩
          rintro _ _ ⟨rfl, rfl⟩
          rintro _ _ ⟨rfl, rfl⟩
          rintro _ _ ⟨rfl, rfl⟩
          rintro _ _ ⟨rfl, rfl⟩
          rintro _ _ ⟨rfl, rfl⟩
          rintro _ _ ⟨rfl, rfl⟩
          refine W_no rfl rfl rfl ?_
          refine W_no rfl rfl rfl ?_
          refine W_pick rfl rfl rfl rfl ?_
          refine W_end ?_
          refine E_then ?_
          refine C_cond (b := false) rfl (fun hb => Bool.noConfusion hb) (fun _ => ?_)
          refine C_exit ?_
          refine E_exit_then ?_
          refine E_exit_then ?_
          refine E_exit_hit ?_
          refine E_normal_block ?_
          refine E_then ?_
          refine C_region ?_
          refine W_move rfl rfl rfl ?_
          refine W_bin rfl rfl rfl rfl rfl ?_
          refine W_assign rfl rfl rfl ?_
          refine W_end ?_
          exact E_keepJ (E_back (Nat.lt_succ_self _) ⟨l578, IntKind.i64.wrap (n457 + 1), xs577, (by rw [hn462]; exact hm), (hr579.mono hle594), (Hp.le_trans (Hp.le_trans hle459 hle582) hle594), rfl, rfl⟩) (List.Perm.refl _) ⟨rfl, rfl, rfl, rfl, rfl, trivial⟩
        · have hm := ite_t' hb592 hm
          obtain ⟨y595, h596, he597, hm⟩ := idx_some hm
          obtain ⟨_, rfl, hg598⟩ := (hr579).elem he597
          obtain ⟨y599, h600, he601, hm⟩ := idx_some hm
          obtain ⟨_, rfl, hg602⟩ := (hr579).elem he601
          refine C_region_tok0 14 (phiT [(fun H rs v => [] = rs ∧ .int .i64 (n580) = v), (fun H rs v => [] = rs ∧ .int .i64 (p1_a) = v), (fun H rs v => [] = rs ∧ .bool (true) = v), (fun H rs v => [] = rs ∧ .bool (true) = v), (fun H rs v => [] = rs ∧ .func (.func 31) [].toArray [].toArray = v), (fun H rs v => [] = rs ∧ v0 = v), (fun H rs v => [] = rs ∧ .int .i64 (n580) = v), (fun H rs v => [] = rs ∧ .pointer (some ((Value.base (v0)).add ((n580 : Int).toNat * Rep.sz S_api_AlarmEntry))) = v), (fun H rs v => [] = rs ∧ .agg [.string (y595.Name), .int .i64 (y595.Time), .bool (y595.Acked)].toArray = v), (fun H rs v => [] = rs ∧ v0 = v), (fun H rs v => [] = rs ∧ .int .i64 (n580) = v), (fun H rs v => [] = rs ∧ .int .i64 (IntKind.i64.wrap (n580 - 1)) = v), (fun H rs v => [] = rs ∧ .pointer (some ((Value.base (v0)).add ((IntKind.i64.wrap (n580 - 1) : Int).toNat * Rep.sz S_api_AlarmEntry))) = v), (fun H rs v => [] = rs ∧ .agg [.string (y599.Name), .int .i64 (y599.Time), .bool (y599.Acked)].toArray = v)]) [[], [], [], [], [], [], [], [], [], [], [], [], [], []] [[], [], [], [], [], [], [], [], [], [], [], [], [], []] [] [0, 1, 2, 3, 4, 5, 6, 7, 8, 9, 10, 11, 12, 13] Facts.mixed (by kernel_rfl) rfl rfl rfl (by kernel_rfl) (phiT_mono ⟨eq_monoT _ _, eq_monoT _ _, eq_monoT _ _, eq_monoT _ _, eq_monoT _ _, eq_monoT _ _, eq_monoT _ _, eq_monoT _ _, eq_monoT _ _, eq_monoT _ _, eq_monoT _ _, eq_monoT _ _, eq_monoT _ _, eq_monoT _ _, trivial⟩) ⟨?_, ?_, ?_, ?_, ?_, ?_, ?_, ?_, ?_, ?_, ?_, ?_, ?_, ?_, trivial⟩ ?_
          · intro HX hX X Rest hR
            intro hU
            refine W_move rfl rfl rfl ?_
            exact W_end (OneT_end [] (Hp.le_refl _) ⟨rfl, rfl⟩)
          · intro HX hX X Rest hR
            intro hU
            refine W_move rfl rfl rfl ?_
            exact W_end (OneT_end [] (Hp.le_refl _) ⟨rfl, rfl⟩)
          · intro HX hX X Rest hR
            rintro _ _ ⟨rfl, rfl⟩
            rintro _ _ ⟨rfl, rfl⟩
            intro hU
            refine W_bin rfl rfl rfl rfl rfl ?_
            exact W_end (OneT_end [] (Hp.le_refl _) ⟨rfl, (by first | rfl | (rw [hb592]; try rfl))⟩)
          · intro HX hX X Rest hR
            rintro _ _ ⟨rfl, rfl⟩
            intro hU
            refine W_move rfl rfl rfl ?_
            exact W_end (OneT_end [] (Hp.le_refl _) ⟨rfl, rfl⟩)
          · intro HX hX X Rest hR
            rintro _ _ ⟨rfl, rfl⟩
            intro hU
            refine W_move rfl rfl rfl ?_
            exact W_end (OneT_end [] (Hp.le_refl _) ⟨rfl, rfl⟩)
          · intro HX hX X Rest hR
            rintro _ _ ⟨rfl, rfl⟩
            intro hU
            refine W_move rfl rfl rfl ?_
            exact W_end (OneT_end [] (Hp.le_refl _) ⟨rfl, rfl⟩)
          · intro HX hX X Rest hR
            rintro _ _ ⟨rfl, rfl⟩
            intro hU
            refine W_move rfl rfl rfl ?_
            exact W_end (OneT_end [] (Hp.le_refl _) ⟨rfl, rfl⟩)
          · intro HX hX X Rest hR
            rintro _ _ ⟨rfl, rfl⟩
            rintro _ _ ⟨rfl, rfl⟩
            rintro _ _ ⟨rfl, rfl⟩
            intro hU
            refine W_indexO (hR _ (List.mem_cons_self ..)) rfl rfl Proofs.Try.runUnderlying36 Proofs.Try.sizeOf39 rfl rfl h596 (List.getElem?_eq_some_iff.1 he597).1 ?_
            exact W_end (OneT_end [] (Hp.le_refl _) ⟨rfl, rfl⟩)
          · intro HX hX X Rest hR
            rintro _ _ ⟨rfl, rfl⟩
            rintro _ _ ⟨rfl, rfl⟩
            intro hU
            refine W_loadAgg (cs := [.string (y595.Name), .int .i64 (y595.Time), .bool (y595.Acked)]) rfl rfl Proofs.Try.isAgg39 Proofs.Try.sizeOf39 rfl (row_cells (hR _ (List.mem_cons_self ..)) hg598) rfl ?_
            exact W_end (OneT_end [] (Hp.le_refl _) ⟨rfl, rfl⟩)
          · intro HX hX X Rest hR
            rintro _ _ ⟨rfl, rfl⟩
            intro hU
            refine W_move rfl rfl rfl ?_
            exact W_end (OneT_end [] (Hp.le_refl _) ⟨rfl, rfl⟩)
          · intro HX hX X Rest hR
            rintro _ _ ⟨rfl, rfl⟩
            intro hU
            refine W_move rfl rfl rfl ?_
            exact W_end (OneT_end [] (Hp.le_refl _) ⟨rfl, rfl⟩)
          · intro HX hX X Rest hR
            rintro _ _ ⟨rfl, rfl⟩
            rintro _ _ ⟨rfl, rfl⟩
            intro hU
            refine W_bin rfl rfl rfl rfl rfl ?_
            exact W_end (OneT_end [] (Hp.le_refl _) ⟨rfl, rfl⟩)
          · intro HX hX X Rest hR
            rintro _ _ ⟨rfl, rfl⟩
            rintro _ _ ⟨rfl, rfl⟩
            rintro _ _ ⟨rfl, rfl⟩
            intro hU
            refine W_indexO (hR _ (List.mem_cons_self ..)) rfl rfl Proofs.Try.runUnderlying36 Proofs.Try.sizeOf39 rfl rfl h600 (List.getElem?_eq_some_iff.1 he601).1 ?_
            exact W_end (OneT_end [] (Hp.le_refl _) ⟨rfl, rfl⟩)
          · intro HX hX X Rest hR
            rintro _ _ ⟨rfl, rfl⟩
            rintro _ _ ⟨rfl, rfl⟩
            intro hU
            refine W_loadAgg (cs := [.string (y599.Name), .int .i64 (y599.Time), .bool (y599.Acked)]) rfl rfl Proofs.Try.isAgg39 Proofs.Try.sizeOf39 rfl (row_cells (hR _ (List.mem_cons_self ..)) hg602) rfl ?_
            exact W_end (OneT_end [] (Hp.le_refl _) ⟨rfl, rfl⟩)
          intro H603 hle604
          rintro _ _ ⟨rfl, rfl⟩
          rintro _ _ ⟨rfl, rfl⟩
          rintro _ _ ⟨rfl, rfl⟩
          rintro _ _ ⟨rfl, rfl⟩
          rintro _ _ ⟨rfl, rfl⟩
          rintro _ _ ⟨rfl, rfl⟩
          rintro _ _ ⟨rfl, rfl⟩
          rintro _ _ ⟨rfl, rfl⟩
          rintro _ _ ⟨rfl, rfl⟩
          rintro _ _ ⟨rfl, rfl⟩
          rintro _ _ ⟨rfl, rfl⟩
          rintro _ _ ⟨rfl, rfl⟩
          rintro _ _ ⟨rfl, rfl⟩
          rintro _ _ ⟨rfl, rfl⟩
          obtain ⟨r605, hc606, hm⟩ := bind_some hm
          refine W_callv Proofs.Try.call31 rfl rfl rfl rfl (fun w ht => by have h := m_alarm_Board_All_1_c (hm := hc606)  ht; exact h) ?_
          rintro _ _ _ ⟨rfl, rfl, rfl⟩
          refine W_bin rfl rfl rfl rfl rfl ?_
          refine W_pick rfl rfl rfl rfl ?_
          refine W_end ?_
          refine E_then ?_
          refine C_cond (b := decide (r605 < 0)) rfl (fun hb607 => ?_) (fun hb607 => ?_)
          · have hm := ite_t' hb607 hm
            refine C_skip ?_
            refine E_then ?_
            refine C_seq ?_
            refine C_block ?_
            obtain ⟨y608, h609, he610, hm⟩ := idx_some hm
            obtain ⟨_, rfl, hg611⟩ := (hr579).elem he610
            obtain ⟨y612, h613, he614, hm⟩ := idx_some hm
            obtain ⟨_, rfl, hg615⟩ := (hr579).elem he614
            obtain ⟨y616, h617, he618, hm⟩ := idx_some hm
            obtain ⟨_, rfl, hg619⟩ := (hr579).elem he618
            refine C_perm (List.Perm.refl _) ?_
            refine C_as (M' := [[.row v0 39 (Rep.sz S_api_AlarmEntry) l578.length xs577]].flatten ++ (M)) rfl ?_
            refine C_region_tok0 16 (phiT [(fun H rs v => [] = rs ∧ v0 = v), (fun H rs v => [] = rs ∧ .int .i64 (n580) = v), (fun H rs v => [] = rs ∧ v0 = v), (fun H rs v => [] = rs ∧ .int .i64 (n580) = v), (fun H rs v => [] = rs ∧ .int .i64 (IntKind.i64.wrap (n580 - 1)) = v), (fun H rs v => [] = rs ∧ v0 = v), (fun H rs v => [] = rs ∧ .int .i64 (n580) = v), (fun H rs v => [] = rs ∧ .int .i64 (IntKind.i64.wrap (n580 - 1)) = v), (fun H rs v => [] = rs ∧ .pointer (some ((Value.base (v0)).add ((IntKind.i64.wrap (n580 - 1) : Int).toNat * Rep.sz S_api_AlarmEntry))) = v), (fun H rs v => [] = rs ∧ .agg [.string (y608.Name), .int .i64 (y608.Time), .bool (y608.Acked)].toArray = v), (fun H rs v => [] = rs ∧ v0 = v), (fun H rs v => [] = rs ∧ .int .i64 (n580) = v), (fun H rs v => [] = rs ∧ .pointer (some ((Value.base (v0)).add ((n580 : Int).toNat * Rep.sz S_api_AlarmEntry))) = v), (fun H rs v => [] = rs ∧ .agg [.string (y612.Name), .int .i64 (y612.Time), .bool (y612.Acked)].toArray = v), (fun H rs v => [] = rs ∧ .pointer (some ((Value.base (v0)).add ((n580 : Int).toNat * Rep.sz S_api_AlarmEntry))) = v), (fun H rs v => ∃ xs627 : List Value, [.row v0 39 (Rep.sz S_api_AlarmEntry) (l578.set ((n580 : Int).toNat) y608).length xs627] = rs ∧ .pointer (some ((Value.base (v0)).add ((n580 : Int).toNat * Rep.sz S_api_AlarmEntry))) = v ∧ Rw H v0 xs627 (l578.set ((n580 : Int).toNat) y608))]) [[], [], [], [], [], [], [], [], [], [], [], [], [], [], [], [16]] [[], [], [], [], [], [], [], [], [16], [16], [], [], [16], [16], [16], []] [[.row v0 39 (Rep.sz S_api_AlarmEntry) l578.length xs577]] [0, 1, 2, 3, 4, 5, 6, 7, 8, 9, 10, 11, 12, 13, 14, 15] Facts.mixed (by kernel_rfl) rfl rfl rfl (by kernel_rfl) (phiT_mono ⟨eq_monoT _ _, eq_monoT _ _, eq_monoT _ _, eq_monoT _ _, eq_monoT _ _, eq_monoT _ _, eq_monoT _ _, eq_monoT _ _, eq_monoT _ _, eq_monoT _ _, eq_monoT _ _, eq_monoT _ _, eq_monoT _ _, eq_monoT _ _, eq_monoT _ _, (by rintro H1 H2 rs v hle ⟨xs627, rfl, hv_, hr624⟩; exact ⟨xs627, rfl, hv_, (hr624.mono hle)⟩), trivial⟩) ⟨?_, ?_, ?_, ?_, ?_, ?_, ?_, ?_, ?_, ?_, ?_, ?_, ?_, ?_, ?_, ?_, trivial⟩ ?_
            · intro HX hX X Rest hR
              intro hU
              refine W_move rfl rfl rfl ?_
              exact W_end (OneT_end [] (Hp.le_refl _) ⟨rfl, rfl⟩)
            · intro HX hX X Rest hR
              intro hU
              refine W_move rfl rfl rfl ?_
              exact W_end (OneT_end [] (Hp.le_refl _) ⟨rfl, rfl⟩)
            · intro HX hX X Rest hR
              intro hU
              refine W_move rfl rfl rfl ?_
              exact W_end (OneT_end [] (Hp.le_refl _) ⟨rfl, rfl⟩)
            · intro HX hX X Rest hR
              intro hU
              refine W_move rfl rfl rfl ?_
              exact W_end (OneT_end [] (Hp.le_refl _) ⟨rfl, rfl⟩)
            · intro HX hX X Rest hR
              rintro _ _ ⟨rfl, rfl⟩
              intro hU
              refine W_bin rfl rfl rfl rfl rfl ?_
              exact W_end (OneT_end [] (Hp.le_refl _) ⟨rfl, rfl⟩)
            · intro HX hX X Rest hR
              intro hU
              refine W_move rfl rfl rfl ?_
              exact W_end (OneT_end [] (Hp.le_refl _) ⟨rfl, rfl⟩)
            · intro HX hX X Rest hR
              intro hU
              refine W_move rfl rfl rfl ?_
              exact W_end (OneT_end [] (Hp.le_refl _) ⟨rfl, rfl⟩)
            · intro HX hX X Rest hR
              rintro _ _ ⟨rfl, rfl⟩
              intro hU
              refine W_bin rfl rfl rfl rfl rfl ?_
              exact W_end (OneT_end [] (Hp.le_refl _) ⟨rfl, rfl⟩)
            · intro HX hX X Rest hR
              rintro _ _ ⟨rfl, rfl⟩
              rintro _ _ ⟨rfl, rfl⟩
              intro hU
              have hU2 : ∀ s ∈ [.row v0 39 (Rep.sz S_api_AlarmEntry) l578.length xs577], s ∈ Rest := hU
              refine W_indexO (hU2 _ (List.mem_cons_self ..)) rfl rfl Proofs.Try.runUnderlying36 Proofs.Try.sizeOf39 rfl rfl h609 (List.getElem?_eq_some_iff.1 he610).1 ?_
              exact W_end (OneT_end [] (Hp.le_refl _) ⟨rfl, rfl⟩)
            · intro HX hX X Rest hR
              rintro _ _ ⟨rfl, rfl⟩
              intro hU
              have hU2 : ∀ s ∈ [.row v0 39 (Rep.sz S_api_AlarmEntry) l578.length xs577], s ∈ Rest := hU
              refine W_loadAgg (cs := [.string (y608.Name), .int .i64 (y608.Time), .bool (y608.Acked)]) rfl rfl Proofs.Try.isAgg39 Proofs.Try.sizeOf39 rfl (row_cells (hU2 _ (List.mem_cons_self ..)) hg611) rfl ?_
              exact W_end (OneT_end [] (Hp.le_refl _) ⟨rfl, rfl⟩)
            · intro HX hX X Rest hR
              intro hU
              refine W_move rfl rfl rfl ?_
              exact W_end (OneT_end [] (Hp.le_refl _) ⟨rfl, rfl⟩)
            · intro HX hX X Rest hR
              intro hU
              refine W_move rfl rfl rfl ?_
              exact W_end (OneT_end [] (Hp.le_refl _) ⟨rfl, rfl⟩)
            · intro HX hX X Rest hR
              rintro _ _ ⟨rfl, rfl⟩
              rintro _ _ ⟨rfl, rfl⟩
              intro hU
              have hU2 : ∀ s ∈ [.row v0 39 (Rep.sz S_api_AlarmEntry) l578.length xs577], s ∈ Rest := hU
              refine W_indexO (hU2 _ (List.mem_cons_self ..)) rfl rfl Proofs.Try.runUnderlying36 Proofs.Try.sizeOf39 rfl rfl h613 (List.getElem?_eq_some_iff.1 he614).1 ?_
              exact W_end (OneT_end [] (Hp.le_refl _) ⟨rfl, rfl⟩)
            · intro HX hX X Rest hR
              rintro _ _ ⟨rfl, rfl⟩
              intro hU
              have hU2 : ∀ s ∈ [.row v0 39 (Rep.sz S_api_AlarmEntry) l578.length xs577], s ∈ Rest := hU
              refine W_loadAgg (cs := [.string (y612.Name), .int .i64 (y612.Time), .bool (y612.Acked)]) rfl rfl Proofs.Try.isAgg39 Proofs.Try.sizeOf39 rfl (row_cells (hU2 _ (List.mem_cons_self ..)) hg615) rfl ?_
              exact W_end (OneT_end [] (Hp.le_refl _) ⟨rfl, rfl⟩)
            · intro HX hX X Rest hR
              rintro _ _ ⟨rfl, rfl⟩
              rintro _ _ ⟨rfl, rfl⟩
              rintro _ _ ⟨rfl, rfl⟩
              rintro _ _ ⟨rfl, rfl⟩
              rintro _ _ ⟨rfl, rfl⟩
              rintro _ _ ⟨rfl, rfl⟩
              rintro _ _ ⟨rfl, rfl⟩
              rintro _ _ ⟨rfl, rfl⟩
              rintro _ _ ⟨rfl, rfl⟩
              rintro _ _ ⟨rfl, rfl⟩
              intro hU
              have hU2 : ∀ s ∈ [.row v0 39 (Rep.sz S_api_AlarmEntry) l578.length xs577], s ∈ Rest := hU
              refine W_indexO (hU2 _ (List.mem_cons_self ..)) rfl rfl Proofs.Try.runUnderlying36 Proofs.Try.sizeOf39 rfl rfl h617 (List.getElem?_eq_some_iff.1 he618).1 ?_
              exact W_end (OneT_end [] (Hp.le_refl _) ⟨rfl, rfl⟩)
            · intro HX hX X Rest hR
              rintro _ _ ⟨rfl, rfl⟩
              rintro _ _ ⟨rfl, rfl⟩
              rintro _ _ ⟨rfl, rfl⟩
              rintro _ _ ⟨rfl, rfl⟩
              rintro _ _ ⟨rfl, rfl⟩
              rintro _ _ ⟨rfl, rfl⟩
              rintro _ _ ⟨rfl, rfl⟩
              rintro _ _ ⟨rfl, rfl⟩
              rintro _ _ ⟨rfl, rfl⟩
              rintro _ _ ⟨rfl, rfl⟩
              intro hU
              refine W_as (M' := .row v0 39 (Rep.sz S_api_AlarmEntry) l578.length xs577 :: Rest) rfl ?_
              obtain ⟨hr624, he625, hg626⟩ := Rw.put (cs := [.string (y608.Name), .int .i64 (y608.Time), .bool (y608.Acked)]) (o := 0) (c := [.string (y616.Name), .int .i64 (y616.Time), .bool (y616.Acked)]) (out := [.string (y608.Name), .int .i64 (y608.Time), .bool (y608.Acked)]) (e2 := y608) ((hr579.mono hle604).mono hX) he618 rfl hg619 rfl rfl rfl
              refine W_storeO2 (i := (n580 : Int).toNat * Rep.sz S_api_AlarmEntry + 0) (cs := [.string (y608.Name), .int .i64 (y608.Time), .bool (y608.Acked)]) rfl Proofs.Try.sizeOf39 rfl (row_ad0 _ _) rfl rfl rfl (Rw.room ((hr579.mono hle604).mono hX) he618 rfl) rfl (all_cons rfl (all_cons rfl (all_cons rfl all_nil))) (n' := (l578.set ((n580 : Int).toNat) y608).length) List.length_set ?_
              generalize over xs577 ((n580 : Int).toNat * Rep.sz S_api_AlarmEntry + 0) [.string (y608.Name), .int .i64 (y608.Time), .bool (y608.Acked)] = xs627 at hr624 hg626 ⊢
              exact W_end (OneT_endL rfl [.row v0 39 (Rep.sz S_api_AlarmEntry) (l578.set ((n580 : Int).toNat) y608).length xs627] (Hp.le_refl _) ⟨xs627, rfl, rfl, (hr624)⟩)
            intro H628 hle629
            rintro _ _ ⟨rfl, rfl⟩
            rintro _ _ ⟨rfl, rfl⟩
            rintro _ _ ⟨rfl, rfl⟩
            rintro _ _ ⟨rfl, rfl⟩
            rintro _ _ ⟨rfl, rfl⟩
            rintro _ _ ⟨rfl, rfl⟩
            rintro _ _ ⟨rfl, rfl⟩
            rintro _ _ ⟨rfl, rfl⟩
            rintro _ _ ⟨rfl, rfl⟩
            rintro _ _ ⟨rfl, rfl⟩
            rintro _ _ ⟨rfl, rfl⟩
            rintro _ _ ⟨rfl, rfl⟩
            rintro _ _ ⟨rfl, rfl⟩
            rintro _ _ ⟨rfl, rfl⟩
            rintro _ _ ⟨rfl, rfl⟩
            rintro _ _ _ ⟨xs627, rfl, _, hr624⟩
            refine W_as (M' := .row v0 39 (Rep.sz S_api_AlarmEntry) (l578.set ((n580 : Int).toNat) y608).length xs627 :: M) rfl ?_
            obtain ⟨y630, h631, he632, hm⟩ := idx_some hm
            refine W_indexO (List.mem_cons_self ..) rfl rfl Proofs.Try.runUnderlying36 Proofs.Try.sizeOf39 rfl rfl h631 (List.getElem?_eq_some_iff.1 he632).1 ?_
            obtain ⟨_, rfl, hg633⟩ := (hr624).elem he632
            obtain ⟨hr634, he635, hg636⟩ := Rw.put (cs := [.string (y612.Name), .int .i64 (y612.Time), .bool (y612.Acked)]) (o := 0) (c := [.string (y630.Name), .int .i64 (y630.Time), .bool (y630.Acked)]) (out := [.string (y612.Name), .int .i64 (y612.Time), .bool (y612.Acked)]) (e2 := y612) hr624 he632 rfl hg633 rfl rfl rfl
            refine W_storeO2 (i := (IntKind.i64.wrap (n580 - 1) : Int).toNat * Rep.sz S_api_AlarmEntry + 0) (cs := [.string (y612.Name), .int .i64 (y612.Time), .bool (y612.Acked)]) rfl Proofs.Try.sizeOf39 rfl (row_ad0 _ _) rfl rfl rfl (Rw.room hr624 he632 rfl) rfl (all_cons rfl (all_cons rfl (all_cons rfl all_nil))) (n' := ((l578.set ((n580 : Int).toNat) y608).set ((IntKind.i64.wrap (n580 - 1) : Int).toNat) y612).length) List.length_set ?_
            generalize over xs627 ((IntKind.i64.wrap (n580 - 1) : Int).toNat * Rep.sz S_api_AlarmEntry + 0) [.string (y612.Name), .int .i64 (y612.Time), .bool (y612.Acked)] = xs637 at hr634 hg636 ⊢
            refine W_end ?_
            refine E_normal_block ?_
            refine E_then ?_
            refine C_region ?_
            refine W_move rfl rfl rfl ?_
            refine W_bin rfl rfl rfl rfl rfl ?_
            refine W_assign rfl rfl rfl ?_
            refine W_end ?_
            exact E_keepJ (E_back (Nat.lt_succ_self _) ⟨((l578.set ((n580 : Int).toNat) y608).set ((IntKind.i64.wrap (n580 - 1) : Int).toNat) y612), IntKind.i64.wrap (n580 - 1), xs637, (by rw [hn585]; exact hm), hr634, (Hp.le_trans (Hp.le_trans hle582 hle604) hle629), rfl, rfl⟩) (List.Perm.refl _) ⟨rfl, rfl, rfl, rfl, rfl, rfl, trivial⟩
          · have hm := ite_f' hb607 hm
            refine C_exit ?_
            refine E_exit_then ?_
            refine E_exit_then ?_
            refine E_exit_hit ?_
            refine E_normal_block ?_
            refine E_then ?_
            refine C_region ?_
            refine W_move rfl rfl rfl ?_
            refine W_bin rfl rfl rfl rfl rfl ?_
            refine W_assign rfl rfl rfl ?_
            refine W_end ?_
            exact E_keepJ (E_back (Nat.lt_succ_self _) ⟨l578, IntKind.i64.wrap (n457 + 1), xs577, (by rw [hn462]; exact hm), (hr579.mono hle604), (Hp.le_trans (Hp.le_trans hle459 hle582) hle604), rfl, rfl⟩) (List.Perm.refl _) ⟨rfl, rfl, rfl, rfl, rfl, trivial⟩
    · have hm := ite_f' hb469 hm
      refine C_exit ?_
      refine E_exit_then ?_
      refine E_exit_then ?_
      refine E_exit_hit ?_
      refine E_off ?_
      obtain rfl := Option.some.inj hm
      refine E_weak hle459 ?_
      exact end0 rfl ⟨rfl, xs454, rfl, rfl, (hr456).toF⟩

theorem m_slices_pdqsortCmpFunc_api_AlarmEntry__alarm_Board_All_1_c {B : Nat} {w0 w : World} {H : Hp} {M : List Res} {data : (List S_api_AlarmEntry)} {p1_a : Int} {p2_b : Int} {limit : Int} {v0 : Value} {xs0 : List Value} {r : (List S_api_AlarmEntry)} (hm : m_slices_pdqsortCmpFunc_api_AlarmEntry__alarm_Board_All_1 data p1_a p2_b limit = some r) (h0 : Rw H v0 xs0 data) (ht : St B w0 H (.row v0 39 (Rep.sz S_api_AlarmEntry) data.length xs0 :: M) w) :
    Calls Proofs.Try.prog 50 [v0, .int .i64 (p1_a), .int .i64 (p2_b), .int .i64 (limit), .func (.func 31) [].toArray [].toArray].toArray w (Ret B w0 fun H' M' v => H = H' ∧ ∃ qxs0 : List Value, .row v0 39 (Rep.sz S_api_AlarmEntry) r.length qxs0 :: M = M' ∧ .tuple #[] = v ∧ RwF v0 qxs0 r) := by
  unfold m_slices_pdqsortCmpFunc_api_AlarmEntry__alarm_Board_All_1 at hm
  refine enter Proofs.Try.func50 rfl rfl rfl ht ?_
  refine C_seq ?_
  refine C_region ?_
  refine W_assign rfl rfl rfl ?_
  refine W_end ?_
  refine E_then ?_
  refine C_seq ?_
  refine C_region ?_
  refine W_assign rfl rfl rfl ?_
  refine W_end ?_
  refine E_then ?_
  refine C_block ?_
  refine C_keep (L' := [(0, v0), (1, .int .i64 (p1_a)), (2, .int .i64 (p2_b)), (3, .int .i64 (limit)), (4, .func (.func 31) [].toArray [].toArray), (10, .bool (true)), (11, .bool (true))]) ⟨rfl, rfl, rfl, rfl, rfl, rfl, rfl, trivial⟩ (List.Perm.refl _) ?_
  refine C_loop (fun n H' M' L' => loopF (fun s119 n => m_slices_pdqsortCmpFunc_api_AlarmEntry__alarm_Board_All_1_b3 data p1_a p2_b limit n) n () = some r ∧ H.le H' ∧ .row v0 39 (Rep.sz S_api_AlarmEntry) data.length xs0 :: M = M' ∧ [(0, v0), (1, .int .i64 (p1_a)), (2, .int .i64 (p2_b)), (3, .int .i64 (limit)), (4, .func (.func 31) [].toArray [].toArray), (10, .bool (true)), (11, .bool (true))] = L') FUEL ⟨hm, (Hp.le_refl _), rfl, rfl⟩ ?_
  rintro n122 H117 _ _ ⟨hm, hle118, rfl, rfl⟩
  cases n122 with
  | zero => cases hm
  | succ n122 =>
    have hm : m_slices_pdqsortCmpFunc_api_AlarmEntry__alarm_Board_All_1_b3 data p1_a p2_b limit (loopF (fun s119 n => m_slices_pdqsortCmpFunc_api_AlarmEntry__alarm_Board_All_1_b3 data p1_a p2_b limit n) n122) = some r := hm
    generalize hn121 : loopF (fun s119 n => m_slices_pdqsortCmpFunc_api_AlarmEntry__alarm_Board_All_1_b3 data p1_a p2_b limit n) n122 = nx120 at hm
    unfold m_slices_pdqsortCmpFunc_api_AlarmEntry__alarm_Board_All_1_b3 at hm
    refine C_block ?_
    refine C_seq ?_
    refine C_region ?_
    refine W_move rfl rfl rfl ?_
    refine W_move rfl rfl rfl ?_
    refine W_bin rfl rfl rfl rfl rfl ?_
    refine W_assign rfl rfl rfl ?_
    refine W_end ?_
    refine E_then ?_
    refine C_seq ?_
    refine C_seq ?_
    refine C_region ?_
    refine W_move rfl rfl rfl ?_
    refine W_bin rfl rfl rfl rfl rfl ?_
    refine W_end ?_
    refine E_then ?_
    refine C_cond (b := decide ((IntKind.i64.wrap (p2_b - p1_a)) ≤ 12)) rfl (fun hb128 => ?_) (fun hb128 => ?_)
    · have hm := ite_t' hb128 hm
      refine C_seq ?_
      refine C_region ?_
      refine W_move rfl rfl rfl ?_
      refine W_move rfl rfl rfl ?_
      refine W_move rfl rfl rfl ?_
      refine W_move rfl rfl rfl ?_
      obtain ⟨r129, hc130, hm⟩ := bind_some hm
      refine W_call Proofs.Try.call61 rfl rfl rfl (fun w ht => by have h := m_slices_insertionSortCmpFunc_api_AlarmEntry__alarm_Board_All_1_c (hm := hc130) (h0.mono hle118) ht; exact h) ?_
      rintro _ _ _ ⟨rfl, xs132, rfl, rfl, h133⟩
      have h133 := h133 H117
      refine W_end ?_
      refine E_then ?_
      refine C_ret ?_
      refine E_ret_then ?_
      refine E_ret_block ?_
      refine E_ret_then ?_
      refine E_ret_block ?_
      obtain rfl := Option.some.inj hm
      refine E_weak hle118 ?_
      exact end0 rfl ⟨rfl, xs132, rfl, rfl, (h133).toF⟩
    · have hm := ite_f' hb128 hm
      refine C_skip ?_
      refine E_then ?_
      refine C_seq ?_
      refine C_seq ?_
      refine C_region ?_
      refine W_move rfl rfl rfl ?_
      refine W_bin rfl rfl rfl rfl rfl ?_
      refine W_end ?_
      refine E_then ?_
      refine C_cond (b := decide (limit = 0)) rfl (fun hb134 => ?_) (fun hb134 => ?_)
      · have hm := ite_t' hb134 hm
        refine C_seq ?_
        refine C_region ?_
        refine W_move rfl rfl rfl ?_
        refine W_move rfl rfl rfl ?_
        refine W_move rfl rfl rfl ?_
        refine W_move rfl rfl rfl ?_
        cases hm
      · have hm := ite_f' hb134 hm
        refine C_skip ?_
        refine E_then ?_
        refine C_seq_join (fun H' M' L' => m_slices_pdqsortCmpFunc_api_AlarmEntry__alarm_Board_All_1_b4 = some r ∧ H117 = H' ∧ .row v0 39 (Rep.sz S_api_AlarmEntry) data.length xs0 :: M = M' ∧ [(0, v0), (1, .int .i64 (p1_a)), (2, .int .i64 (p2_b)), (3, .int .i64 (limit)), (4, .func (.func 31) [].toArray [].toArray), (10, .bool (true)), (11, .bool (true)), (12, .int .i64 (IntKind.i64.wrap (p2_b - p1_a)))] = L') ?_ (fun J135 => ?_)
        · rintro _ _ _ ⟨hm, rfl, rfl, rfl⟩
          unfold m_slices_pdqsortCmpFunc_api_AlarmEntry__alarm_Board_All_1_b4 at hm
          refine C_seq ?_
          refine C_region ?_
          refine W_move rfl rfl rfl ?_
          refine W_move rfl rfl rfl ?_
          refine W_move rfl rfl rfl ?_
          refine W_move rfl rfl rfl ?_
          cases hm
        · refine C_seq ?_
          refine C_region ?_
          refine W_move rfl rfl rfl ?_
          refine W_un rfl rfl rfl rfl ?_
          refine W_end ?_
          refine E_then ?_
          refine C_cond (b := false) rfl (fun hb => Bool.noConfusion hb) (fun _ => ?_)
          refine C_skip ?_
          exact E_keepJ (J135 _ _ _ ⟨hm, rfl, rfl, rfl⟩) (List.Perm.refl _) ⟨rfl, rfl, rfl, rfl, rfl, rfl, rfl, rfl, trivial⟩

theorem m_slices_SortFunc_api_AlarmEntry_api_AlarmEntry__alarm_Board_All_1_c {B : Nat} {w0 w : World} {H : Hp} {M : List Res} {p0_x : (List S_api_AlarmEntry)} {v0 : Value} {xs0 : List Value} {r : (List S_api_AlarmEntry)} (hm : m_slices_SortFunc_api_AlarmEntry_api_AlarmEntry__alarm_Board_All_1 p0_x = some r) (h0 : Rw H v0 xs0 p0_x) (ht : St B w0 H (.row v0 39 (Rep.sz S_api_AlarmEntry) p0_x.length xs0 :: M) w) :
    Calls Proofs.Try.prog 30 [v0, .func (.func 31) [].toArray [].toArray].toArray w (Ret B w0 fun H' M' v => H = H' ∧ ∃ qxs0 : List Value, .row v0 39 (Rep.sz S_api_AlarmEntry) r.length qxs0 :: M = M' ∧ .tuple #[] = v ∧ RwF v0 qxs0 r) := by
  unfold m_slices_SortFunc_api_AlarmEntry_api_AlarmEntry__alarm_Board_All_1 at hm
  refine enter Proofs.Try.func30 rfl rfl rfl ht ?_
  refine C_seq ?_
  refine C_region ?_
  refine W_move rfl rfl rfl ?_
  refine W_lenO (List.mem_cons_self ..) rfl rfl Proofs.Try.runUnderlying36 rfl ?_
  refine W_assign rfl rfl rfl ?_
  refine W_end ?_
  refine E_then ?_
  refine C_region ?_
  refine W_move rfl rfl rfl ?_
  refine W_move rfl rfl rfl ?_
  refine W_move rfl rfl rfl ?_
  refine W_convInt rfl rfl Proofs.Try.runUnderlying3 Proofs.Try.runUnderlying59 rfl ?_
  obtain ⟨r101, hc102, hm⟩ := bind_some hm
  refine W_call Proofs.Try.call28 rfl rfl rfl (fun w ht => by have h := m_math_bits_Len_c (hm := hc102)  ht; exact h) ?_
  rintro _ _ _ ⟨rfl, rfl, rfl⟩
  refine W_move rfl rfl rfl ?_
  obtain ⟨r103, hc104, hm⟩ := bind_some hm
  refine W_call Proofs.Try.call50 rfl rfl rfl (fun w ht => by have h := m_slices_pdqsortCmpFunc_api_AlarmEntry__alarm_Board_All_1_c (hm := hc104) h0 ht; exact h) ?_
  rintro _ _ _ ⟨rfl, xs106, rfl, rfl, h107⟩
  have h107 := h107 H
  refine W_end ?_
  refine E_off ?_
  obtain rfl := Option.some.inj hm
  refine E_weak (Hp.le_refl _) ?_
  exact end0 rfl ⟨rfl, xs106, rfl, rfl, (h107).toF⟩

theorem m_alarm_Board_All_c {B : Nat} {w0 w : World} {H : Hp} {M : List Res} {p0_b : S_alarm_Board} {b0 : Nat} {v0 : Value} {v1 : Value} {xs0 : List Value} {r : (List S_api_AlarmEntry)} (hm : m_alarm_Board_All p0_b = some r) (h0 : RdS H v0 p0_b.causes) (h1 : Rw H v1 xs0 p0_b.all_) (ht : St B w0 H (.obj b0 (.cells [v0, v1, .int .i64 (p0_b.last)].toArray 47 (0, 0)) :: .row v1 39 (Rep.sz S_api_AlarmEntry) p0_b.all_.length xs0 :: M) w) :
    Calls Proofs.Try.prog 15 [.pointer (some ⟨b0, 0, none⟩)].toArray w (Ret B w0 fun H' M' v => H = H' ∧ ∃ qv0 : Value, ∃ qxs0 : List Value, .row qv0 39 (Rep.sz S_api_AlarmEntry) r.length qxs0 :: .obj b0 (.cells [v0, v1, .int .i64 (p0_b.last)].toArray 47 (0, 0)) :: .row v1 39 (Rep.sz S_api_AlarmEntry) p0_b.all_.length xs0 :: M = M' ∧ qv0 = v ∧ RwF qv0 qxs0 r) := by
  unfold m_alarm_Board_All at hm
  refine enter Proofs.Try.func15 rfl rfl rfl ht ?_
  refine C_seq ?_
  refine C_region ?_
  refine W_assign rfl rfl rfl ?_
  refine W_end ?_
  refine E_then ?_
  refine C_seq ?_
  refine C_region ?_
  refine W_move rfl rfl rfl ?_
  refine W_nilCheck rfl rfl rfl ?_
  refine W_field (o := 1) rfl rfl Proofs.Try.runUnderlying47 rfl Proofs.Try.sizeOf36 rfl rfl rfl ?_
  refine W_load rfl rfl Proofs.Try.isAgg36 rfl (own_at (List.mem_cons_self ..) rfl) ?_
  obtain ⟨hz101, hm⟩ := need_some hm
  refine W_perm (List.Perm.swap _ _ _) ?_
  refine W_call Proofs.Try.call29 rfl rfl rfl (fun w ht => by obtain ⟨H0_, hl0_, ht0_, hr0_, bk0_⟩ := ht.lendRow h1 rfl; have h := clone29_c hr0_ hz101 ht0_; exact lend_back bk0_ h) ?_
  rintro _ _ _ ⟨rfl, _, rfl, v102, xs103, rfl, rfl, hr104⟩
  have hr104 := hr104 H
  refine W_assign rfl rfl rfl ?_
  refine W_end ?_
  refine E_then ?_
  refine C_seq ?_
  refine C_region ?_
  refine W_move rfl rfl rfl ?_
  refine W_perm (List.Perm.swap _ _ _) ?_
  obtain ⟨r105, hc106, hm⟩ := bind_some hm
  refine W_call Proofs.Try.call30 rfl rfl rfl (fun w ht => by have h := m_slices_SortFunc_api_AlarmEntry_api_AlarmEntry__alarm_Board_All_1_c (hm := hc106) hr104 ht; exact h) ?_
  rintro _ _ _ ⟨rfl, xs108, rfl, rfl, h109⟩
  have h109 := h109 H
  refine W_end ?_
  refine E_then ?_
  refine C_seq ?_
  refine C_region ?_
  refine W_move rfl rfl rfl ?_
  refine W_assign rfl rfl rfl ?_
  refine W_end ?_
  refine E_then ?_
  refine C_ret ?_
  obtain rfl := Option.some.inj hm
  refine E_perm (List.Perm.cons _ (List.Perm.swap _ _ _)) ?_
  refine E_weak (Hp.le_refl _) ?_
  exact end1 rfl rfl ⟨rfl, v102, xs108, rfl, rfl, (h109).toF⟩

theorem m_alarm_Board_Shown_1_c {B : Nat} {w0 w : World} {H : Hp} {M : List Res} {p0_x : S_api_AlarmEntry} {p1_c1 : (List ByteArray)} {b0 : Nat} {v0 : Value} {r : Bool} (hm : m_alarm_Board_Shown_1 p0_x p1_c1 = some r) (h0 : RdS H v0 p1_c1) (ht : St B w0 H (.obj b0 (.cells [v0].toArray 23 (0, 0)) :: M) w) :
    Calls Proofs.Try.prog 25 [.agg [.string (p0_x.Name), .int .i64 (p0_x.Time), .bool (p0_x.Acked)].toArray, .pointer (some ⟨b0, 0, none⟩)].toArray w (Ret B w0 fun H' M' v => H = H' ∧ .obj b0 (.cells [v0].toArray 23 (0, 0)) :: M = M' ∧ .bool (r) = v) := by
  unfold m_alarm_Board_Shown_1 at hm
  refine enter Proofs.Try.func25 rfl rfl rfl ht ?_
  refine C_seq ?_
  refine C_region ?_
  refine W_box (cs := [.string (p0_x.Name), .int .i64 (p0_x.Time), .bool (p0_x.Acked)]) rfl rfl rfl rfl (fun b101 => ?_)
  refine W_assign rfl rfl rfl ?_
  refine W_end ?_
  refine E_then ?_
  refine C_seq ?_
  refine C_region ?_
  refine W_load rfl rfl Proofs.Try.isAgg23 rfl (own_at (List.mem_cons_of_mem _ (List.mem_cons_self ..)) rfl) ?_
  refine W_field (o := 0) rfl rfl Proofs.Try.runUnderlying39 rfl Proofs.Try.sizeOf9 rfl rfl rfl ?_
  refine W_load rfl rfl Proofs.Try.isAgg9 rfl (own_at (List.mem_cons_self ..) rfl) ?_
  obtain ⟨r102, hc103, hm⟩ := bind_some hm
  refine W_call Proofs.Try.call26 rfl rfl rfl (fun w ht => by have h := m_slices_Contains_string_string_c (hm := hc103) h0 ht; exact h) ?_
  rintro _ _ _ ⟨rfl, rfl, rfl⟩
  refine W_un rfl rfl rfl rfl ?_
  refine W_assign rfl rfl rfl ?_
  refine W_end ?_
  refine E_then ?_
  refine C_ret ?_
  obtain rfl := Option.some.inj hm
  refine E_drop (List.Sublist.cons _ (List.Sublist.refl _)) ?_
  refine E_weak (Hp.le_refl _) ?_
  exact end1 rfl rfl ⟨rfl, rfl, rfl⟩

theorem m_slices_IndexFunc_api_AlarmEntry_api_AlarmEntry__alarm_Board_Shown_1_c {B : Nat} {w0 w : World} {H : Hp} {M : List Res} {p0_s : (List S_api_AlarmEntry)} {p1_f_0 : (List ByteArray)} {v0 : Value} {b0 : Nat} {v1 : Value} {r : Int} (hm : m_slices_IndexFunc_api_AlarmEntry_api_AlarmEntry__alarm_Board_Shown_1 p0_s p1_f_0 = some r) (h0 : RdS H v0 p0_s) (h1 : RdS H v1 p1_f_0) (ht : St B w0 H (.obj b0 (.cells [v1].toArray 23 (0, 0)) :: M) w) :
    Calls Proofs.Try.prog 36 [v0, .func (.func 25) [].toArray [.pointer (some ⟨b0, 0, none⟩)].toArray].toArray w (Ret B w0 fun H' M' v => H = H' ∧ .obj b0 (.cells [v1].toArray 23 (0, 0)) :: M = M' ∧ .int .i64 (r) = v) := by
  unfold m_slices_IndexFunc_api_AlarmEntry_api_AlarmEntry__alarm_Board_Shown_1 at hm
  refine enter Proofs.Try.func36 rfl rfl rfl ht ?_
  refine C_seq ?_
  refine C_region ?_
  refine W_assign rfl rfl rfl ?_
  refine W_end ?_
  refine E_then ?_
  refine C_seq ?_
  refine C_seq ?_
  refine C_region ?_
  refine W_move rfl rfl rfl ?_
  refine W_lenR rfl rfl Proofs.Try.runUnderlying36 rfl h0 ?_
  refine W_move rfl rfl rfl ?_
  refine W_end ?_
  refine E_then ?_
  refine C_block ?_
  refine C_keep (L' := [(0, v0), (1, .func (.func 25) [].toArray [.pointer (some ⟨b0, 0, none⟩)].toArray), (7, .int .i64 ((p0_s.length : Int))), (8, .int .i64 (((0 : Nat) : Int)))]) ⟨rfl, rfl, rfl, rfl, trivial⟩ (List.Perm.refl _) ?_
  refine C_loop (fun n H' M' L' => ∃ (k101 : Nat) (zs123' : Nat), k101 + zs123' = ((p0_s.length : Int) : Int).toNat ∧ zs123' = n ∧ forN (fun k s118 n => m_slices_IndexFunc_api_AlarmEntry_api_AlarmEntry__alarm_Board_Shown_1_b1 p0_s p1_f_0 k n) (fun _ => some (-1)) zs123' k101 () = some r ∧ H.le H' ∧ .obj b0 (.cells [v1].toArray 23 (0, 0)) :: M = M' ∧ [(0, v0), (1, .func (.func 25) [].toArray [.pointer (some ⟨b0, 0, none⟩)].toArray), (7, .int .i64 ((p0_s.length : Int))), (8, .int .i64 ((k101 : Int)))] = L') _ ⟨0, _, Nat.zero_add _, rfl, hm, (Hp.le_refl _), rfl, rfl⟩ ?_
  rintro _ H116 _ _ ⟨k101, zs123', hd125, rfl, hm, hle117, rfl, rfl⟩
  refine C_seq ?_
  refine C_region ?_
  refine W_bin rfl rfl rfl rfl rfl ?_
  refine W_end (E_then ?_)
  refine C_seq ?_
  refine C_cond (b := decide ((k101 : Int) < (p0_s.length : Int))) rfl (fun hb127 => ?_) (fun hb127 => ?_)
  · obtain ⟨zs123, rfl, hd126, hy124⟩ := rngN_t hd125 hb127
    have hm : m_slices_IndexFunc_api_AlarmEntry_api_AlarmEntry__alarm_Board_Shown_1_b1 p0_s p1_f_0 k101 (forN (fun k s118 n => m_slices_IndexFunc_api_AlarmEntry_api_AlarmEntry__alarm_Board_Shown_1_b1 p0_s p1_f_0 k n) (fun _ => some (-1)) zs123 (k101 + 1)) = some r := hm
    generalize hn120 : forN (fun k s118 n => m_slices_IndexFunc_api_AlarmEntry_api_AlarmEntry__alarm_Board_Shown_1_b1 p0_s p1_f_0 k n) (fun _ => some (-1)) zs123 (k101 + 1) = nx119 at hm
    unfold m_slices_IndexFunc_api_AlarmEntry_api_AlarmEntry__alarm_Board_Shown_1_b1 at hm
    refine C_skip (E_then ?_)
    refine C_seq ?_
    refine C_block ?_
    refine C_seq ?_
    refine C_region ?_
    refine W_move rfl rfl rfl ?_
    refine W_assign rfl rfl rfl ?_
    refine W_end ?_
    refine E_then ?_
    refine C_seq ?_
    refine C_region ?_
    refine W_move rfl rfl rfl ?_
    refine W_move rfl rfl rfl ?_
    refine W_move rfl rfl rfl ?_
    obtain ⟨y128, h129, he130, hm⟩ := idx_some hm
    obtain ⟨_, ⟨rfl⟩, hc131⟩ := (h0).elem he130
    refine W_indexS rfl rfl Proofs.Try.runUnderlying36 Proofs.Try.sizeOf39 rfl (h0.mono hle117) rfl h129 he130 ?_
    refine W_loadAgg rfl rfl Proofs.Try.isAgg39 Proofs.Try.sizeOf39 rfl (hc131.mono hle117).at rfl ?_
    obtain ⟨r132, hc133, hm⟩ := bind_some hm
    refine W_callv Proofs.Try.call25 rfl rfl rfl rfl (fun w ht => by have h := m_alarm_Board_Shown_1_c (hm := hc133) (h1.mono hle117) ht; exact h) ?_
    rintro _ _ _ ⟨rfl, rfl, rfl⟩
    refine W_end ?_
    refine E_then ?_
    refine C_cond (b := r132) rfl (fun hb134 => ?_) (fun hb134 => ?_)
    · have hm := ite_t' hb134 hm
      refine C_seq ?_
      refine C_region ?_
      refine W_move rfl rfl rfl ?_
      refine W_assign rfl rfl rfl ?_
      refine W_end ?_
      refine E_then ?_
      refine C_ret ?_
      refine E_ret_block ?_
      refine E_ret_then ?_
      refine E_ret_then ?_
      refine E_ret_block ?_
      refine E_ret_then ?_
      obtain rfl := Option.some.inj hm
      refine E_weak hle117 ?_
      exact end1 rfl rfl ⟨rfl, rfl, rfl⟩
    · have hm := ite_f' hb134 hm
      refine C_skip ?_
      refine E_normal_block ?_
      refine E_then ?_
      refine C_region ?_
      refine W_bin rfl rfl rfl rfl rfl ?_
      refine W_move rfl rfl rfl ?_
      refine W_end ?_
      exact E_keepJ (E_back (Nat.lt_succ_self _) ⟨k101 + 1, zs123, hd126, rfl, (by rw [hn120]; exact hm), hle117, rfl, rfl⟩) (List.Perm.refl _) ⟨rfl, rfl, rfl, (congrArg (fun z => some (Value.int .i64 z)) (i64_succN hy124 (toNat_max (len_max (h0).lenMax)))), trivial⟩
  · obtain rfl := rngN_f hd125 hb127
    have hm : (some (-1)) = some r := hm
    refine C_exit (E_exit_then ?_)
    refine E_exit_then ?_
    refine E_exit_hit ?_
    refine E_then ?_
    refine C_seq ?_
    refine C_region ?_
    refine W_assign rfl rfl rfl ?_
    refine W_end ?_
    refine E_then ?_
    refine C_ret ?_
    obtain rfl := Option.some.inj hm
    refine E_weak hle117 ?_
    exact end1 rfl rfl ⟨rfl, rfl, rfl⟩

theorem m_slices_DeleteFunc_api_AlarmEntry_api_AlarmEntry__alarm_Board_Shown_1_c {B : Nat} {w0 w : World} {H : Hp} {M : List Res} {p0_s : (List S_api_AlarmEntry)} {del_0 : (List ByteArray)} {v0 : Value} {xs0 : List Value} {b0 : Nat} {v1 : Value} {r : (List S_api_AlarmEntry)} (hm : m_slices_DeleteFunc_api_AlarmEntry_api_AlarmEntry__alarm_Board_Shown_1 p0_s del_0 = some r) (h0 : Rw H v0 xs0 p0_s) (h1 : RdS H v1 del_0) (ht : St B w0 H (.row v0 39 (Rep.sz S_api_AlarmEntry) p0_s.length xs0 :: .obj b0 (.cells [v1].toArray 23 (0, 0)) :: M) w) :
    Calls Proofs.Try.prog 24 [v0, .func (.func 25) [].toArray [.pointer (some ⟨b0, 0, none⟩)].toArray].toArray w (Ret B w0 fun H' M' v => H = H' ∧ ∃ qv0 : Value, ∃ qxs0 : List Value, .row qv0 39 (Rep.sz S_api_AlarmEntry) r.length qxs0 :: .obj b0 (.cells [v1].toArray 23 (0, 0)) :: M = M' ∧ qv0 = v ∧ RwF qv0 qxs0 r) := by
  unfold m_slices_DeleteFunc_api_AlarmEntry_api_AlarmEntry__alarm_Board_Shown_1 at hm
  refine enter Proofs.Try.func24 rfl rfl rfl ht ?_
  refine C_seq ?_
  refine C_region ?_
  refine W_assign rfl rfl rfl ?_
  refine W_end ?_
  refine E_then ?_
  refine C_seq ?_
  refine C_region ?_
  refine W_move rfl rfl rfl ?_
  refine W_move rfl rfl rfl ?_
  obtain ⟨r101, hc102, hm⟩ := bind_some hm
  refine W_call Proofs.Try.call36 rfl rfl rfl (fun w ht => by obtain ⟨H0_, hl0_, ht0_, hr0_, bk0_⟩ := ht.lendRow h0 rfl; have h := m_slices_IndexFunc_api_AlarmEntry_api_AlarmEntry__alarm_Board_Shown_1_c (hm := hc102) hr0_ (h1.mono hl0_) ht0_; exact lend_back bk0_ (h)) ?_
  rintro _ _ _ ⟨rfl, ⟨_, rfl, rfl, rfl⟩⟩
  refine W_assign rfl rfl rfl ?_
  refine W_end ?_
  refine E_then ?_
  refine C_seq ?_
  refine C_seq ?_
  refine C_region ?_
  refine W_move rfl rfl rfl ?_
  refine W_bin rfl rfl rfl rfl rfl ?_
  refine W_end ?_
  refine E_then ?_
  refine C_cond (b := decide (r101 = (-1))) rfl (fun hb103 => ?_) (fun hb103 => ?_)
  · have hm := ite_t' hb103 hm
    refine C_seq ?_
    refine C_region ?_
    refine W_move rfl rfl rfl ?_
    refine W_assign rfl rfl rfl ?_
    refine W_end ?_
    refine E_then ?_
    refine C_ret ?_
    refine E_ret_then ?_
    obtain rfl := Option.some.inj hm
    refine E_weak (Hp.le_refl _) ?_
    exact end1 rfl rfl ⟨rfl, v0, xs0, rfl, rfl, (h0).toF⟩
  · have hm := ite_f' hb103 hm
    refine C_skip ?_
    refine E_then ?_
    refine C_seq ?_
    refine C_seq ?_
    refine C_region ?_
    refine W_move rfl rfl rfl ?_
    refine W_bin rfl rfl rfl rfl rfl ?_
    refine W_assign rfl rfl rfl ?_
    refine W_end ?_
    refine E_then ?_
    refine C_block ?_
    refine C_keep (L' := [(0, v0), (1, .func (.func 25) [].toArray [.pointer (some ⟨b0, 0, none⟩)].toArray), (5, .int .i64 (r101)), (6, .int .i64 (IntKind.i64.wrap (r101 + 1)))]) ⟨rfl, rfl, rfl, rfl, trivial⟩ (List.Perm.refl _) ?_
    refine C_loop (fun n H' M' L' => ∃ l196 : List S_api_AlarmEntry, ∃ n198 : Int, ∃ n199 : Int, ∃ xs195 : List Value, loopF (fun s202 n => m_slices_DeleteFunc_api_AlarmEntry_api_AlarmEntry__alarm_Board_Shown_1_b3 del_0 s202.1 s202.2.1 s202.2.2 n) n (l196, n198, n199) = some r ∧ Rw H' v0 xs195 l196 ∧ H.le H' ∧ .row v0 39 (Rep.sz S_api_AlarmEntry) l196.length xs195 :: .obj b0 (.cells [v1].toArray 23 (0, 0)) :: M = M' ∧ [(0, v0), (1, .func (.func 25) [].toArray [.pointer (some ⟨b0, 0, none⟩)].toArray), (5, .int .i64 (n198)), (6, .int .i64 (n199))] = L') FUEL ⟨p0_s, r101, IntKind.i64.wrap (r101 + 1), xs0, hm, h0, (Hp.le_refl _), rfl, rfl⟩ ?_
    rintro n205 H200 _ _ ⟨l196, n198, n199, xs195, hm, hr197, hle201, rfl, rfl⟩
    cases n205 with
    | zero => cases hm
    | succ n205 =>
      have hm : m_slices_DeleteFunc_api_AlarmEntry_api_AlarmEntry__alarm_Board_Shown_1_b3 del_0 l196 n198 n199 (loopF (fun s202 n => m_slices_DeleteFunc_api_AlarmEntry_api_AlarmEntry__alarm_Board_Shown_1_b3 del_0 s202.1 s202.2.1 s202.2.2 n) n205) = some r := hm
      generalize hn204 : loopF (fun s202 n => m_slices_DeleteFunc_api_AlarmEntry_api_AlarmEntry__alarm_Board_Shown_1_b3 del_0 s202.1 s202.2.1 s202.2.2 n) n205 = nx203 at hm
      unfold m_slices_DeleteFunc_api_AlarmEntry_api_AlarmEntry__alarm_Board_Shown_1_b3 at hm
      refine C_seq ?_
      refine C_seq ?_
      refine C_region ?_
      refine W_move rfl rfl rfl ?_
      refine W_move rfl rfl rfl ?_
      refine W_lenO (List.mem_cons_self ..) rfl rfl Proofs.Try.runUnderlying36 rfl ?_
      refine W_bin rfl rfl rfl rfl rfl ?_
      refine W_end ?_
      refine E_then ?_
      refine C_cond (b := decide (n199 < (l196.length : Int))) rfl (fun hb211 => ?_) (fun hb211 => ?_)
      · have hm := ite_t' hb211 hm
        refine C_skip ?_
        refine E_then ?_
        refine C_seq_join (fun H' M' L' => ∃ l230 : List S_api_AlarmEntry, ∃ n232 : Int, ∃ xs229 : List Value, m_slices_DeleteFunc_api_AlarmEntry_api_AlarmEntry__alarm_Board_Shown_1_b4 n199 nx203 l230 n232 = some r ∧ Rw H' v0 xs229 l230 ∧ H200 = H' ∧ .row v0 39 (Rep.sz S_api_AlarmEntry) l230.length xs229 :: .obj b0 (.cells [v1].toArray 23 (0, 0)) :: M = M' ∧ [(0, v0), (1, .func (.func 25) [].toArray [.pointer (some ⟨b0, 0, none⟩)].toArray), (5, .int .i64 (n232)), (6, .int .i64 (n199))] = L') ?_ (fun J233 => ?_)
        · rintro _ _ _ ⟨l230, n232, xs229, hm, hr231, rfl, rfl, rfl⟩
          unfold m_slices_DeleteFunc_api_AlarmEntry_api_AlarmEntry__alarm_Board_Shown_1_b4 at hm
          refine C_region ?_
          refine W_move rfl rfl rfl ?_
          refine W_bin rfl rfl rfl rfl rfl ?_
          refine W_assign rfl rfl rfl ?_
          refine W_end ?_
          exact E_keepJ (E_back (Nat.lt_succ_self _) ⟨l230, n232, IntKind.i64.wrap (n199 + 1), xs229, (by rw [hn204]; exact hm), hr231, hle201, rfl, rfl⟩) (List.Perm.refl _) ⟨rfl, rfl, rfl, rfl, trivial⟩
        · refine C_block ?_
          refine C_seq ?_
          refine C_region ?_
          refine W_move rfl rfl rfl ?_
          refine W_move rfl rfl rfl ?_
          obtain ⟨y234, h235, he236, hm⟩ := idx_some hm
          refine W_indexO (List.mem_cons_self ..) rfl rfl Proofs.Try.runUnderlying36 Proofs.Try.sizeOf39 rfl rfl h235 (List.getElem?_eq_some_iff.1 he236).1 ?_
          obtain ⟨_, rfl, hg237⟩ := (hr197).elem he236
          refine W_loadAgg (cs := [.string (y234.Name), .int .i64 (y234.Time), .bool (y234.Acked)]) rfl rfl Proofs.Try.isAgg39 Proofs.Try.sizeOf39 rfl (row_cells (List.mem_cons_self ..) hg237) rfl ?_
          refine W_alloc (cs := [.string (⟨#[]⟩), .int .i64 (0), .bool (false)]) rfl rfl Proofs.Try.zeroValue39 rfl (fun b238 => ?_)
          refine W_store (cs := [.string (y234.Name), .int .i64 (y234.Time), .bool (y234.Acked)]) (out := [.string (y234.Name), .int .i64 (y234.Time), .bool (y234.Acked)]) rfl Proofs.Try.sizeOf39 rfl rfl rfl rfl rfl (all_cons rfl (all_cons rfl (all_cons rfl all_nil))) (over_all rfl) ?_
          refine W_end ?_
          refine E_then ?_
          refine C_seq ?_
          refine C_region ?_
          refine W_move rfl rfl rfl ?_
          refine W_loadAgg rfl rfl Proofs.Try.isAgg39 Proofs.Try.sizeOf39 rfl (own_all (List.mem_cons_self ..)) rfl ?_
          refine W_perm (List.Perm.trans (List.Perm.cons _ (List.Perm.swap _ _ _)) (List.Perm.swap _ _ _)) ?_
          obtain ⟨r239, hc240, hm⟩ := bind_some hm
          refine W_callv Proofs.Try.call25 rfl rfl rfl rfl (fun w ht => by have h := m_alarm_Board_Shown_1_c (hm := hc240) (h1.mono hle201) ht; exact h) ?_
          rintro _ _ _ ⟨rfl, rfl, rfl⟩
          refine W_un rfl rfl rfl rfl ?_
          refine W_end ?_
          refine E_then ?_
          refine C_cond (b := !r239) rfl (fun hb241 => ?_) (fun hb241 => ?_)
          · have hm := ite_t' hb241 hm
            refine C_seq ?_
            refine C_region ?_
            refine W_move rfl rfl rfl ?_
            refine W_move rfl rfl rfl ?_
            refine W_loadAgg rfl rfl Proofs.Try.isAgg39 Proofs.Try.sizeOf39 rfl (own_all (List.mem_cons_of_mem _ (List.mem_cons_self ..))) rfl ?_
            obtain ⟨y242, h243, he244, hm⟩ := idx_some hm
            refine W_indexO (List.mem_cons_of_mem _ (List.mem_cons_of_mem _ (List.mem_cons_self ..))) rfl rfl Proofs.Try.runUnderlying36 Proofs.Try.sizeOf39 rfl rfl h243 (List.getElem?_eq_some_iff.1 he244).1 ?_
            obtain ⟨_, rfl, hg245⟩ := (hr197).elem he244
            refine W_perm (List.Perm.trans (List.Perm.cons _ (List.Perm.swap _ _ _)) (List.Perm.swap _ _ _)) ?_
            obtain ⟨hr246, he247, hg248⟩ := Rw.put (cs := [.string (y234.Name), .int .i64 (y234.Time), .bool (y234.Acked)]) (o := 0) (c := [.string (y242.Name), .int .i64 (y242.Time), .bool (y242.Acked)]) (out := [.string (y234.Name), .int .i64 (y234.Time), .bool (y234.Acked)]) (e2 := y234) hr197 he244 rfl hg245 rfl rfl rfl
            refine W_storeO2 (i := (n198 : Int).toNat * Rep.sz S_api_AlarmEntry + 0) (cs := [.string (y234.Name), .int .i64 (y234.Time), .bool (y234.Acked)]) rfl Proofs.Try.sizeOf39 rfl (row_ad0 _ _) rfl rfl rfl (Rw.room hr197 he244 rfl) rfl (all_cons rfl (all_cons rfl (all_cons rfl all_nil))) (n' := (l196.set ((n198 : Int).toNat) y234).length) List.length_set ?_
            generalize over xs195 ((n198 : Int).toNat * Rep.sz S_api_AlarmEntry + 0) [.string (y234.Name), .int .i64 (y234.Time), .bool (y234.Acked)] = xs249 at hr246 hg248 ⊢
            refine W_end ?_
            refine E_then ?_
            refine C_region ?_
            refine W_move rfl rfl rfl ?_
            refine W_bin rfl rfl rfl rfl rfl ?_
            refine W_assign rfl rfl rfl ?_
            refine W_end ?_
            refine E_normal_block ?_
            refine E_drop (List.Sublist.cons_cons _ (List.Sublist.cons_cons _ (List.Sublist.cons _ (List.Sublist.refl _)))) ?_
            exact E_keepJ (J233 _ _ _ ⟨(l196.set ((n198 : Int).toNat) y234), IntKind.i64.wrap (n198 + 1), xs249, hm, hr246, rfl, rfl, rfl⟩) (List.Perm.refl _) ⟨rfl, rfl, rfl, rfl, trivial⟩
          · have hm := ite_f' hb241 hm
            refine C_skip ?_
            refine E_normal_block ?_
            refine E_drop (List.Sublist.cons_cons _ (List.Sublist.cons _ (List.Sublist.refl _))) ?_
            exact E_keepJ (J233 _ _ _ ⟨l196, n198, xs195, hm, hr197, rfl, rfl, rfl⟩) (List.Perm.swap _ _ _) ⟨rfl, rfl, rfl, rfl, trivial⟩
      · have hm := ite_f' hb211 hm
        refine C_exit ?_
        refine E_exit_then ?_
        refine E_exit_then ?_
        refine E_exit_hit ?_
        refine E_then ?_
        refine C_seq ?_
        refine C_region ?_
        refine W_move rfl rfl rfl ?_
        refine W_move rfl rfl rfl ?_
        obtain ⟨hz250, hm⟩ := need_some hm
        refine W_clearFrom (α := S_api_AlarmEntry) (zs := [.string (⟨#[]⟩), .int .i64 (0), .bool (false)]) (ze := (S_api_AlarmEntry.mk (⟨#[]⟩) 0 false)) rfl rfl (fun _ => rfl) Proofs.Try.underlying36 Proofs.Try.runUnderlying36 Proofs.Try.sizeOf39 Proofs.Try.zeroValue39 rfl rfl rfl rfl rfl rfl hr197 hz250 ?_
        intro u251 xs252 hr253
        refine W_end ?_
        refine E_then ?_
        refine C_seq ?_
        refine C_region ?_
        refine W_move rfl rfl rfl ?_
        refine W_move rfl rfl rfl ?_
        obtain ⟨hz254, hm⟩ := need_some hm
        refine W_sliceO (α := S_api_AlarmEntry) (l := 0) (h := (n198 : Int).toNat) rfl rfl Proofs.Try.runUnderlying36 Proofs.Try.sizeOf39 rfl rfl hr253 (by omega) (by omega) (fun m hmm => (.inr ⟨_, _, _, rfl, rfl, by omega, by omega, rfl⟩)) (.inl ⟨rfl, rfl⟩) ?_
        intro v255 xs256 hr257
        refine W_assign rfl rfl rfl ?_
        refine W_end ?_
        refine E_then ?_
        refine C_ret ?_
        obtain rfl := Option.some.inj hm
        refine E_weak hle201 ?_
        exact end1 rfl rfl ⟨rfl, v255, xs256, rfl, rfl, (hr257).toF⟩

theorem m_alarm_Board_Shown_c {B : Nat} {w0 w : World} {H : Hp} {M : List Res} {p0_b : S_alarm_Board} {b0 : Nat} {v0 : Value} {v1 : Value} {xs0 : List Value} {r : (List S_api_AlarmEntry)} (hm : m_alarm_Board_Shown p0_b = some r) (h0 : RdS H v0 p0_b.causes) (h1 : Rw H v1 xs0 p0_b.all_) (ht : St B w0 H (.obj b0 (.cells [v0, v1, .int .i64 (p0_b.last)].toArray 47 (0, 0)) :: .row v1 39 (Rep.sz S_api_AlarmEntry) p0_b.all_.length xs0 :: M) w) :
    Calls Proofs.Try.prog 13 [.pointer (some ⟨b0, 0, none⟩)].toArray w (Ret B w0 fun H' M' v => H = H' ∧ ∃ qv0 : Value, ∃ qxs0 : List Value, .row qv0 39 (Rep.sz S_api_AlarmEntry) r.length qxs0 :: .obj b0 (.cells [v0, v1, .int .i64 (p0_b.last)].toArray 47 (0, 0)) :: .row v1 39 (Rep.sz S_api_AlarmEntry) p0_b.all_.length xs0 :: M = M' ∧ qv0 = v ∧ RwF qv0 qxs0 r) := by
  unfold m_alarm_Board_Shown at hm
  refine enter Proofs.Try.func13 rfl rfl rfl ht ?_
  refine C_seq ?_
  refine C_region ?_
  refine W_assign rfl rfl rfl ?_
  refine W_end ?_
  refine E_then ?_
  refine C_seq ?_
  refine C_region ?_
  refine W_assign rfl rfl rfl ?_
  refine W_end ?_
  refine E_then ?_
  refine C_seq ?_
  refine C_seq ?_
  refine C_region ?_
  refine W_move rfl rfl rfl ?_
  refine W_nilCheck rfl rfl rfl ?_
  refine W_field (o := 1) rfl rfl Proofs.Try.runUnderlying47 rfl Proofs.Try.sizeOf36 rfl rfl rfl ?_
  refine W_load rfl rfl Proofs.Try.isAgg36 rfl (own_at (List.mem_cons_self ..) rfl) ?_
  refine W_lenO (List.mem_cons_of_mem _ (List.mem_cons_self ..)) rfl rfl Proofs.Try.runUnderlying36 rfl ?_
  refine W_move rfl rfl rfl ?_
  refine W_end ?_
  refine E_then ?_
  refine C_block ?_
  refine C_rowMax (List.mem_cons_of_mem _ (List.mem_cons_self ..)) (fun hmx150 => ?_)
  refine C_nilRow 9 (Rep.sz ByteArray) ?_
  refine C_keep (L' := [(0, .pointer (some ⟨b0, 0, none⟩)), (3, (.slice none 0 0)), (10, v1), (11, .int .i64 ((p0_b.all_.length : Int))), (12, .int .i64 (((0 : Nat) : Int)))]) ⟨rfl, rfl, rfl, rfl, rfl, trivial⟩ (List.Perm.refl _) ?_
  refine C_loop (fun n H' M' L' => ∃ (k101 : Nat) (zs152' : List S_api_AlarmEntry), ∃ l142 : List ByteArray, ∃ v140 : Value, ∃ xs141 : List Value, (p0_b.all_).drop k101 = zs152' ∧ zs152'.length = n ∧ forI (fun k y s146 n => m_alarm_Board_Shown_b1 k y s146 n) (fun s146 => (m_alarm_causesOf p0_b.causes s146).bind fun r170 => (m_alarm_Board_All p0_b).bind fun r176 => (m_slices_DeleteFunc_api_AlarmEntry_api_AlarmEntry__alarm_Board_Shown_1 r176 r170).bind fun r184 => some r184) k101 zs152' l142 = some r ∧ Rw H' v140 xs141 l142 ∧ H.le H' ∧ .row v140 9 (Rep.sz ByteArray) l142.length xs141 :: .obj b0 (.cells [v0, v1, .int .i64 (p0_b.last)].toArray 47 (0, 0)) :: .row v1 39 (Rep.sz S_api_AlarmEntry) p0_b.all_.length xs0 :: M = M' ∧ [(0, .pointer (some ⟨b0, 0, none⟩)), (3, v140), (10, v1), (11, .int .i64 ((p0_b.all_.length : Int))), (12, .int .i64 ((k101 : Int)))] = L') _ ⟨0, _, ([] : List ByteArray), (.slice none 0 0), ([]), rfl, rfl, hm, Rw.nil, (Hp.le_refl _), rfl, rfl⟩ ?_
  rintro _ H144 _ _ ⟨k101, zs152', l142, v140, xs141, hd154, rfl, hm, hr143, hle145, rfl, rfl⟩
  refine C_seq ?_
  refine C_region ?_
  refine W_bin rfl rfl rfl rfl rfl ?_
  refine W_end (E_then ?_)
  refine C_seq ?_
  refine C_cond (b := decide ((k101 : Int) < (p0_b.all_.length : Int))) rfl (fun hb156 => ?_) (fun hb156 => ?_)
  · obtain ⟨y151, zs152, rfl, hy153, hd155⟩ := rng_t hd154 hb156
    have hm : m_alarm_Board_Shown_b1 k101 y151 l142 (forI (fun k y s146 n => m_alarm_Board_Shown_b1 k y s146 n) (fun s146 => (m_alarm_causesOf p0_b.causes s146).bind fun r170 => (m_alarm_Board_All p0_b).bind fun r176 => (m_slices_DeleteFunc_api_AlarmEntry_api_AlarmEntry__alarm_Board_Shown_1 r176 r170).bind fun r184 => some r184) (k101 + 1) zs152) = some r := hm
    generalize hn148 : forI (fun k y s146 n => m_alarm_Board_Shown_b1 k y s146 n) (fun s146 => (m_alarm_causesOf p0_b.causes s146).bind fun r170 => (m_alarm_Board_All p0_b).bind fun r176 => (m_slices_DeleteFunc_api_AlarmEntry_api_AlarmEntry__alarm_Board_Shown_1 r176 r170).bind fun r184 => some r184) (k101 + 1) zs152 = nx147 at hm
    unfold m_alarm_Board_Shown_b1 at hm
    refine C_skip (E_then ?_)
    refine C_seq ?_
    refine C_block ?_
    refine C_seq ?_
    refine C_region ?_
    refine W_indexO (List.mem_cons_of_mem _ (List.mem_cons_of_mem _ (List.mem_cons_self ..))) rfl rfl Proofs.Try.runUnderlying36 Proofs.Try.sizeOf39 rfl rfl (Int.natCast_nonneg _) (List.getElem?_eq_some_iff.1 hy153).1 ?_
    obtain ⟨_, rfl, hg157⟩ := (h1).elem hy153
    refine W_loadAgg (cs := [.string (y151.Name), .int .i64 (y151.Time), .bool (y151.Acked)]) rfl rfl Proofs.Try.isAgg39 Proofs.Try.sizeOf39 rfl (row_cells (List.mem_cons_of_mem _ (List.mem_cons_of_mem _ (List.mem_cons_self ..))) hg157) rfl ?_
    refine W_alloc (cs := [.string (⟨#[]⟩), .int .i64 (0), .bool (false)]) rfl rfl Proofs.Try.zeroValue39 rfl (fun b158 => ?_)
    refine W_store (cs := [.string (y151.Name), .int .i64 (y151.Time), .bool (y151.Acked)]) (out := [.string (y151.Name), .int .i64 (y151.Time), .bool (y151.Acked)]) rfl Proofs.Try.sizeOf39 rfl rfl rfl rfl rfl (all_cons rfl (all_cons rfl (all_cons rfl all_nil))) (over_all rfl) ?_
    refine W_end ?_
    refine E_then ?_
    refine C_region ?_
    refine W_move rfl rfl rfl ?_
    refine W_field (o := 0) rfl rfl Proofs.Try.runUnderlying39 rfl Proofs.Try.sizeOf9 rfl rfl rfl ?_
    refine W_load rfl rfl Proofs.Try.isAgg9 rfl (own_at (List.mem_cons_self ..) rfl) ?_
    refine W_buildSlice (α := ByteArray) (css := [[.string (y151.Name)]]) (zs := [.string (⟨#[]⟩)]) (out := [.string (y151.Name)]) (ys := [y151.Name]) rfl rfl rfl ⟨rfl, trivial⟩ Proofs.Try.runUnderlying23 Proofs.Try.sizeOf9 rfl Proofs.Try.zeroValue9 (by kernel_rfl) rfl rfl rfl rfl ⟨[.string (y151.Name)], [], rfl, rfl, rfl⟩ rfl ?_
    intro b159 v160 H161 hv162 hle163 h164
    have hc165 : Value.cap' v160 = ([y151.Name]).length := by rw [hv162]; rfl
    obtain ⟨hz166, hm⟩ := need_some hm
    refine W_perm (List.Perm.swap _ _ _) ?_
    refine W_appendO (α := ByteArray) (l := l142) (ys := [y151.Name]) rfl rfl Proofs.Try.underlying23 ⟨_, rfl, rfl, rfl, rfl⟩ rfl rfl rfl rfl rfl (hr143.mono hle163) h164 hz166 ?_
    intro v167 xs168 hr169
    refine W_assign rfl rfl rfl ?_
    refine W_end ?_
    refine E_normal_block ?_
    refine E_then ?_
    refine C_region ?_
    refine W_bin rfl rfl rfl rfl rfl ?_
    refine W_move rfl rfl rfl ?_
    refine W_end ?_
    refine E_drop (List.Sublist.cons_cons _ (List.Sublist.cons _ (List.Sublist.refl _))) ?_
    exact E_keepJ (E_back (Nat.lt_succ_self _) ⟨k101 + 1, zs152, (l142 ++ ([y151.Name])), v167, xs168, hd155, rfl, (by rw [hn148]; exact hm), hr169, (Hp.le_trans hle145 hle163), rfl, rfl⟩) (List.Perm.refl _) ⟨rfl, rfl, rfl, rfl, (congrArg (fun z => some (Value.int .i64 z)) (i64_succ hy153 hmx150)), trivial⟩
  · obtain rfl := rng_f hd154 hb156
    have hm : ((m_alarm_causesOf p0_b.causes l142).bind fun r170 => (m_alarm_Board_All p0_b).bind fun r176 => (m_slices_DeleteFunc_api_AlarmEntry_api_AlarmEntry__alarm_Board_Shown_1 r176 r170).bind fun r184 => some r184) = some r := hm
    refine C_exit (E_exit_then ?_)
    refine E_exit_then ?_
    refine E_exit_hit ?_
    refine E_then ?_
    refine C_seq ?_
    refine C_region ?_
    refine W_move rfl rfl rfl ?_
    refine W_nilCheck rfl rfl rfl ?_
    refine W_field (o := 0) rfl rfl Proofs.Try.runUnderlying47 rfl Proofs.Try.sizeOf22 rfl rfl rfl ?_
    refine W_load rfl rfl Proofs.Try.isAgg22 rfl (own_at (List.mem_cons_of_mem _ (List.mem_cons_self ..)) rfl) ?_
    refine W_move rfl rfl rfl ?_
    obtain ⟨r170, hc171, hm⟩ := bind_some hm
    refine W_call Proofs.Try.call23 rfl rfl rfl (fun w ht => by obtain ⟨H0_, hl0_, ht0_, hr0_, bk0_⟩ := ht.lendRow hr143 rfl; have h := m_alarm_causesOf_c (hm := hc171) ((h0.mono hle145).mono hl0_) hr0_ ht0_; exact lend_back bk0_ (h)) ?_
    rintro _ _ _ ⟨rfl, ⟨_, rfl, v172, xs173, rfl, rfl, h174⟩⟩
    have h174 := h174 H144
    refine W_alloc (cs := [.slice none 0 0]) rfl rfl Proofs.Try.zeroValue23 rfl (fun b175 => ?_)
    refine W_store (cs := [v172]) (out := [v172]) rfl Proofs.Try.sizeOf23 rfl rfl (Rw.cells h174) rfl rfl (all_cons (Rw.one h174) all_nil) (over_all rfl) ?_
    refine W_end ?_
    refine E_then ?_
    refine C_seq ?_
    refine C_region ?_
    refine W_move rfl rfl rfl ?_
    refine W_perm (List.Perm.trans (List.Perm.cons _ (List.Perm.cons _ (List.Perm.swap _ _ _))) (List.Perm.trans (List.Perm.cons _ (List.Perm.swap _ _ _)) (List.Perm.trans (List.Perm.swap _ _ _) (List.Perm.trans (List.Perm.cons _ (List.Perm.cons _ (List.Perm.cons _ (List.Perm.swap _ _ _)))) (List.Perm.trans (List.Perm.cons _ (List.Perm.cons _ (List.Perm.swap _ _ _))) (List.Perm.cons _ (List.Perm.swap _ _ _))))))) ?_
    obtain ⟨r176, hc177, hm⟩ := bind_some hm
    refine W_call Proofs.Try.call15 rfl rfl rfl (fun w ht => by have h := m_alarm_Board_All_c (hm := hc177) (h0.mono hle145) (h1.mono hle145) ht; exact h) ?_
    rintro _ _ _ ⟨rfl, v178, xs179, rfl, rfl, h180⟩
    have h180 := h180 H144
    refine W_makeFunc rfl rfl rfl rfl ?_
    refine W_perm (List.Perm.trans (List.Perm.cons _ (List.Perm.cons _ (List.Perm.cons _ (List.Perm.cons _ (List.Perm.swap _ _ _))))) (List.Perm.trans (List.Perm.cons _ (List.Perm.cons _ (List.Perm.cons _ (List.Perm.swap _ _ _)))) (List.Perm.trans (List.Perm.cons _ (List.Perm.cons _ (List.Perm.swap _ _ _))) (List.Perm.trans (List.Perm.cons _ (List.Perm.swap _ _ _)) (List.Perm.swap _ _ _))))) ?_
    refine W_freeze (h174).rd rfl (fun H181 hle182 h183 => ?_)
    refine W_perm (List.Perm.trans (List.Perm.cons _ (List.Perm.cons _ (List.Perm.swap _ _ _))) (List.Perm.cons _ (List.Perm.swap _ _ _))) ?_
    obtain ⟨r184, hc185, hm⟩ := bind_some hm
    refine W_call Proofs.Try.call24 rfl rfl rfl (fun w ht => by have h := m_slices_DeleteFunc_api_AlarmEntry_api_AlarmEntry__alarm_Board_Shown_1_c (hm := hc185) (h180.mono hle182) h183 ht; exact h) ?_
    rintro _ _ _ ⟨rfl, v186, xs187, rfl, rfl, h188⟩
    have h188 := h188 H181
    refine W_assign rfl rfl rfl ?_
    refine W_end ?_
    refine E_then ?_
    refine C_ret ?_
    obtain rfl := Option.some.inj hm
    refine E_drop (List.Sublist.cons_cons _ (List.Sublist.cons _ (List.Sublist.cons_cons _ (List.Sublist.cons_cons _ (List.Sublist.cons _ (List.Sublist.refl _)))))) ?_
    refine E_weak (Hp.le_trans hle145 hle182) ?_
    exact end1 rfl rfl ⟨rfl, v186, xs187, rfl, rfl, (h188).toF⟩

theorem m_gridhallkeep4_AlarmBoards_c {B : Nat} {w0 w : World} {H : Hp} {M : List Res} {causes : (List S_api_AlarmCause)} {names : (List ByteArray)} {clear : ByteArray} {v0 : Value} {v1 : Value} {r : Bool} (hm : m_gridhallkeep4_AlarmBoards causes names clear = some r) (h0 : RdS H v0 causes) (h1 : RdS H v1 names) (ht : St B w0 H (M) w) :
    Calls Proofs.Try.prog 3 [v0, v1, .string (clear)].toArray w (Ret B w0 fun H' M' v => H = H' ∧ M = M' ∧ .bool (r) = v) := by
  unfold m_gridhallkeep4_AlarmBoards at hm
  refine enter Proofs.Try.func3 rfl rfl rfl ht ?_
  refine C_seq ?_
  refine C_region ?_
  refine W_assign rfl rfl rfl ?_
  refine W_end ?_
  refine E_then ?_
  refine C_seq ?_
  refine C_region ?_
  refine W_move rfl rfl rfl ?_
  obtain ⟨r101, hc102, hm⟩ := bind_some hm
  refine W_call Proofs.Try.call4 rfl rfl rfl (fun w ht => by have h := m_alarm_New_c (hm := hc102) h0 ht; exact h) ?_
  rintro _ H116 _ (⟨hn110, hle112, rfl, rfl⟩ | ⟨sp103, hn113, hle115, b104, v105, v107, xs108, rfl, rfl, h106, h109⟩)
  · have hm := optC_n hn110 hm
    refine W_move rfl rfl rfl ?_
    refine W_extract rfl rfl rfl rfl ?_
    refine W_extract rfl rfl rfl rfl ?_
    refine W_assign rfl rfl rfl ?_
    refine W_assign rfl rfl rfl ?_
    refine W_end ?_
    refine E_then ?_
    refine C_seq ?_
    refine C_seq_join (fun H' M' L' => H116 = H' ∧ M = M' ∧ [(0, v0), (1, v1), (2, .string (clear)), (7, .pointer none), (8, .int .i64 (r101.2)), (31, .bool (true))] = L') ?_ (fun J118 => ?_)
    · rintro _ _ _ ⟨rfl, rfl, rfl⟩
      refine C_cond (b := true) rfl (fun _ => ?_) (fun hb => Bool.noConfusion hb)
      refine C_seq ?_
      refine C_region ?_
      obtain ⟨r119, hc120, hm⟩ := bind_some hm
      refine W_call Proofs.Try.call5 rfl rfl rfl (fun w ht => by have h := m_gridhallkeep4_alarmFact_c (hm := hc120)  ht; exact h) ?_
      rintro _ _ _ ⟨rfl, rfl, rfl⟩
      refine W_move rfl rfl rfl ?_
      cases hb121 : (r119)
      · have hm := ite_f' hb121 hm
        refine W_no rfl rfl rfl ?_
        refine W_no rfl rfl rfl ?_
        refine W_pick rfl rfl rfl rfl ?_
        refine W_move rfl rfl rfl ?_
        refine W_no rfl rfl rfl ?_
        refine W_no rfl rfl rfl ?_
        refine W_no rfl rfl rfl ?_
        refine W_no rfl rfl rfl ?_
        refine W_pick rfl rfl rfl rfl ?_
        refine W_assign rfl rfl rfl ?_
        refine W_end ?_
        refine E_then ?_
        refine C_ret ?_
        refine E_ret_then ?_
        obtain rfl := Option.some.inj hm
        refine E_weak hle112 ?_
        exact end1 rfl rfl ⟨rfl, rfl, rfl⟩
      · have hm := ite_t' hb121 hm
        refine W_move rfl rfl rfl ?_
        refine W_ptrNil rfl rfl Proofs.Try.runUnderlying24 rfl rfl ?_
        refine W_pick rfl rfl rfl rfl ?_
        refine W_move rfl rfl rfl ?_
        refine W_move rfl rfl rfl ?_
        obtain ⟨r122, hc123, hm⟩ := bind_some hm
        refine W_call Proofs.Try.call6 rfl rfl rfl (fun w ht => by have h := m_alarm_Check_c (hm := hc123) (h0.mono hle112) ht; exact h) ?_
        rintro _ _ _ ⟨rfl, rfl, rfl⟩
        refine W_move rfl rfl rfl ?_
        refine W_bin rfl rfl rfl rfl rfl ?_
        refine W_pick rfl rfl rfl rfl ?_
        refine W_assign rfl rfl rfl ?_
        refine W_end ?_
        refine E_then ?_
        refine C_ret ?_
        refine E_ret_then ?_
        obtain rfl := Option.some.inj hm
        refine E_weak hle112 ?_
        exact end1 rfl rfl ⟨rfl, rfl, rfl⟩
    · refine C_region ?_
      refine W_move rfl rfl rfl ?_
      refine W_bin rfl rfl rfl rfl rfl ?_
      refine W_move rfl rfl rfl ?_
      cases hb124 : (decide (r101.2 = 0))
      · refine W_no rfl rfl rfl ?_
        refine W_no rfl rfl rfl ?_
        refine W_pick rfl rfl rfl rfl ?_
        refine W_end ?_
        exact E_keepJ (J118 _ _ _ ⟨rfl, rfl, rfl⟩) (List.Perm.refl _) ⟨rfl, rfl, rfl, rfl, rfl, rfl, trivial⟩
      · refine W_move rfl rfl rfl ?_
        refine W_ptrNil rfl rfl Proofs.Try.runUnderlying24 rfl rfl ?_
        refine W_pick rfl rfl rfl rfl ?_
        refine W_end ?_
        exact E_keepJ (J118 _ _ _ ⟨rfl, rfl, rfl⟩) (List.Perm.refl _) ⟨rfl, rfl, rfl, rfl, rfl, rfl, trivial⟩
  · have hm := optC_s hn113 hm
    refine W_move rfl rfl rfl ?_
    refine W_extract rfl rfl rfl rfl ?_
    refine W_extract rfl rfl rfl rfl ?_
    refine W_assign rfl rfl rfl ?_
    refine W_assign rfl rfl rfl ?_
    refine W_end ?_
    refine E_then ?_
    refine C_seq ?_
    refine C_seq_join (fun H' M' L' => H116 = H' ∧ .obj b104 (.cells [v105, v107, .int .i64 (sp103.last)].toArray 47 (0, 0)) :: .row v107 39 (Rep.sz S_api_AlarmEntry) sp103.all_.length xs108 :: M = M' ∧ [(0, v0), (1, v1), (2, .string (clear)), (7, .pointer (some ⟨b104, 0, none⟩)), (8, .int .i64 (r101.2)), (31, .bool (!decide (r101.2 = 0)))] = L') ?_ (fun J126 => ?_)
    · rintro _ _ _ ⟨rfl, rfl, rfl⟩
      refine C_cond (b := !decide (r101.2 = 0)) rfl (fun hb127 => ?_) (fun hb127 => ?_)
      · have hm := ite_t' hb127 hm
        refine C_seq ?_
        refine C_region ?_
        obtain ⟨r128, hc129, hm⟩ := bind_some hm
        refine W_call Proofs.Try.call5 rfl rfl rfl (fun w ht => by have h := m_gridhallkeep4_alarmFact_c (hm := hc129)  ht; exact h) ?_
        rintro _ _ _ ⟨rfl, rfl, rfl⟩
        refine W_move rfl rfl rfl ?_
        cases hb130 : (r128)
        · have hm := ite_f' hb130 hm
          refine W_no rfl rfl rfl ?_
          refine W_no rfl rfl rfl ?_
          refine W_pick rfl rfl rfl rfl ?_
          refine W_move rfl rfl rfl ?_
          refine W_no rfl rfl rfl ?_
          refine W_no rfl rfl rfl ?_
          refine W_no rfl rfl rfl ?_
          refine W_no rfl rfl rfl ?_
          refine W_pick rfl rfl rfl rfl ?_
          refine W_assign rfl rfl rfl ?_
          refine W_end ?_
          refine E_then ?_
          refine C_ret ?_
          refine E_ret_then ?_
          obtain rfl := Option.some.inj hm
          refine E_drop (List.Sublist.cons _ (List.Sublist.cons _ (List.Sublist.refl _))) ?_
          refine E_weak hle115 ?_
          exact end1 rfl rfl ⟨rfl, rfl, rfl⟩
        · have hm := ite_t' hb130 hm
          refine W_move rfl rfl rfl ?_
          refine W_ptrNil rfl rfl Proofs.Try.runUnderlying24 rfl rfl ?_
          refine W_pick rfl rfl rfl rfl ?_
          refine W_move rfl rfl rfl ?_
          refine W_no rfl rfl rfl ?_
          refine W_no rfl rfl rfl ?_
          refine W_no rfl rfl rfl ?_
          refine W_no rfl rfl rfl ?_
          refine W_pick rfl rfl rfl rfl ?_
          refine W_assign rfl rfl rfl ?_
          refine W_end ?_
          refine E_then ?_
          refine C_ret ?_
          refine E_ret_then ?_
          obtain rfl := Option.some.inj hm
          refine E_drop (List.Sublist.cons _ (List.Sublist.cons _ (List.Sublist.refl _))) ?_
          refine E_weak hle115 ?_
          exact end1 rfl rfl ⟨rfl, rfl, rfl⟩
      · have hm := ite_f' hb127 hm
        refine C_skip ?_
        refine E_then ?_
        refine C_seq ?_
        refine C_region ?_
        refine W_assign rfl rfl rfl ?_
        refine W_end ?_
        refine E_then ?_
        refine C_seq ?_
        refine C_seq ?_
        refine C_region ?_
        refine W_move rfl rfl rfl ?_
        refine W_move rfl rfl rfl ?_
        refine W_lenR rfl rfl Proofs.Try.runUnderlying23 rfl (h1.mono hle115) ?_
        refine W_min rfl rfl rfl rfl ?_
        obtain ⟨hz131, hm⟩ := need_some hm
        refine W_sliceR (α := ByteArray) (l := 0) (h := (min (names.length : Int) 8 : Int).toNat) (xs := names) rfl rfl Proofs.Try.runUnderlying23 Proofs.Try.sizeOf9 rfl (h1.mono hle115) (by omega) (by omega) (.inl rfl) (fun cap hcap => by rw [if_pos rfl]; exact (.inl ⟨rfl, rfl⟩)) (fun m hmm => (.inr ⟨_, _, _, rfl, rfl, by omega, by omega, rfl⟩)) (.inl ⟨rfl, rfl⟩) ?_
        intro v132 h133 hc134
        refine W_lenR rfl rfl Proofs.Try.runUnderlying23 rfl h133 ?_
        refine W_move rfl rfl rfl ?_
        refine W_end ?_
        refine E_then ?_
        refine C_block ?_
        refine C_nilRow 9 (Rep.sz ByteArray) ?_
        refine C_keep (L' := [(0, v0), (2, .string (clear)), (7, .pointer (some ⟨b104, 0, none⟩)), (9, (.slice none 0 0)), (47, v132), (48, .int .i64 (((slc names 0 ((min (names.length : Int) 8 : Int).toNat)).length : Int))), (49, .int .i64 (((0 : Nat) : Int)))]) ⟨rfl, rfl, rfl, rfl, rfl, rfl, rfl, trivial⟩ (List.Perm.cons _ (List.Perm.swap _ _ _)) ?_
        refine C_loop (fun n H' M' L' => ∃ (k135 : Nat) (zs305' : List ByteArray), ∃ l288 : List ByteArray, ∃ l291 : (List S_api_AlarmCause), ∃ l295 : List S_api_AlarmEntry, ∃ n297 : Int, ∃ v286 : Value, ∃ xs287 : List Value, ∃ v290 : Value, ∃ v293 : Value, ∃ xs294 : List Value, (slc names 0 ((min (names.length : Int) 8 : Int).toNat)).drop k135 = zs305' ∧ zs305'.length = n ∧ forI (fun k y s300 n => m_gridhallkeep4_AlarmBoards_b3 causes k y s300.1 s300.2.1 s300.2.2.1 s300.2.2.2 n) (fun s300 => (m_slices_Index_string_string s300.1 clear).bind fun r371 => (m_alarm_Board_Ack (S_alarm_Board.mk s300.2.1 s300.2.2.1 s300.2.2.2) clear).bind fun r373 => (m_alarm_Board_Ack r373.2 clear).bind fun r383 => (m_alarm_Board_Clear r383.2 clear).bind fun r393 => if ((decide (r371 < 0)) && ((!decide (r373.1 = 8)) || (!decide (r393.1 = 8)))) || ((decide (0 ≤ r371)) && (((!decide (r373.1 = 0)) || (!decide (r383.1 = 11))) || (!decide (r393.1 = 0)))) then (some false) else (if decide (0 ≤ r371) then (need (0 ≤ r371 ∧ r371 < (IntKind.i64.wrap (r371 + 1)) ∧ (IntKind.i64.wrap (r371 + 1)) ≤ (s300.1.length : Int)) (m_gridhallkeep4_AlarmBoards_b6 causes r393 (s300.1.take (r371).toNat ++ s300.1.drop (IntKind.i64.wrap (r371 + 1)).toNat))) else (m_gridhallkeep4_AlarmBoards_b6 causes r393 s300.1))) k135 zs305' (l288, l291, l295, n297) = some r ∧ Rw H' v286 xs287 l288 ∧ RdS H' v290 l291 ∧ Rw H' v293 xs294 l295 ∧ H116.le H' ∧ .row v286 9 (Rep.sz ByteArray) l288.length xs287 :: .row v293 39 (Rep.sz S_api_AlarmEntry) l295.length xs294 :: .obj b104 (.cells [v290, v293, .int .i64 (n297)].toArray 47 (0, 0)) :: M = M' ∧ [(0, v0), (2, .string (clear)), (7, .pointer (some ⟨b104, 0, none⟩)), (9, v286), (47, v132), (48, .int .i64 (((slc names 0 ((min (names.length : Int) 8 : Int).toNat)).length : Int))), (49, .int .i64 ((k135 : Int)))] = L') _ ⟨0, _, ([] : List ByteArray), sp103.causes, sp103.all_, sp103.last, (.slice none 0 0), ([]), v105, v107, xs108, rfl, rfl, hm, Rw.nil, h106, h109, (Hp.le_refl _), rfl, rfl⟩ ?_
        rintro _ H298 _ _ ⟨k135, zs305', l288, l291, l295, n297, v286, xs287, v290, v293, xs294, hd307, rfl, hm, hr289, h292, hr296, hle299, rfl, rfl⟩
        refine C_seq ?_
        refine C_region ?_
        refine W_bin rfl rfl rfl rfl rfl ?_
        refine W_end (E_then ?_)
        refine C_seq ?_
        refine C_cond (b := decide ((k135 : Int) < ((slc names 0 ((min (names.length : Int) 8 : Int).toNat)).length : Int))) rfl (fun hb309 => ?_) (fun hb309 => ?_)
        · obtain ⟨y304, zs305, rfl, hy306, hd308⟩ := rng_t hd307 hb309
          have hm : m_gridhallkeep4_AlarmBoards_b3 causes k135 y304 l288 l291 l295 n297 (forI (fun k y s300 n => m_gridhallkeep4_AlarmBoards_b3 causes k y s300.1 s300.2.1 s300.2.2.1 s300.2.2.2 n) (fun s300 => (m_slices_Index_string_string s300.1 clear).bind fun r371 => (m_alarm_Board_Ack (S_alarm_Board.mk s300.2.1 s300.2.2.1 s300.2.2.2) clear).bind fun r373 => (m_alarm_Board_Ack r373.2 clear).bind fun r383 => (m_alarm_Board_Clear r383.2 clear).bind fun r393 => if ((decide (r371 < 0)) && ((!decide (r373.1 = 8)) || (!decide (r393.1 = 8)))) || ((decide (0 ≤ r371)) && (((!decide (r373.1 = 0)) || (!decide (r383.1 = 11))) || (!decide (r393.1 = 0)))) then (some false) else (if decide (0 ≤ r371) then (need (0 ≤ r371 ∧ r371 < (IntKind.i64.wrap (r371 + 1)) ∧ (IntKind.i64.wrap (r371 + 1)) ≤ (s300.1.length : Int)) (m_gridhallkeep4_AlarmBoards_b6 causes r393 (s300.1.take (r371).toNat ++ s300.1.drop (IntKind.i64.wrap (r371 + 1)).toNat))) else (m_gridhallkeep4_AlarmBoards_b6 causes r393 s300.1))) (k135 + 1) zs305) = some r := hm
          generalize hn302 : forI (fun k y s300 n => m_gridhallkeep4_AlarmBoards_b3 causes k y s300.1 s300.2.1 s300.2.2.1 s300.2.2.2 n) (fun s300 => (m_slices_Index_string_string s300.1 clear).bind fun r371 => (m_alarm_Board_Ack (S_alarm_Board.mk s300.2.1 s300.2.2.1 s300.2.2.2) clear).bind fun r373 => (m_alarm_Board_Ack r373.2 clear).bind fun r383 => (m_alarm_Board_Clear r383.2 clear).bind fun r393 => if ((decide (r371 < 0)) && ((!decide (r373.1 = 8)) || (!decide (r393.1 = 8)))) || ((decide (0 ≤ r371)) && (((!decide (r373.1 = 0)) || (!decide (r383.1 = 11))) || (!decide (r393.1 = 0)))) then (some false) else (if decide (0 ≤ r371) then (need (0 ≤ r371 ∧ r371 < (IntKind.i64.wrap (r371 + 1)) ∧ (IntKind.i64.wrap (r371 + 1)) ≤ (s300.1.length : Int)) (m_gridhallkeep4_AlarmBoards_b6 causes r393 (s300.1.take (r371).toNat ++ s300.1.drop (IntKind.i64.wrap (r371 + 1)).toNat))) else (m_gridhallkeep4_AlarmBoards_b6 causes r393 s300.1))) (k135 + 1) zs305 = nx301 at hm
          unfold m_gridhallkeep4_AlarmBoards_b3 at hm
          refine C_skip (E_then ?_)
          refine C_seq_join (fun H' M' L' => ∃ l335 : List ByteArray, ∃ l338 : (List S_api_AlarmCause), ∃ l342 : List S_api_AlarmEntry, ∃ n344 : Int, ∃ v333 : Value, ∃ xs334 : List Value, ∃ v337 : Value, ∃ v340 : Value, ∃ xs341 : List Value, m_gridhallkeep4_AlarmBoards_b4 nx301 l335 l338 l342 n344 = some r ∧ Rw H' v333 xs334 l335 ∧ RdS H' v337 l338 ∧ Rw H' v340 xs341 l342 ∧ H298.le H' ∧ .row v333 9 (Rep.sz ByteArray) l335.length xs334 :: .row v340 39 (Rep.sz S_api_AlarmEntry) l342.length xs341 :: .obj b104 (.cells [v337, v340, .int .i64 (n344)].toArray 47 (0, 0)) :: M = M' ∧ [(0, v0), (2, .string (clear)), (7, .pointer (some ⟨b104, 0, none⟩)), (9, v333), (47, v132), (48, .int .i64 (((slc names 0 ((min (names.length : Int) 8 : Int).toNat)).length : Int))), (49, .int .i64 ((k135 : Int)))] = L') ?_ (fun J347 => ?_)
          · rintro H345 _ _ ⟨l335, l338, l342, n344, v333, xs334, v337, v340, xs341, hm, hr336, h339, hr343, hle346, rfl, rfl⟩
            unfold m_gridhallkeep4_AlarmBoards_b4 at hm
            refine C_region ?_
            refine W_bin rfl rfl rfl rfl rfl ?_
            refine W_move rfl rfl rfl ?_
            refine W_end ?_
            exact E_keepJ (E_back (Nat.lt_succ_self _) ⟨k135 + 1, zs305, l335, l338, l342, n344, v333, xs334, v337, v340, xs341, hd308, rfl, (by rw [hn302]; exact hm), hr336, h339, hr343, (Hp.le_trans hle299 hle346), rfl, rfl⟩) (List.Perm.refl _) ⟨rfl, rfl, rfl, rfl, rfl, rfl, (congrArg (fun z => some (Value.int .i64 z)) (i64_succ hy306 ((h133.mono hle299)).lenMax)), trivial⟩
          · refine C_block ?_
            refine C_seq ?_
            refine C_region ?_
            refine W_move rfl rfl rfl ?_
            obtain ⟨_, rfl, hc348⟩ := (h133).elem hy306
            refine W_indexS rfl rfl Proofs.Try.runUnderlying23 Proofs.Try.sizeOf9 rfl (h133.mono hle299) rfl (Int.natCast_nonneg _) hy306 ?_
            refine W_load rfl rfl Proofs.Try.isAgg9 rfl (HCells.one (hc348.mono hle299) 0 rfl).at ?_
            refine W_assign rfl rfl rfl ?_
            refine W_assign rfl rfl rfl ?_
            refine W_end ?_
            refine E_then ?_
            refine C_seq ?_
            refine C_region ?_
            refine W_move rfl rfl rfl ?_
            refine W_move rfl rfl rfl ?_
            refine W_move rfl rfl rfl ?_
            refine W_quo rfl rfl rfl rfl (by decide) ?_
            refine W_perm (List.Perm.trans (List.Perm.cons _ (List.Perm.swap _ _ _)) (List.Perm.trans (List.Perm.swap _ _ _) (List.Perm.cons _ (List.Perm.swap _ _ _)))) ?_
            obtain ⟨r349, hc350, hm⟩ := bind_some hm
            refine W_call Proofs.Try.call7 rfl rfl rfl (fun w ht => by have h := m_alarm_Board_Raise_c (hm := hc350) h292 hr296 ht; exact h) ?_
            rintro _ H357 _ ⟨hle358, v352, v354, xs355, rfl, rfl, h353, h356⟩
            refine W_bin rfl rfl rfl rfl rfl ?_
            refine W_end ?_
            refine E_then ?_
            refine C_cond (b := decide (r349.1 = 0)) rfl (fun hb359 => ?_) (fun hb359 => ?_)
            · have hm := ite_t' hb359 hm
              refine C_region ?_
              refine W_move rfl rfl rfl ?_
              refine W_move rfl rfl rfl ?_
              refine W_buildSlice (α := ByteArray) (css := [[.string (y304)]]) (zs := [.string (⟨#[]⟩)]) (out := [.string (y304)]) (ys := [y304]) rfl rfl rfl ⟨rfl, trivial⟩ Proofs.Try.runUnderlying23 Proofs.Try.sizeOf9 rfl Proofs.Try.zeroValue9 (by kernel_rfl) rfl rfl rfl rfl ⟨[.string (y304)], [], rfl, rfl, rfl⟩ rfl ?_
              intro b360 v361 H362 hv363 hle364 h365
              have hc366 : Value.cap' v361 = ([y304]).length := by rw [hv363]; rfl
              obtain ⟨hz367, hm⟩ := need_some hm
              refine W_perm (List.Perm.trans (List.Perm.cons _ (List.Perm.swap _ _ _)) (List.Perm.swap _ _ _)) ?_
              refine W_appendO (α := ByteArray) (l := l288) (ys := [y304]) rfl rfl Proofs.Try.underlying23 ⟨_, rfl, rfl, rfl, rfl⟩ rfl rfl rfl rfl rfl ((hr289.mono hle358).mono hle364) h365 hz367 ?_
              intro v368 xs369 hr370
              refine W_assign rfl rfl rfl ?_
              refine W_end ?_
              refine E_normal_block ?_
              exact E_keepJ (J347 _ _ _ ⟨(l288 ++ ([y304])), r349.2.causes, r349.2.all_, r349.2.last, v368, xs369, v352, v354, xs355, hm, hr370, (h353.mono hle364), (h356.mono hle364), (Hp.le_trans hle358 hle364), rfl, rfl⟩) (List.Perm.cons _ (List.Perm.swap _ _ _)) ⟨rfl, rfl, rfl, rfl, rfl, rfl, rfl, trivial⟩
            · have hm := ite_f' hb359 hm
              refine C_skip ?_
              refine E_normal_block ?_
              exact E_keepJ (J347 _ _ _ ⟨l288, r349.2.causes, r349.2.all_, r349.2.last, v286, xs287, v352, v354, xs355, hm, (hr289.mono hle358), h353, h356, hle358, rfl, rfl⟩) (List.Perm.trans (List.Perm.cons _ (List.Perm.swap _ _ _)) (List.Perm.trans (List.Perm.swap _ _ _) (List.Perm.cons _ (List.Perm.swap _ _ _)))) ⟨rfl, rfl, rfl, rfl, rfl, rfl, rfl, trivial⟩
        · obtain rfl := rng_f hd307 hb309
          have hm : ((m_slices_Index_string_string l288 clear).bind fun r371 => (m_alarm_Board_Ack (S_alarm_Board.mk l291 l295 n297) clear).bind fun r373 => (m_alarm_Board_Ack r373.2 clear).bind fun r383 => (m_alarm_Board_Clear r383.2 clear).bind fun r393 => if ((decide (r371 < 0)) && ((!decide (r373.1 = 8)) || (!decide (r393.1 = 8)))) || ((decide (0 ≤ r371)) && (((!decide (r373.1 = 0)) || (!decide (r383.1 = 11))) || (!decide (r393.1 = 0)))) then (some false) else (if decide (0 ≤ r371) then (need (0 ≤ r371 ∧ r371 < (IntKind.i64.wrap (r371 + 1)) ∧ (IntKind.i64.wrap (r371 + 1)) ≤ (l288.length : Int)) (m_gridhallkeep4_AlarmBoards_b6 causes r393 (l288.take (r371).toNat ++ l288.drop (IntKind.i64.wrap (r371 + 1)).toNat))) else (m_gridhallkeep4_AlarmBoards_b6 causes r393 l288))) = some r := hm
          refine C_exit (E_exit_then ?_)
          refine E_exit_then ?_
          refine E_exit_hit ?_
          refine E_then ?_
          refine C_seq ?_
          refine C_region ?_
          refine W_move rfl rfl rfl ?_
          refine W_move rfl rfl rfl ?_
          obtain ⟨r371, hc372, hm⟩ := bind_some hm
          refine W_call Proofs.Try.call8 rfl rfl rfl (fun w ht => by obtain ⟨H0_, hl0_, ht0_, hr0_, bk0_⟩ := ht.lendRow hr289 rfl; have h := m_slices_Index_string_string_c (hm := hc372) hr0_ ht0_; exact lend_back bk0_ (h)) ?_
          rintro _ _ _ ⟨rfl, ⟨_, rfl, rfl, rfl⟩⟩
          refine W_assign rfl rfl rfl ?_
          refine W_end ?_
          refine E_then ?_
          refine C_seq ?_
          refine C_region ?_
          refine W_move rfl rfl rfl ?_
          refine W_move rfl rfl rfl ?_
          refine W_perm (List.Perm.trans (List.Perm.cons _ (List.Perm.swap _ _ _)) (List.Perm.trans (List.Perm.swap _ _ _) (List.Perm.cons _ (List.Perm.swap _ _ _)))) ?_
          obtain ⟨r373, hc374, hm⟩ := bind_some hm
          refine W_call Proofs.Try.call9 rfl rfl rfl (fun w ht => by have h := m_alarm_Board_Ack_c (hm := hc374) h292 hr296 ht; exact h) ?_
          rintro _ H381 _ ⟨hle382, v376, v378, xs379, rfl, rfl, h377, h380⟩
          refine W_move rfl rfl rfl ?_
          refine W_move rfl rfl rfl ?_
          obtain ⟨r383, hc384, hm⟩ := bind_some hm
          refine W_call Proofs.Try.call9 rfl rfl rfl (fun w ht => by have h := m_alarm_Board_Ack_c (hm := hc384) h377 h380 ht; exact h) ?_
          rintro _ H391 _ ⟨hle392, v386, v388, xs389, rfl, rfl, h387, h390⟩
          refine W_move rfl rfl rfl ?_
          refine W_move rfl rfl rfl ?_
          obtain ⟨r393, hc394, hm⟩ := bind_some hm
          refine W_call Proofs.Try.call10 rfl rfl rfl (fun w ht => by have h := m_alarm_Board_Clear_c (hm := hc394) h387 h390 ht; exact h) ?_
          rintro _ H401 _ ⟨hle402, v396, v398, xs399, rfl, rfl, h397, h400⟩
          refine W_assign rfl rfl rfl ?_
          refine W_assign rfl rfl rfl ?_
          refine W_assign rfl rfl rfl ?_
          refine W_end ?_
          refine E_then ?_
          refine C_seq ?_
          refine C_seq_join (fun H' M' L' => H401 = H' ∧ .obj b104 (.cells [v396, v398, .int .i64 (r393.2.last)].toArray 47 (0, 0)) :: .row v398 39 (Rep.sz S_api_AlarmEntry) r393.2.all_.length xs399 :: .row v286 9 (Rep.sz ByteArray) l288.length xs287 :: M = M' ∧ [(0, v0), (7, .pointer (some ⟨b104, 0, none⟩)), (9, v286), (12, .int .i64 (r371)), (102, .bool (((decide (r371 < 0)) && ((!decide (r373.1 = 8)) || (!decide (r393.1 = 8)))) || ((decide (0 ≤ r371)) && (((!decide (r373.1 = 0)) || (!decide (r383.1 = 11))) || (!decide (r393.1 = 0))))))] = L') ?_ (fun J412 => ?_)
          · rintro _ _ _ ⟨rfl, rfl, rfl⟩
            refine C_cond (b := ((decide (r371 < 0)) && ((!decide (r373.1 = 8)) || (!decide (r393.1 = 8)))) || ((decide (0 ≤ r371)) && (((!decide (r373.1 = 0)) || (!decide (r383.1 = 11))) || (!decide (r393.1 = 0))))) rfl (fun hb413 => ?_) (fun hb413 => ?_)
            · have hm := ite_t' hb413 hm
              refine C_seq ?_
              refine C_region ?_
              refine W_assign rfl rfl rfl ?_
              refine W_end ?_
              refine E_then ?_
              refine C_ret ?_
              refine E_ret_then ?_
              obtain rfl := Option.some.inj hm
              refine E_drop (List.Sublist.cons _ (List.Sublist.cons _ (List.Sublist.cons _ (List.Sublist.refl _)))) ?_
              refine E_weak (Hp.le_trans (Hp.le_trans (Hp.le_trans (Hp.le_trans hle115 hle299) hle382) hle392) hle402) ?_
              exact end1 rfl rfl ⟨rfl, rfl, rfl⟩
            · have hm := ite_f' hb413 hm
              refine C_skip ?_
              refine E_then ?_
              refine C_seq_join (fun H' M' L' => ∃ l421 : List ByteArray, ∃ v419 : Value, ∃ xs420 : List Value, m_gridhallkeep4_AlarmBoards_b6 causes r393 l421 = some r ∧ Rw H' v419 xs420 l421 ∧ H401 = H' ∧ .row v419 9 (Rep.sz ByteArray) l421.length xs420 :: .obj b104 (.cells [v396, v398, .int .i64 (r393.2.last)].toArray 47 (0, 0)) :: .row v398 39 (Rep.sz S_api_AlarmEntry) r393.2.all_.length xs399 :: M = M' ∧ [(0, v0), (7, .pointer (some ⟨b104, 0, none⟩)), (9, v419)] = L') ?_ (fun J423 => ?_)
              · rintro _ _ _ ⟨l421, v419, xs420, hm, hr422, rfl, rfl, rfl⟩
                unfold m_gridhallkeep4_AlarmBoards_b6 at hm
                refine C_seq ?_
                refine C_region ?_
                refine W_move rfl rfl rfl ?_
                refine W_move rfl rfl rfl ?_
                obtain ⟨r424, hc425, hm⟩ := bind_some hm
                refine W_call Proofs.Try.call12 rfl rfl rfl (fun w ht => by obtain ⟨H0_, hl0_, ht0_, hr0_, bk0_⟩ := ht.lendRow hr422 rfl; have h := m_alarm_Causes_c (hm := hc425) ((((((h0.mono hle115).mono hle299).mono hle382).mono hle392).mono hle402).mono hl0_) hr0_ ht0_; exact lend_back bk0_ (h)) ?_
                rintro _ _ _ ⟨rfl, ⟨_, rfl, v426, xs427, rfl, rfl, h428⟩⟩
                have h428 := h428 H401
                refine W_move rfl rfl rfl ?_
                refine W_extract rfl rfl rfl rfl ?_
                refine W_extract rfl rfl rfl rfl ?_
                refine W_assign rfl rfl rfl ?_
                refine W_assign rfl rfl rfl ?_
                refine W_end ?_
                refine E_then ?_
                refine C_seq ?_
                refine C_region ?_
                refine W_assign rfl rfl rfl ?_
                refine W_end ?_
                refine E_then ?_
                refine C_seq ?_
                refine C_seq ?_
                refine C_region ?_
                refine W_move rfl rfl rfl ?_
                refine W_perm (List.Perm.trans (List.Perm.cons _ (List.Perm.swap _ _ _)) (List.Perm.trans (List.Perm.swap _ _ _) (List.Perm.trans (List.Perm.cons _ (List.Perm.cons _ (List.Perm.swap _ _ _))) (List.Perm.cons _ (List.Perm.swap _ _ _))))) ?_
                obtain ⟨r429, hc430, hm⟩ := bind_some hm
                refine W_call Proofs.Try.call13 rfl rfl rfl (fun w ht => by have h := m_alarm_Board_Shown_c (hm := hc430) h397 h400 ht; exact h) ?_
                rintro _ _ _ ⟨rfl, v431, xs432, rfl, rfl, h433⟩
                have h433 := h433 H401
                refine W_lenO (List.mem_cons_self ..) rfl rfl Proofs.Try.runUnderlying36 rfl ?_
                refine W_move rfl rfl rfl ?_
                refine W_end ?_
                refine E_then ?_
                refine C_block ?_
                refine C_rowMax (List.mem_cons_self ..) (fun hmx527 => ?_)
                refine C_nilRow 9 (Rep.sz ByteArray) ?_
                refine C_keep (L' := [(7, .pointer (some ⟨b104, 0, none⟩)), (9, v419), (16, v426), (17, .int .i64 (r424.2)), (18, (.slice none 0 0)), (117, v431), (118, .int .i64 ((r429.length : Int))), (119, .int .i64 (((0 : Nat) : Int)))]) ⟨rfl, rfl, rfl, rfl, rfl, rfl, rfl, rfl, trivial⟩ (List.Perm.refl _) ?_
                refine C_loop (fun n H' M' L' => ∃ (k434 : Nat) (zs529' : List S_api_AlarmEntry), ∃ l519 : List ByteArray, ∃ v517 : Value, ∃ xs518 : List Value, (r429).drop k434 = zs529' ∧ zs529'.length = n ∧ forI (fun k y s523 n => m_gridhallkeep4_AlarmBoards_b5 r393 k y s523 n) (fun s523 => (m_slices_Sort_string_string s523).bind fun r569 => (m_gridhallkeep4_alarmFact).bind fun r574 => if r574 then (if decide (r424.2 = 0) then ((m_alarm_Board_All r393.2).bind fun r578 => if decide ((r578.length : Int) = (l421.length : Int)) then ((m_slices_Equal_string_string r569 r424.1).bind fun r584 => some r584) else (some false)) else (some false)) else (some false)) k434 zs529' l519 = some r ∧ Rw H' v517 xs518 l519 ∧ H401.le H' ∧ .row v517 9 (Rep.sz ByteArray) l519.length xs518 :: .row v431 39 (Rep.sz S_api_AlarmEntry) r429.length xs432 :: .obj b104 (.cells [v396, v398, .int .i64 (r393.2.last)].toArray 47 (0, 0)) :: .row v398 39 (Rep.sz S_api_AlarmEntry) r393.2.all_.length xs399 :: .row v419 9 (Rep.sz ByteArray) l421.length xs420 :: .row v426 9 (Rep.sz ByteArray) r424.1.length xs427 :: M = M' ∧ [(7, .pointer (some ⟨b104, 0, none⟩)), (9, v419), (16, v426), (17, .int .i64 (r424.2)), (18, v517), (117, v431), (118, .int .i64 ((r429.length : Int))), (119, .int .i64 ((k434 : Int)))] = L') _ ⟨0, _, ([] : List ByteArray), (.slice none 0 0), ([]), rfl, rfl, hm, Rw.nil, (Hp.le_refl _), rfl, rfl⟩ ?_
                rintro _ H521 _ _ ⟨k434, zs529', l519, v517, xs518, hd531, rfl, hm, hr520, hle522, rfl, rfl⟩
                refine C_seq ?_
                refine C_region ?_
                refine W_bin rfl rfl rfl rfl rfl ?_
                refine W_end (E_then ?_)
                refine C_seq ?_
                refine C_cond (b := decide ((k434 : Int) < (r429.length : Int))) rfl (fun hb533 => ?_) (fun hb533 => ?_)
                · obtain ⟨y528, zs529, rfl, hy530, hd532⟩ := rng_t hd531 hb533
                  have hm : m_gridhallkeep4_AlarmBoards_b5 r393 k434 y528 l519 (forI (fun k y s523 n => m_gridhallkeep4_AlarmBoards_b5 r393 k y s523 n) (fun s523 => (m_slices_Sort_string_string s523).bind fun r569 => (m_gridhallkeep4_alarmFact).bind fun r574 => if r574 then (if decide (r424.2 = 0) then ((m_alarm_Board_All r393.2).bind fun r578 => if decide ((r578.length : Int) = (l421.length : Int)) then ((m_slices_Equal_string_string r569 r424.1).bind fun r584 => some r584) else (some false)) else (some false)) else (some false)) (k434 + 1) zs529) = some r := hm
                  generalize hn525 : forI (fun k y s523 n => m_gridhallkeep4_AlarmBoards_b5 r393 k y s523 n) (fun s523 => (m_slices_Sort_string_string s523).bind fun r569 => (m_gridhallkeep4_alarmFact).bind fun r574 => if r574 then (if decide (r424.2 = 0) then ((m_alarm_Board_All r393.2).bind fun r578 => if decide ((r578.length : Int) = (l421.length : Int)) then ((m_slices_Equal_string_string r569 r424.1).bind fun r584 => some r584) else (some false)) else (some false)) else (some false)) (k434 + 1) zs529 = nx524 at hm
                  unfold m_gridhallkeep4_AlarmBoards_b5 at hm
                  refine C_skip (E_then ?_)
                  refine C_seq ?_
                  refine C_block ?_
                  refine C_seq ?_
                  refine C_region ?_
                  refine W_move rfl rfl rfl ?_
                  refine W_indexO (List.mem_cons_of_mem _ (List.mem_cons_self ..)) rfl rfl Proofs.Try.runUnderlying36 Proofs.Try.sizeOf39 rfl rfl (Int.natCast_nonneg _) (List.getElem?_eq_some_iff.1 hy530).1 ?_
                  obtain ⟨_, rfl, hg534⟩ := (h433).elem hy530
                  refine W_loadAgg (cs := [.string (y528.Name), .int .i64 (y528.Time), .bool (y528.Acked)]) rfl rfl Proofs.Try.isAgg39 Proofs.Try.sizeOf39 rfl (row_cells (List.mem_cons_of_mem _ (List.mem_cons_self ..)) hg534) rfl ?_
                  refine W_alloc (cs := [.string (⟨#[]⟩), .int .i64 (0), .bool (false)]) rfl rfl Proofs.Try.zeroValue39 rfl (fun b535 => ?_)
                  refine W_assign rfl rfl rfl ?_
                  refine W_store (cs := [.string (y528.Name), .int .i64 (y528.Time), .bool (y528.Acked)]) (out := [.string (y528.Name), .int .i64 (y528.Time), .bool (y528.Acked)]) rfl Proofs.Try.sizeOf39 rfl rfl rfl rfl rfl (all_cons rfl (all_cons rfl (all_cons rfl all_nil))) (over_all rfl) ?_
                  refine W_end ?_
                  refine E_then ?_
                  refine C_seq ?_
                  refine C_region ?_
                  refine W_move rfl rfl rfl ?_
                  refine W_field (o := 0) rfl rfl Proofs.Try.runUnderlying39 rfl Proofs.Try.sizeOf9 rfl rfl rfl ?_
                  refine W_load rfl rfl Proofs.Try.isAgg9 rfl (own_at (List.mem_cons_self ..) rfl) ?_
                  refine W_buildSlice (α := ByteArray) (css := [[.string (y528.Name)]]) (zs := [.string (⟨#[]⟩)]) (out := [.string (y528.Name)]) (ys := [y528.Name]) rfl rfl rfl ⟨rfl, trivial⟩ Proofs.Try.runUnderlying23 Proofs.Try.sizeOf9 rfl Proofs.Try.zeroValue9 (by kernel_rfl) rfl rfl rfl rfl ⟨[.string (y528.Name)], [], rfl, rfl, rfl⟩ rfl ?_
                  intro b536 v537 H538 hv539 hle540 h541
                  have hc542 : Value.cap' v537 = ([y528.Name]).length := by rw [hv539]; rfl
                  obtain ⟨hz543, hm⟩ := need_some hm
                  refine W_perm (List.Perm.swap _ _ _) ?_
                  refine W_appendO (α := ByteArray) (l := l519) (ys := [y528.Name]) rfl rfl Proofs.Try.underlying23 ⟨_, rfl, rfl, rfl, rfl⟩ rfl rfl rfl rfl rfl (hr520.mono hle540) h541 hz543 ?_
                  intro v544 xs545 hr546
                  refine W_assign rfl rfl rfl ?_
                  refine W_end ?_
                  refine E_then ?_
                  refine C_seq ?_
                  rcases (Bool.eq_false_or_eq_true (y528.Acked)).symm with hb547 | hb547
                  · have hm := ite_f' hb547 hm
                    cases hb548 : (decide (0 < (k434 : Int)))
                    · have hm := ite_f' hb548 hm
                      refine C_region_tok0 15 (phiT [(fun H rs v => [] = rs ∧ .pointer (some ⟨b535, 2, none⟩) = v), (fun H rs v => [] = rs ∧ .bool (false) = v), (fun H rs v => [] = rs ∧ .bool (false) = v), (fun H rs v => [] = rs ∧ .int .i64 ((k434 : Int)) = v), (fun H rs v => [] = rs ∧ .bool (false) = v), (fun H rs v => [] = rs ∧ .bool (false) = v), (fun H rs v => [] = rs ∧ undef = v), (fun H rs v => [] = rs ∧ undef = v), (fun H rs v => [] = rs ∧ undef = v), (fun H rs v => [] = rs ∧ undef = v), (fun H rs v => [] = rs ∧ undef = v), (fun H rs v => [] = rs ∧ undef = v), (fun H rs v => [] = rs ∧ undef = v), (fun H rs v => [] = rs ∧ undef = v), (fun H rs v => [] = rs ∧ undef = v)]) [[], [], [], [], [], [], [], [], [], [], [], [], [], [], []] [[], [], [], [], [], [], [], [], [], [], [], [], [], [], []] [] [0, 1, 2, 3, 4, 5, 6, 7, 8, 9, 10, 11, 12, 13, 14] Facts.mixed (by kernel_rfl) rfl rfl rfl (by kernel_rfl) (phiT_mono ⟨eq_monoT _ _, eq_monoT _ _, eq_monoT _ _, eq_monoT _ _, eq_monoT _ _, eq_monoT _ _, eq_monoT _ _, eq_monoT _ _, eq_monoT _ _, eq_monoT _ _, eq_monoT _ _, eq_monoT _ _, eq_monoT _ _, eq_monoT _ _, eq_monoT _ _, trivial⟩) ⟨?_, ?_, ?_, ?_, ?_, ?_, ?_, ?_, ?_, ?_, ?_, ?_, ?_, ?_, ?_, trivial⟩ ?_
                      · intro HX hX X Rest hR
                        intro hU
                        refine W_field (o := 2) rfl rfl Proofs.Try.runUnderlying39 rfl Proofs.Try.sizeOf4 rfl rfl rfl ?_
                        exact W_end (OneT_end [] (Hp.le_refl _) ⟨rfl, rfl⟩)
                      · intro HX hX X Rest hR
                        rintro _ _ ⟨rfl, rfl⟩
                        intro hU
                        refine W_load rfl rfl Proofs.Try.isAgg4 rfl (own_at (hR _ (List.mem_cons_of_mem _ (List.mem_cons_self ..))) rfl) ?_
                        exact W_end (OneT_end [] (Hp.le_refl _) ⟨rfl, (by first | rfl | (rw [hb547]; try rfl))⟩)
                      · intro HX hX X Rest hR
                        rintro _ _ ⟨rfl, rfl⟩
                        intro hU
                        refine W_move rfl rfl rfl ?_
                        exact W_end (OneT_end [] (Hp.le_refl _) ⟨rfl, rfl⟩)
                      · intro HX hX X Rest hR
                        rintro _ _ ⟨rfl, rfl⟩
                        intro hU
                        refine W_move rfl rfl rfl ?_
                        exact W_end (OneT_end [] (Hp.le_refl _) ⟨rfl, rfl⟩)
                      · intro HX hX X Rest hR
                        rintro _ _ ⟨rfl, rfl⟩
                        rintro _ _ ⟨rfl, rfl⟩
                        intro hU
                        refine W_bin rfl rfl rfl rfl rfl ?_
                        exact W_end (OneT_end [] (Hp.le_refl _) ⟨rfl, (by first | rfl | (rw [hb548]; try rfl))⟩)
                      · intro HX hX X Rest hR
                        rintro _ _ ⟨rfl, rfl⟩
                        rintro _ _ ⟨rfl, rfl⟩
                        rintro _ _ ⟨rfl, rfl⟩
                        intro hU
                        refine W_move rfl rfl rfl ?_
                        exact W_end (OneT_end [] (Hp.le_refl _) ⟨rfl, rfl⟩)
                      · intro HX hX X Rest hR
                        rintro _ _ ⟨rfl, rfl⟩
                        intro hU
                        refine W_no rfl rfl rfl ?_
                        exact W_end (OneT_end [] (Hp.le_refl _) ⟨rfl, rfl⟩)
                      · intro HX hX X Rest hR
                        rintro _ _ ⟨rfl, rfl⟩
                        rintro _ _ ⟨rfl, rfl⟩
                        intro hU
                        refine W_no rfl rfl rfl ?_
                        exact W_end (OneT_end [] (Hp.le_refl _) ⟨rfl, rfl⟩)
                      · intro HX hX X Rest hR
                        rintro _ _ ⟨rfl, rfl⟩
                        intro hU
                        refine W_no rfl rfl rfl ?_
                        exact W_end (OneT_end [] (Hp.le_refl _) ⟨rfl, rfl⟩)
                      · intro HX hX X Rest hR
                        rintro _ _ ⟨rfl, rfl⟩
                        rintro _ _ ⟨rfl, rfl⟩
                        rintro _ _ ⟨rfl, rfl⟩
                        intro hU
                        refine W_no rfl rfl rfl ?_
                        exact W_end (OneT_end [] (Hp.le_refl _) ⟨rfl, rfl⟩)
                      · intro HX hX X Rest hR
                        rintro _ _ ⟨rfl, rfl⟩
                        intro hU
                        refine W_no rfl rfl rfl ?_
                        exact W_end (OneT_end [] (Hp.le_refl _) ⟨rfl, rfl⟩)
                      · intro HX hX X Rest hR
                        rintro _ _ ⟨rfl, rfl⟩
                        rintro _ _ ⟨rfl, rfl⟩
                        intro hU
                        refine W_no rfl rfl rfl ?_
                        exact W_end (OneT_end [] (Hp.le_refl _) ⟨rfl, rfl⟩)
                      · intro HX hX X Rest hR
                        rintro _ _ ⟨rfl, rfl⟩
                        rintro _ _ ⟨rfl, rfl⟩
                        rintro _ _ ⟨rfl, rfl⟩
                        intro hU
                        refine W_no rfl rfl rfl ?_
                        exact W_end (OneT_end [] (Hp.le_refl _) ⟨rfl, rfl⟩)
                      · intro HX hX X Rest hR
                        rintro _ _ ⟨rfl, rfl⟩
                        rintro _ _ ⟨rfl, rfl⟩
                        intro hU
                        refine W_no rfl rfl rfl ?_
                        exact W_end (OneT_end [] (Hp.le_refl _) ⟨rfl, rfl⟩)
                      · intro HX hX X Rest hR
                        rintro _ _ ⟨rfl, rfl⟩
                        rintro _ _ ⟨rfl, rfl⟩
                        intro hU
                        refine W_no rfl rfl rfl ?_
                        exact W_end (OneT_end [] (Hp.le_refl _) ⟨rfl, rfl⟩)
                      intro H549 hle550
                      rintro _ _ ⟨rfl, rfl⟩
                      rintro _ _ ⟨rfl, rfl⟩
                      rintro _ _ ⟨rfl, rfl⟩
                      rintro _ _ ⟨rfl, rfl⟩
                      rintro _ _ ⟨rfl, rfl⟩
                      rintro _ _ ⟨rfl, rfl⟩
                      rintro _ _ ⟨rfl, rfl⟩
                      rintro _ _ ⟨rfl, rfl⟩
                      rintro _ _ ⟨rfl, rfl⟩
                      rintro _ _ ⟨rfl, rfl⟩
                      rintro _ _ ⟨rfl, rfl⟩
                      rintro _ _ ⟨rfl, rfl⟩
                      rintro _ _ ⟨rfl, rfl⟩
                      rintro _ _ ⟨rfl, rfl⟩
                      rintro _ _ ⟨rfl, rfl⟩
                      refine W_no rfl rfl rfl ?_
                      refine W_pick rfl rfl rfl rfl ?_
                      refine W_pick rfl rfl rfl rfl ?_
                      refine W_end ?_
                      refine E_then ?_
                      refine C_cond (b := false) rfl (fun hb => Bool.noConfusion hb) (fun _ => ?_)
                      refine C_skip ?_
                      refine E_normal_block ?_
                      refine E_then ?_
                      refine C_region ?_
                      refine W_bin rfl rfl rfl rfl rfl ?_
                      refine W_move rfl rfl rfl ?_
                      refine W_end ?_
                      refine E_drop (List.Sublist.cons_cons _ (List.Sublist.cons _ (List.Sublist.refl _))) ?_
                      exact E_keepJ (E_back (Nat.lt_succ_self _) ⟨k434 + 1, zs529, (l519 ++ ([y528.Name])), v544, xs545, hd532, rfl, (by rw [hn525]; exact hm), (hr546.mono hle550), (Hp.le_trans (Hp.le_trans hle522 hle540) hle550), rfl, rfl⟩) (List.Perm.refl _) ⟨rfl, rfl, rfl, rfl, rfl, rfl, rfl, (congrArg (fun z => some (Value.int .i64 z)) (i64_succ hy530 hmx527)), trivial⟩
                    · have hm := ite_t' hb548 hm
                      obtain ⟨r551, hc552, hm⟩ := bind_some hm
                      obtain ⟨y556, h557, he558, hm⟩ := idx_some hm
                      refine C_perm (List.Perm.trans (List.Perm.cons _ (List.Perm.cons _ (List.Perm.swap _ _ _))) (List.Perm.trans (List.Perm.cons _ (List.Perm.swap _ _ _)) (List.Perm.trans (List.Perm.swap _ _ _) (List.Perm.trans (List.Perm.cons _ (List.Perm.cons _ (List.Perm.cons _ (List.Perm.swap _ _ _)))) (List.Perm.trans (List.Perm.cons _ (List.Perm.cons _ (List.Perm.swap _ _ _))) (List.Perm.cons _ (List.Perm.swap _ _ _))))))) ?_
                      refine C_as (M' := [[.obj b104 (.cells [v396, v398, .int .i64 (r393.2.last)].toArray 47 (0, 0))], [.row v398 39 (Rep.sz S_api_AlarmEntry) r393.2.all_.length xs399]].flatten ++ (.row v544 9 (Rep.sz ByteArray) (l519 ++ ([y528.Name])).length xs545 :: .obj b535 (.cells [.string (y528.Name), .int .i64 (y528.Time), .bool (y528.Acked)].toArray 39 (0, 0)) :: .row v431 39 (Rep.sz S_api_AlarmEntry) r429.length xs432 :: .row v419 9 (Rep.sz ByteArray) l421.length xs420 :: .row v426 9 (Rep.sz ByteArray) r424.1.length xs427 :: M)) rfl ?_
                      refine C_region_tok0 15 (phiT [(fun H rs v => [] = rs ∧ .pointer (some ⟨b535, 2, none⟩) = v), (fun H rs v => [] = rs ∧ .bool (false) = v), (fun H rs v => [] = rs ∧ .bool (false) = v), (fun H rs v => [] = rs ∧ .int .i64 ((k434 : Int)) = v), (fun H rs v => [] = rs ∧ .bool (true) = v), (fun H rs v => [] = rs ∧ .bool (true) = v), (fun H rs v => [] = rs ∧ .pointer (some ⟨b535, 1, none⟩) = v), (fun H rs v => [] = rs ∧ .int .i64 (y528.Time) = v), (fun H rs v => [] = rs ∧ .pointer (some ⟨b104, 0, none⟩) = v), (fun H rs v => ∃ v560 : Value, ∃ xs561 : List Value, [.row v560 39 (Rep.sz S_api_AlarmEntry) r551.length xs561, .obj b104 (.cells [v396, v398, .int .i64 (r393.2.last)].toArray 47 (0, 0)), .row v398 39 (Rep.sz S_api_AlarmEntry) r393.2.all_.length xs399] = rs ∧ v560 = v ∧ Rw H v560 xs561 r551), (fun H rs v => [] = rs ∧ .int .i64 ((k434 : Int)) = v), (fun H rs v => [] = rs ∧ .int .i64 (IntKind.i64.wrap ((k434 : Int) - 1)) = v), (fun H rs v => ∃ v560 : Value, ∃ xs561 : List Value, [.row v560 39 (Rep.sz S_api_AlarmEntry) r551.length xs561, .obj b104 (.cells [v396, v398, .int .i64 (r393.2.last)].toArray 47 (0, 0)), .row v398 39 (Rep.sz S_api_AlarmEntry) r393.2.all_.length xs399] = rs ∧ .pointer (some ((Value.base (v560)).add ((IntKind.i64.wrap ((k434 : Int) - 1) : Int).toNat * Rep.sz S_api_AlarmEntry))) = v ∧ Rw H v560 xs561 r551 ∧ ∀ j u, [.string (y556.Name), .int .i64 (y556.Time), .bool (y556.Acked)][j]? = some u → xs561[(IntKind.i64.wrap ((k434 : Int) - 1) : Int).toNat * Rep.sz S_api_AlarmEntry + j]? = some u), (fun H rs v => ∃ v560 : Value, ∃ xs561 : List Value, [.row v560 39 (Rep.sz S_api_AlarmEntry) r551.length xs561, .obj b104 (.cells [v396, v398, .int .i64 (r393.2.last)].toArray 47 (0, 0)), .row v398 39 (Rep.sz S_api_AlarmEntry) r393.2.all_.length xs399] = rs ∧ .pointer (some (((Value.base (v560)).add ((IntKind.i64.wrap ((k434 : Int) - 1) : Int).toNat * Rep.sz S_api_AlarmEntry)).add 1)) = v ∧ Rw H v560 xs561 r551 ∧ ∀ j u, [.string (y556.Name), .int .i64 (y556.Time), .bool (y556.Acked)][j]? = some u → xs561[(IntKind.i64.wrap ((k434 : Int) - 1) : Int).toNat * Rep.sz S_api_AlarmEntry + j]? = some u), (fun H rs v => [] = rs ∧ .int .i64 (y556.Time) = v)]) [[], [], [], [], [], [], [], [], [], [15, 16], [], [], [9], [12], []] [[], [], [], [], [], [], [], [], [], [], [], [], [], [], [13]] [[.obj b104 (.cells [v396, v398, .int .i64 (r393.2.last)].toArray 47 (0, 0))], [.row v398 39 (Rep.sz S_api_AlarmEntry) r393.2.all_.length xs399]] [0, 1, 2, 3, 4, 5, 6, 7, 8, 10, 11, 13, 14] Facts.mixed (by kernel_rfl) rfl rfl rfl (by kernel_rfl) (phiT_mono ⟨eq_monoT _ _, eq_monoT _ _, eq_monoT _ _, eq_monoT _ _, eq_monoT _ _, eq_monoT _ _, eq_monoT _ _, eq_monoT _ _, eq_monoT _ _, (by rintro H1 H2 rs v hle ⟨v560, xs561, rfl, rfl, h562⟩; exact ⟨v560, xs561, rfl, rfl, (h562.mono hle)⟩), eq_monoT _ _, eq_monoT _ _, (by rintro H1 H2 rs v hle ⟨v560, xs561, rfl, rfl, h562, hg563⟩; exact ⟨v560, xs561, rfl, rfl, (h562.mono hle), (hg563)⟩), (by rintro H1 H2 rs v hle ⟨v560, xs561, rfl, rfl, h562, hg563⟩; exact ⟨v560, xs561, rfl, rfl, (h562.mono hle), (hg563)⟩), eq_monoT _ _, trivial⟩) ⟨?_, ?_, ?_, ?_, ?_, ?_, ?_, ?_, ?_, ?_, ?_, ?_, ?_, ?_, ?_, trivial⟩ ?_
                      · intro HX hX X Rest hR
                        intro hU
                        refine W_field (o := 2) rfl rfl Proofs.Try.runUnderlying39 rfl Proofs.Try.sizeOf4 rfl rfl rfl ?_
                        exact W_end (OneT_end [] (Hp.le_refl _) ⟨rfl, rfl⟩)
                      · intro HX hX X Rest hR
                        rintro _ _ ⟨rfl, rfl⟩
                        intro hU
                        refine W_load rfl rfl Proofs.Try.isAgg4 rfl (own_at (hR _ (List.mem_cons_of_mem _ (List.mem_cons_self ..))) rfl) ?_
                        exact W_end (OneT_end [] (Hp.le_refl _) ⟨rfl, (by first | rfl | (rw [hb547]; try rfl))⟩)
                      · intro HX hX X Rest hR
                        rintro _ _ ⟨rfl, rfl⟩
                        intro hU
                        refine W_move rfl rfl rfl ?_
                        exact W_end (OneT_end [] (Hp.le_refl _) ⟨rfl, rfl⟩)
                      · intro HX hX X Rest hR
                        rintro _ _ ⟨rfl, rfl⟩
                        intro hU
                        refine W_move rfl rfl rfl ?_
                        exact W_end (OneT_end [] (Hp.le_refl _) ⟨rfl, rfl⟩)
                      · intro HX hX X Rest hR
                        rintro _ _ ⟨rfl, rfl⟩
                        rintro _ _ ⟨rfl, rfl⟩
                        intro hU
                        refine W_bin rfl rfl rfl rfl rfl ?_
                        exact W_end (OneT_end [] (Hp.le_refl _) ⟨rfl, (by first | rfl | (rw [hb548]; try rfl))⟩)
                      · intro HX hX X Rest hR
                        rintro _ _ ⟨rfl, rfl⟩
                        rintro _ _ ⟨rfl, rfl⟩
                        rintro _ _ ⟨rfl, rfl⟩
                        intro hU
                        refine W_move rfl rfl rfl ?_
                        exact W_end (OneT_end [] (Hp.le_refl _) ⟨rfl, rfl⟩)
                      · intro HX hX X Rest hR
                        rintro _ _ ⟨rfl, rfl⟩
                        intro hU
                        refine W_field (o := 1) rfl rfl Proofs.Try.runUnderlying39 rfl Proofs.Try.sizeOf3 rfl rfl rfl ?_
                        exact W_end (OneT_end [] (Hp.le_refl _) ⟨rfl, rfl⟩)
                      · intro HX hX X Rest hR
                        rintro _ _ ⟨rfl, rfl⟩
                        rintro _ _ ⟨rfl, rfl⟩
                        intro hU
                        refine W_load rfl rfl Proofs.Try.isAgg3 rfl (own_at (hR _ (List.mem_cons_of_mem _ (List.mem_cons_self ..))) rfl) ?_
                        exact W_end (OneT_end [] (Hp.le_refl _) ⟨rfl, rfl⟩)
                      · intro HX hX X Rest hR
                        rintro _ _ ⟨rfl, rfl⟩
                        intro hU
                        refine W_move rfl rfl rfl ?_
                        exact W_end (OneT_end [] (Hp.le_refl _) ⟨rfl, rfl⟩)
                      · intro HX hX X Rest hR
                        rintro _ _ ⟨rfl, rfl⟩
                        rintro _ _ ⟨rfl, rfl⟩
                        rintro _ _ ⟨rfl, rfl⟩
                        intro hU
                        refine W_as (M' := .obj b104 (.cells [v396, v398, .int .i64 (r393.2.last)].toArray 47 (0, 0)) :: .row v398 39 (Rep.sz S_api_AlarmEntry) r393.2.all_.length xs399 :: Rest) rfl ?_
                        refine W_call Proofs.Try.call13 rfl rfl rfl (fun w ht => by have h := m_alarm_Board_Shown_c (hm := hc552) (((h397.mono hle522).mono hle540).mono hX) (((h400.mono hle522).mono hle540).mono hX) ht; exact h) ?_
                        rintro _ _ _ ⟨rfl, v560, xs561, rfl, rfl, h562⟩
                        have h562 := h562 HX
                        exact W_end (OneT_end [.row v560 39 (Rep.sz S_api_AlarmEntry) r551.length xs561, .obj b104 (.cells [v396, v398, .int .i64 (r393.2.last)].toArray 47 (0, 0)), .row v398 39 (Rep.sz S_api_AlarmEntry) r393.2.all_.length xs399] (Hp.le_refl _) ⟨v560, xs561, rfl, rfl, (h562)⟩)
                      · intro HX hX X Rest hR
                        rintro _ _ ⟨rfl, rfl⟩
                        intro hU
                        refine W_move rfl rfl rfl ?_
                        exact W_end (OneT_end [] (Hp.le_refl _) ⟨rfl, rfl⟩)
                      · intro HX hX X Rest hR
                        rintro _ _ ⟨rfl, rfl⟩
                        rintro _ _ ⟨rfl, rfl⟩
                        intro hU
                        refine W_bin rfl rfl rfl rfl rfl ?_
                        exact W_end (OneT_end [] (Hp.le_refl _) ⟨rfl, rfl⟩)
                      · intro HX hX X Rest hR
                        rintro _ _ ⟨v560, xs561, rfl, rfl, h562⟩
                        rintro _ _ ⟨rfl, rfl⟩
                        rintro _ _ ⟨rfl, rfl⟩
                        intro hU
                        refine W_as (M' := .row v560 39 (Rep.sz S_api_AlarmEntry) r551.length xs561 :: .obj b104 (.cells [v396, v398, .int .i64 (r393.2.last)].toArray 47 (0, 0)) :: .row v398 39 (Rep.sz S_api_AlarmEntry) r393.2.all_.length xs399 :: Rest) rfl ?_
                        refine W_indexO (List.mem_cons_self ..) rfl rfl Proofs.Try.runUnderlying36 Proofs.Try.sizeOf39 rfl rfl h557 (List.getElem?_eq_some_iff.1 he558).1 ?_
                        obtain ⟨_, rfl, hg563⟩ := (h562).elem he558
                        exact W_end (OneT_end [.row v560 39 (Rep.sz S_api_AlarmEntry) r551.length xs561, .obj b104 (.cells [v396, v398, .int .i64 (r393.2.last)].toArray 47 (0, 0)), .row v398 39 (Rep.sz S_api_AlarmEntry) r393.2.all_.length xs399] (Hp.le_refl _) ⟨v560, xs561, rfl, rfl, (h562), (hg563)⟩)
                      · intro HX hX X Rest hR
                        rintro _ _ ⟨v560, xs561, rfl, rfl, h562, hg563⟩
                        rintro _ _ ⟨rfl, rfl⟩
                        intro hU
                        refine W_as (M' := .row v560 39 (Rep.sz S_api_AlarmEntry) r551.length xs561 :: .obj b104 (.cells [v396, v398, .int .i64 (r393.2.last)].toArray 47 (0, 0)) :: .row v398 39 (Rep.sz S_api_AlarmEntry) r393.2.all_.length xs399 :: Rest) rfl ?_
                        refine W_field (o := 1) rfl rfl Proofs.Try.runUnderlying39 rfl Proofs.Try.sizeOf3 rfl rfl rfl ?_
                        exact W_end (OneT_end [.row v560 39 (Rep.sz S_api_AlarmEntry) r551.length xs561, .obj b104 (.cells [v396, v398, .int .i64 (r393.2.last)].toArray 47 (0, 0)), .row v398 39 (Rep.sz S_api_AlarmEntry) r393.2.all_.length xs399] (Hp.le_refl _) ⟨v560, xs561, rfl, rfl, (h562), (hg563)⟩)
                      · intro HX hX X Rest hR
                        rintro _ _ ⟨v560, xs561, rfl, rfl, h562, hg563⟩
                        rintro _ _ ⟨rfl, rfl⟩
                        intro hU
                        have hU2 : ∀ s ∈ [.row v560 39 (Rep.sz S_api_AlarmEntry) r551.length xs561, .obj b104 (.cells [v396, v398, .int .i64 (r393.2.last)].toArray 47 (0, 0)), .row v398 39 (Rep.sz S_api_AlarmEntry) r393.2.all_.length xs399], s ∈ Rest := hU
                        refine W_load rfl rfl Proofs.Try.isAgg3 rfl (row_one (o := 1) (hU2 _ (List.mem_cons_self ..)) hg563 rfl) ?_
                        exact W_end (OneT_end [] (Hp.le_refl _) ⟨rfl, rfl⟩)
                      intro H564 hle565
                      rintro _ _ ⟨rfl, rfl⟩
                      rintro _ _ ⟨rfl, rfl⟩
                      rintro _ _ ⟨rfl, rfl⟩
                      rintro _ _ ⟨rfl, rfl⟩
                      rintro _ _ ⟨rfl, rfl⟩
                      rintro _ _ ⟨rfl, rfl⟩
                      rintro _ _ ⟨rfl, rfl⟩
                      rintro _ _ ⟨rfl, rfl⟩
                      rintro _ _ ⟨rfl, rfl⟩
                      rintro _ _ ⟨v560, xs561, rfl, rfl, h562⟩
                      rintro _ _ ⟨rfl, rfl⟩
                      rintro _ _ ⟨rfl, rfl⟩
                      rintro _ _ ⟨v560, xs561, rfl, rfl, h562, hg563⟩
                      rintro _ _ ⟨v560, xs561, rfl, rfl, h562, hg563⟩
                      rintro _ _ ⟨rfl, rfl⟩
                      refine W_as (M' := .row v560 39 (Rep.sz S_api_AlarmEntry) r551.length xs561 :: .obj b104 (.cells [v396, v398, .int .i64 (r393.2.last)].toArray 47 (0, 0)) :: .row v398 39 (Rep.sz S_api_AlarmEntry) r393.2.all_.length xs399 :: .row v544 9 (Rep.sz ByteArray) (l519 ++ ([y528.Name])).length xs545 :: .obj b535 (.cells [.string (y528.Name), .int .i64 (y528.Time), .bool (y528.Acked)].toArray 39 (0, 0)) :: .row v431 39 (Rep.sz S_api_AlarmEntry) r429.length xs432 :: .row v419 9 (Rep.sz ByteArray) l421.length xs420 :: .row v426 9 (Rep.sz ByteArray) r424.1.length xs427 :: M) rfl ?_
                      refine W_bin rfl rfl rfl rfl rfl ?_
                      refine W_pick rfl rfl rfl rfl ?_
                      refine W_pick rfl rfl rfl rfl ?_
                      refine W_end ?_
                      refine E_then ?_
                      refine C_cond (b := decide (y528.Time < y556.Time)) rfl (fun hb566 => ?_) (fun hb566 => ?_)
                      · have hm := ite_t' hb566 hm
                        refine C_seq ?_
                        refine C_region ?_
                        refine W_assign rfl rfl rfl ?_
                        refine W_end ?_
                        refine E_then ?_
                        refine C_ret ?_
                        refine E_ret_block ?_
                        refine E_ret_then ?_
                        refine E_ret_then ?_
                        refine E_ret_block ?_
                        refine E_ret_then ?_
                        obtain rfl := Option.some.inj hm
                        refine E_drop (List.Sublist.cons _ (List.Sublist.cons _ (List.Sublist.cons _ (List.Sublist.cons _ (List.Sublist.cons _ (List.Sublist.cons _ (List.Sublist.cons _ (List.Sublist.cons _ (List.Sublist.refl _))))))))) ?_
                        refine E_weak (Hp.le_trans (Hp.le_trans (Hp.le_trans (Hp.le_trans (Hp.le_trans (Hp.le_trans (Hp.le_trans hle115 hle299) hle382) hle392) hle402) hle522) hle540) hle565) ?_
                        exact end1 rfl rfl ⟨rfl, rfl, rfl⟩
                      · have hm := ite_f' hb566 hm
                        refine C_skip ?_
                        refine E_normal_block ?_
                        refine E_then ?_
                        refine C_region ?_
                        refine W_bin rfl rfl rfl rfl rfl ?_
                        refine W_move rfl rfl rfl ?_
                        refine W_end ?_
                        refine E_drop (List.Sublist.cons _ (List.Sublist.cons_cons _ (List.Sublist.cons_cons _ (List.Sublist.cons_cons _ (List.Sublist.cons _ (List.Sublist.refl _)))))) ?_
                        exact E_keepJ (E_back (Nat.lt_succ_self _) ⟨k434 + 1, zs529, (l519 ++ ([y528.Name])), v544, xs545, hd532, rfl, (by rw [hn525]; exact hm), (hr546.mono hle565), (Hp.le_trans (Hp.le_trans hle522 hle540) hle565), rfl, rfl⟩) (List.Perm.trans (List.Perm.cons _ (List.Perm.swap _ _ _)) (List.Perm.trans (List.Perm.swap _ _ _) (List.Perm.trans (List.Perm.cons _ (List.Perm.cons _ (List.Perm.swap _ _ _))) (List.Perm.cons _ (List.Perm.swap _ _ _))))) ⟨rfl, rfl, rfl, rfl, rfl, rfl, rfl, (congrArg (fun z => some (Value.int .i64 z)) (i64_succ hy530 hmx527)), trivial⟩
                  · have hm := ite_t' hb547 hm
                    refine C_region_tok0 15 (phiT [(fun H rs v => [] = rs ∧ .pointer (some ⟨b535, 2, none⟩) = v), (fun H rs v => [] = rs ∧ .bool (true) = v), (fun H rs v => [] = rs ∧ .bool (true) = v), (fun H rs v => [] = rs ∧ undef = v), (fun H rs v => [] = rs ∧ undef = v), (fun H rs v => [] = rs ∧ undef = v), (fun H rs v => [] = rs ∧ undef = v), (fun H rs v => [] = rs ∧ undef = v), (fun H rs v => [] = rs ∧ undef = v), (fun H rs v => [] = rs ∧ undef = v), (fun H rs v => [] = rs ∧ undef = v), (fun H rs v => [] = rs ∧ undef = v), (fun H rs v => [] = rs ∧ undef = v), (fun H rs v => [] = rs ∧ undef = v), (fun H rs v => [] = rs ∧ undef = v)]) [[], [], [], [], [], [], [], [], [], [], [], [], [], [], []] [[], [], [], [], [], [], [], [], [], [], [], [], [], [], []] [] [0, 1, 2, 3, 4, 5, 6, 7, 8, 9, 10, 11, 12, 13, 14] Facts.mixed (by kernel_rfl) rfl rfl rfl (by kernel_rfl) (phiT_mono ⟨eq_monoT _ _, eq_monoT _ _, eq_monoT _ _, eq_monoT _ _, eq_monoT _ _, eq_monoT _ _, eq_monoT _ _, eq_monoT _ _, eq_monoT _ _, eq_monoT _ _, eq_monoT _ _, eq_monoT _ _, eq_monoT _ _, eq_monoT _ _, eq_monoT _ _, trivial⟩) ⟨?_, ?_, ?_, ?_, ?_, ?_, ?_, ?_, ?_, ?_, ?_, ?_, ?_, ?_, ?_, trivial⟩ ?_
                    · intro HX hX X Rest hR
                      intro hU
                      refine W_field (o := 2) rfl rfl Proofs.Try.runUnderlying39 rfl Proofs.Try.sizeOf4 rfl rfl rfl ?_
                      exact W_end (OneT_end [] (Hp.le_refl _) ⟨rfl, rfl⟩)
                    · intro HX hX X Rest hR
                      rintro _ _ ⟨rfl, rfl⟩
                      intro hU
                      refine W_load rfl rfl Proofs.Try.isAgg4 rfl (own_at (hR _ (List.mem_cons_of_mem _ (List.mem_cons_self ..))) rfl) ?_
                      exact W_end (OneT_end [] (Hp.le_refl _) ⟨rfl, (by first | rfl | (rw [hb547]; try rfl))⟩)
                    · intro HX hX X Rest hR
                      rintro _ _ ⟨rfl, rfl⟩
                      intro hU
                      refine W_move rfl rfl rfl ?_
                      exact W_end (OneT_end [] (Hp.le_refl _) ⟨rfl, rfl⟩)
                    · intro HX hX X Rest hR
                      rintro _ _ ⟨rfl, rfl⟩
                      intro hU
                      refine W_no rfl rfl rfl ?_
                      exact W_end (OneT_end [] (Hp.le_refl _) ⟨rfl, rfl⟩)
                    · intro HX hX X Rest hR
                      rintro _ _ ⟨rfl, rfl⟩
                      rintro _ _ ⟨rfl, rfl⟩
                      intro hU
                      refine W_no rfl rfl rfl ?_
                      exact W_end (OneT_end [] (Hp.le_refl _) ⟨rfl, rfl⟩)
                    · intro HX hX X Rest hR
                      rintro _ _ ⟨rfl, rfl⟩
                      rintro _ _ ⟨rfl, rfl⟩
                      rintro _ _ ⟨rfl, rfl⟩
                      intro hU
                      refine W_no rfl rfl rfl ?_
                      exact W_end (OneT_end [] (Hp.le_refl _) ⟨rfl, rfl⟩)
                    · intro HX hX X Rest hR
                      rintro _ _ ⟨rfl, rfl⟩
                      intro hU
                      refine W_no rfl rfl rfl ?_
                      exact W_end (OneT_end [] (Hp.le_refl _) ⟨rfl, rfl⟩)
                    · intro HX hX X Rest hR
                      rintro _ _ ⟨rfl, rfl⟩
                      rintro _ _ ⟨rfl, rfl⟩
                      intro hU
                      refine W_no rfl rfl rfl ?_
                      exact W_end (OneT_end [] (Hp.le_refl _) ⟨rfl, rfl⟩)
                    · intro HX hX X Rest hR
                      rintro _ _ ⟨rfl, rfl⟩
                      intro hU
                      refine W_no rfl rfl rfl ?_
                      exact W_end (OneT_end [] (Hp.le_refl _) ⟨rfl, rfl⟩)
                    · intro HX hX X Rest hR
                      rintro _ _ ⟨rfl, rfl⟩
                      rintro _ _ ⟨rfl, rfl⟩
                      rintro _ _ ⟨rfl, rfl⟩
                      intro hU
                      refine W_no rfl rfl rfl ?_
                      exact W_end (OneT_end [] (Hp.le_refl _) ⟨rfl, rfl⟩)
                    · intro HX hX X Rest hR
                      rintro _ _ ⟨rfl, rfl⟩
                      intro hU
                      refine W_no rfl rfl rfl ?_
                      exact W_end (OneT_end [] (Hp.le_refl _) ⟨rfl, rfl⟩)
                    · intro HX hX X Rest hR
                      rintro _ _ ⟨rfl, rfl⟩
                      rintro _ _ ⟨rfl, rfl⟩
                      intro hU
                      refine W_no rfl rfl rfl ?_
                      exact W_end (OneT_end [] (Hp.le_refl _) ⟨rfl, rfl⟩)
                    · intro HX hX X Rest hR
                      rintro _ _ ⟨rfl, rfl⟩
                      rintro _ _ ⟨rfl, rfl⟩
                      rintro _ _ ⟨rfl, rfl⟩
                      intro hU
                      refine W_no rfl rfl rfl ?_
                      exact W_end (OneT_end [] (Hp.le_refl _) ⟨rfl, rfl⟩)
                    · intro HX hX X Rest hR
                      rintro _ _ ⟨rfl, rfl⟩
                      rintro _ _ ⟨rfl, rfl⟩
                      intro hU
                      refine W_no rfl rfl rfl ?_
                      exact W_end (OneT_end [] (Hp.le_refl _) ⟨rfl, rfl⟩)
                    · intro HX hX X Rest hR
                      rintro _ _ ⟨rfl, rfl⟩
                      rintro _ _ ⟨rfl, rfl⟩
                      intro hU
                      refine W_no rfl rfl rfl ?_
                      exact W_end (OneT_end [] (Hp.le_refl _) ⟨rfl, rfl⟩)
                    intro H567 hle568
                    rintro _ _ ⟨rfl, rfl⟩
                    rintro _ _ ⟨rfl, rfl⟩
                    rintro _ _ ⟨rfl, rfl⟩
                    rintro _ _ ⟨rfl, rfl⟩
                    rintro _ _ ⟨rfl, rfl⟩
                    rintro _ _ ⟨rfl, rfl⟩
                    rintro _ _ ⟨rfl, rfl⟩
                    rintro _ _ ⟨rfl, rfl⟩
                    rintro _ _ ⟨rfl, rfl⟩
                    rintro _ _ ⟨rfl, rfl⟩
                    rintro _ _ ⟨rfl, rfl⟩
                    rintro _ _ ⟨rfl, rfl⟩
                    rintro _ _ ⟨rfl, rfl⟩
                    rintro _ _ ⟨rfl, rfl⟩
                    rintro _ _ ⟨rfl, rfl⟩
                    refine W_no rfl rfl rfl ?_
                    refine W_no rfl rfl rfl ?_
                    refine W_pick rfl rfl rfl rfl ?_
                    refine W_end ?_
                    refine E_then ?_
                    refine C_cond (b := true) rfl (fun _ => ?_) (fun hb => Bool.noConfusion hb)
                    refine C_seq ?_
                    refine C_region ?_
                    refine W_assign rfl rfl rfl ?_
                    refine W_end ?_
                    refine E_then ?_
                    refine C_ret ?_
                    refine E_ret_block ?_
                    refine E_ret_then ?_
                    refine E_ret_then ?_
                    refine E_ret_block ?_
                    refine E_ret_then ?_
                    obtain rfl := Option.some.inj hm
                    refine E_drop (List.Sublist.cons _ (List.Sublist.cons _ (List.Sublist.cons _ (List.Sublist.cons _ (List.Sublist.cons _ (List.Sublist.cons _ (List.Sublist.cons _ (List.Sublist.refl _)))))))) ?_
                    refine E_weak (Hp.le_trans (Hp.le_trans (Hp.le_trans (Hp.le_trans (Hp.le_trans (Hp.le_trans (Hp.le_trans hle115 hle299) hle382) hle392) hle402) hle522) hle540) hle568) ?_
                    exact end1 rfl rfl ⟨rfl, rfl, rfl⟩
                · obtain rfl := rng_f hd531 hb533
                  have hm : ((m_slices_Sort_string_string l519).bind fun r569 => (m_gridhallkeep4_alarmFact).bind fun r574 => if r574 then (if decide (r424.2 = 0) then ((m_alarm_Board_All r393.2).bind fun r578 => if decide ((r578.length : Int) = (l421.length : Int)) then ((m_slices_Equal_string_string r569 r424.1).bind fun r584 => some r584) else (some false)) else (some false)) else (some false)) = some r := hm
                  refine C_exit (E_exit_then ?_)
                  refine E_exit_then ?_
                  refine E_exit_hit ?_
                  refine E_then ?_
                  refine C_seq ?_
                  refine C_region ?_
                  refine W_move rfl rfl rfl ?_
                  obtain ⟨r569, hc570, hm⟩ := bind_some hm
                  refine W_call Proofs.Try.call14 rfl rfl rfl (fun w ht => by have h := m_slices_Sort_string_string_c (hm := hc570) hr520 ht; exact h) ?_
                  rintro _ _ _ ⟨rfl, xs572, rfl, rfl, h573⟩
                  have h573 := h573 H521
                  refine W_end ?_
                  refine E_then ?_
                  refine C_seq ?_
                  refine C_region ?_
                  obtain ⟨r574, hc575, hm⟩ := bind_some hm
                  refine W_call Proofs.Try.call5 rfl rfl rfl (fun w ht => by have h := m_gridhallkeep4_alarmFact_c (hm := hc575)  ht; exact h) ?_
                  rintro _ _ _ ⟨rfl, rfl, rfl⟩
                  refine W_move rfl rfl rfl ?_
                  cases hb576 : (r574)
                  · have hm := ite_f' hb576 hm
                    refine W_no rfl rfl rfl ?_
                    refine W_no rfl rfl rfl ?_
                    refine W_pick rfl rfl rfl rfl ?_
                    refine W_move rfl rfl rfl ?_
                    refine W_no rfl rfl rfl ?_
                    refine W_no rfl rfl rfl ?_
                    refine W_no rfl rfl rfl ?_
                    refine W_no rfl rfl rfl ?_
                    refine W_no rfl rfl rfl ?_
                    refine W_no rfl rfl rfl ?_
                    refine W_pick rfl rfl rfl rfl ?_
                    refine W_move rfl rfl rfl ?_
                    refine W_no rfl rfl rfl ?_
                    refine W_no rfl rfl rfl ?_
                    refine W_no rfl rfl rfl ?_
                    refine W_pick rfl rfl rfl rfl ?_
                    refine W_assign rfl rfl rfl ?_
                    refine W_end ?_
                    refine E_then ?_
                    refine C_ret ?_
                    obtain rfl := Option.some.inj hm
                    refine E_drop (List.Sublist.cons _ (List.Sublist.cons _ (List.Sublist.cons _ (List.Sublist.cons _ (List.Sublist.cons _ (List.Sublist.cons _ (List.Sublist.refl _))))))) ?_
                    refine E_weak (Hp.le_trans (Hp.le_trans (Hp.le_trans (Hp.le_trans (Hp.le_trans hle115 hle299) hle382) hle392) hle402) hle522) ?_
                    exact end1 rfl rfl ⟨rfl, rfl, rfl⟩
                  · have hm := ite_t' hb576 hm
                    refine W_move rfl rfl rfl ?_
                    refine W_bin rfl rfl rfl rfl rfl ?_
                    refine W_pick rfl rfl rfl rfl ?_
                    refine W_move rfl rfl rfl ?_
                    cases hb577 : (decide (r424.2 = 0))
                    · have hm := ite_f' hb577 hm
                      refine W_no rfl rfl rfl ?_
                      refine W_no rfl rfl rfl ?_
                      refine W_no rfl rfl rfl ?_
                      refine W_no rfl rfl rfl ?_
                      refine W_no rfl rfl rfl ?_
                      refine W_no rfl rfl rfl ?_
                      refine W_pick rfl rfl rfl rfl ?_
                      refine W_move rfl rfl rfl ?_
                      refine W_no rfl rfl rfl ?_
                      refine W_no rfl rfl rfl ?_
                      refine W_no rfl rfl rfl ?_
                      refine W_pick rfl rfl rfl rfl ?_
                      refine W_assign rfl rfl rfl ?_
                      refine W_end ?_
                      refine E_then ?_
                      refine C_ret ?_
                      obtain rfl := Option.some.inj hm
                      refine E_drop (List.Sublist.cons _ (List.Sublist.cons _ (List.Sublist.cons _ (List.Sublist.cons _ (List.Sublist.cons _ (List.Sublist.cons _ (List.Sublist.refl _))))))) ?_
                      refine E_weak (Hp.le_trans (Hp.le_trans (Hp.le_trans (Hp.le_trans (Hp.le_trans hle115 hle299) hle382) hle392) hle402) hle522) ?_
                      exact end1 rfl rfl ⟨rfl, rfl, rfl⟩
                    · have hm := ite_t' hb577 hm
                      refine W_move rfl rfl rfl ?_
                      refine W_perm (List.Perm.trans (List.Perm.cons _ (List.Perm.swap _ _ _)) (List.Perm.trans (List.Perm.swap _ _ _) (List.Perm.trans (List.Perm.cons _ (List.Perm.cons _ (List.Perm.swap _ _ _))) (List.Perm.cons _ (List.Perm.swap _ _ _))))) ?_
                      obtain ⟨r578, hc579, hm⟩ := bind_some hm
                      refine W_call Proofs.Try.call15 rfl rfl rfl (fun w ht => by have h := m_alarm_Board_All_c (hm := hc579) (h397.mono hle522) (h400.mono hle522) ht; exact h) ?_
                      rintro _ _ _ ⟨rfl, v580, xs581, rfl, rfl, h582⟩
                      have h582 := h582 H521
                      refine W_lenO (List.mem_cons_self ..) rfl rfl Proofs.Try.runUnderlying36 rfl ?_
                      refine W_move rfl rfl rfl ?_
                      refine W_lenO (List.mem_cons_of_mem _ (List.mem_cons_of_mem _ (List.mem_cons_of_mem _ (List.mem_cons_of_mem _ (List.mem_cons_of_mem _ (List.mem_cons_self ..)))))) rfl rfl Proofs.Try.runUnderlying23 rfl ?_
                      refine W_bin rfl rfl rfl rfl rfl ?_
                      refine W_pick rfl rfl rfl rfl ?_
                      refine W_move rfl rfl rfl ?_
                      cases hb583 : (decide ((r578.length : Int) = (l421.length : Int)))
                      · have hm := ite_f' hb583 hm
                        refine W_no rfl rfl rfl ?_
                        refine W_no rfl rfl rfl ?_
                        refine W_no rfl rfl rfl ?_
                        refine W_pick rfl rfl rfl rfl ?_
                        refine W_assign rfl rfl rfl ?_
                        refine W_end ?_
                        refine E_then ?_
                        refine C_ret ?_
                        obtain rfl := Option.some.inj hm
                        refine E_drop (List.Sublist.cons _ (List.Sublist.cons _ (List.Sublist.cons _ (List.Sublist.cons _ (List.Sublist.cons _ (List.Sublist.cons _ (List.Sublist.cons _ (List.Sublist.refl _)))))))) ?_
                        refine E_weak (Hp.le_trans (Hp.le_trans (Hp.le_trans (Hp.le_trans (Hp.le_trans hle115 hle299) hle382) hle392) hle402) hle522) ?_
                        exact end1 rfl rfl ⟨rfl, rfl, rfl⟩
                      · have hm := ite_t' hb583 hm
                        refine W_move rfl rfl rfl ?_
                        refine W_move rfl rfl rfl ?_
                        refine W_perm (List.Perm.trans (List.Perm.cons _ (List.Perm.cons _ (List.Perm.swap _ _ _))) (List.Perm.trans (List.Perm.cons _ (List.Perm.swap _ _ _)) (List.Perm.trans (List.Perm.swap _ _ _) (List.Perm.trans (List.Perm.cons _ (List.Perm.cons _ (List.Perm.cons _ (List.Perm.cons _ (List.Perm.cons _ (List.Perm.swap _ _ _)))))) (List.Perm.trans (List.Perm.cons _ (List.Perm.cons _ (List.Perm.cons _ (List.Perm.cons _ (List.Perm.swap _ _ _))))) (List.Perm.trans (List.Perm.cons _ (List.Perm.cons _ (List.Perm.cons _ (List.Perm.swap _ _ _)))) (List.Perm.trans (List.Perm.cons _ (List.Perm.cons _ (List.Perm.swap _ _ _))) (List.Perm.cons _ (List.Perm.swap _ _ _))))))))) ?_
                        obtain ⟨r584, hc585, hm⟩ := bind_some hm
                        refine W_call Proofs.Try.call16 rfl rfl rfl (fun w ht => by obtain ⟨H0_, hl0_, ht0_, hr0_, bk0_⟩ := ht.lendRow h573 rfl; obtain ⟨H1_, hl1_, ht1_, hr1_, bk1_⟩ := ht0_.lendRow ((h428.mono hle522).mono hl0_) rfl; have h := m_slices_Equal_string_string_c (hm := hc585) (hr0_.mono hl1_) hr1_ ht1_; exact lend_back bk0_ (lend_back bk1_ (h))) ?_
                        rintro _ _ _ ⟨rfl, ⟨_, rfl, ⟨_, rfl, rfl, rfl⟩⟩⟩
                        refine W_pick rfl rfl rfl rfl ?_
                        refine W_assign rfl rfl rfl ?_
                        refine W_end ?_
                        refine E_then ?_
                        refine C_ret ?_
                        obtain rfl := Option.some.inj hm
                        refine E_drop (List.Sublist.cons _ (List.Sublist.cons _ (List.Sublist.cons _ (List.Sublist.cons _ (List.Sublist.cons _ (List.Sublist.cons _ (List.Sublist.cons _ (List.Sublist.refl _)))))))) ?_
                        refine E_weak (Hp.le_trans (Hp.le_trans (Hp.le_trans (Hp.le_trans (Hp.le_trans hle115 hle299) hle382) hle392) hle402) hle522) ?_
                        exact end1 rfl rfl ⟨rfl, rfl, rfl⟩
              · refine C_seq ?_
                refine C_region ?_
                refine W_move rfl rfl rfl ?_
                refine W_bin rfl rfl rfl rfl rfl ?_
                refine W_end ?_
                refine E_then ?_
                refine C_cond (b := decide (0 ≤ r371)) rfl (fun hb586 => ?_) (fun hb586 => ?_)
                · have hm := ite_t' hb586 hm
                  refine C_region ?_
                  refine W_move rfl rfl rfl ?_
                  refine W_move rfl rfl rfl ?_
                  refine W_move rfl rfl rfl ?_
                  refine W_bin rfl rfl rfl rfl rfl ?_
                  obtain ⟨hz587, hm⟩ := need_some hm
                  refine W_perm (List.Perm.trans (List.Perm.cons _ (List.Perm.swap _ _ _)) (List.Perm.swap _ _ _)) ?_
                  refine W_call Proofs.Try.call11 rfl rfl rfl (fun w ht => by have h := delete11_c (((hr289.mono hle382).mono hle392).mono hle402) hz587 ht; exact h) ?_
                  rintro _ _ _ ⟨rfl, v588, xs589, rfl, rfl, hr590⟩
                  have hr590 := hr590 H401
                  refine W_assign rfl rfl rfl ?_
                  refine W_end ?_
                  exact E_keepJ (J423 _ _ _ ⟨(l288.take (r371).toNat ++ l288.drop (IntKind.i64.wrap (r371 + 1)).toNat), v588, xs589, hm, hr590, rfl, rfl, rfl⟩) (List.Perm.refl _) ⟨rfl, rfl, rfl, trivial⟩
                · have hm := ite_f' hb586 hm
                  refine C_skip ?_
                  exact E_keepJ (J423 _ _ _ ⟨l288, v286, xs287, hm, (((hr289.mono hle382).mono hle392).mono hle402), rfl, rfl, rfl⟩) (List.Perm.trans (List.Perm.cons _ (List.Perm.swap _ _ _)) (List.Perm.swap _ _ _)) ⟨rfl, rfl, rfl, trivial⟩
          · refine C_region ?_
            refine W_move rfl rfl rfl ?_
            refine W_bin rfl rfl rfl rfl rfl ?_
            refine W_move rfl rfl rfl ?_
            cases hb591 : (decide (r371 < 0))
            · refine W_no rfl rfl rfl ?_
              refine W_no rfl rfl rfl ?_
              refine W_no rfl rfl rfl ?_
              refine W_no rfl rfl rfl ?_
              refine W_no rfl rfl rfl ?_
              refine W_no rfl rfl rfl ?_
              refine W_pick rfl rfl rfl rfl ?_
              refine W_move rfl rfl rfl ?_
              refine W_move rfl rfl rfl ?_
              refine W_bin rfl rfl rfl rfl rfl ?_
              refine W_move rfl rfl rfl ?_
              cases hb592 : (decide (0 ≤ r371))
              · refine W_no rfl rfl rfl ?_
                refine W_no rfl rfl rfl ?_
                refine W_no rfl rfl rfl ?_
                refine W_no rfl rfl rfl ?_
                refine W_no rfl rfl rfl ?_
                refine W_no rfl rfl rfl ?_
                refine W_no rfl rfl rfl ?_
                refine W_no rfl rfl rfl ?_
                refine W_no rfl rfl rfl ?_
                refine W_no rfl rfl rfl ?_
                refine W_pick rfl rfl rfl rfl ?_
                refine W_pick rfl rfl rfl rfl ?_
                refine W_end ?_
                exact E_keepJ (J412 _ _ _ ⟨rfl, rfl, rfl⟩) (List.Perm.refl _) ⟨rfl, rfl, rfl, rfl, (by show some (Value.bool (false)) = some (Value.bool (((decide (r371 < 0)) && ((!decide (r373.1 = 8)) || (!decide (r393.1 = 8)))) || ((decide (0 ≤ r371)) && (((!decide (r373.1 = 0)) || (!decide (r383.1 = 11))) || (!decide (r393.1 = 0)))))); simp only [hb127, hb591, hb592, Bool.and_true, Bool.true_and, Bool.false_and, Bool.and_false, Bool.or_true, Bool.true_or, Bool.or_false, Bool.false_or, Bool.not_true, Bool.not_false]), trivial⟩
              · refine W_move rfl rfl rfl ?_
                refine W_bin rfl rfl rfl rfl rfl ?_
                refine W_move rfl rfl rfl ?_
                cases hb593 : (decide (r373.1 = 0))
                · refine W_no rfl rfl rfl ?_
                  refine W_no rfl rfl rfl ?_
                  refine W_pick rfl rfl rfl rfl ?_
                  refine W_move rfl rfl rfl ?_
                  refine W_no rfl rfl rfl ?_
                  refine W_no rfl rfl rfl ?_
                  refine W_pick rfl rfl rfl rfl ?_
                  refine W_pick rfl rfl rfl rfl ?_
                  refine W_pick rfl rfl rfl rfl ?_
                  refine W_end ?_
                  exact E_keepJ (J412 _ _ _ ⟨rfl, rfl, rfl⟩) (List.Perm.refl _) ⟨rfl, rfl, rfl, rfl, (by show some (Value.bool (true)) = some (Value.bool (((decide (r371 < 0)) && ((!decide (r373.1 = 8)) || (!decide (r393.1 = 8)))) || ((decide (0 ≤ r371)) && (((!decide (r373.1 = 0)) || (!decide (r383.1 = 11))) || (!decide (r393.1 = 0)))))); simp only [hb127, hb591, hb592, hb593, Bool.and_true, Bool.true_and, Bool.false_and, Bool.and_false, Bool.or_true, Bool.true_or, Bool.or_false, Bool.false_or, Bool.not_true, Bool.not_false]), trivial⟩
                · refine W_move rfl rfl rfl ?_
                  refine W_bin rfl rfl rfl rfl rfl ?_
                  refine W_pick rfl rfl rfl rfl ?_
                  refine W_move rfl rfl rfl ?_
                  cases hb594 : (decide (r383.1 = 11))
                  · refine W_no rfl rfl rfl ?_
                    refine W_no rfl rfl rfl ?_
                    refine W_pick rfl rfl rfl rfl ?_
                    refine W_pick rfl rfl rfl rfl ?_
                    refine W_pick rfl rfl rfl rfl ?_
                    refine W_end ?_
                    exact E_keepJ (J412 _ _ _ ⟨rfl, rfl, rfl⟩) (List.Perm.refl _) ⟨rfl, rfl, rfl, rfl, (by show some (Value.bool (true)) = some (Value.bool (((decide (r371 < 0)) && ((!decide (r373.1 = 8)) || (!decide (r393.1 = 8)))) || ((decide (0 ≤ r371)) && (((!decide (r373.1 = 0)) || (!decide (r383.1 = 11))) || (!decide (r393.1 = 0)))))); simp only [hb127, hb591, hb592, hb593, hb594, Bool.and_true, Bool.true_and, Bool.false_and, Bool.and_false, Bool.or_true, Bool.true_or, Bool.or_false, Bool.false_or, Bool.not_true, Bool.not_false]), trivial⟩
                  · refine W_move rfl rfl rfl ?_
                    refine W_bin rfl rfl rfl rfl rfl ?_
                    refine W_pick rfl rfl rfl rfl ?_
                    refine W_pick rfl rfl rfl rfl ?_
                    refine W_pick rfl rfl rfl rfl ?_
                    refine W_end ?_
                    exact E_keepJ (J412 _ _ _ ⟨rfl, rfl, rfl⟩) (List.Perm.refl _) ⟨rfl, rfl, rfl, rfl, (by show some (Value.bool (!decide (r393.1 = 0))) = some (Value.bool (((decide (r371 < 0)) && ((!decide (r373.1 = 8)) || (!decide (r393.1 = 8)))) || ((decide (0 ≤ r371)) && (((!decide (r373.1 = 0)) || (!decide (r383.1 = 11))) || (!decide (r393.1 = 0)))))); simp only [hb127, hb591, hb592, hb593, hb594, Bool.and_true, Bool.true_and, Bool.false_and, Bool.and_false, Bool.or_true, Bool.true_or, Bool.or_false, Bool.false_or, Bool.not_true, Bool.not_false]), trivial⟩
            · refine W_move rfl rfl rfl ?_
              refine W_bin rfl rfl rfl rfl rfl ?_
              refine W_move rfl rfl rfl ?_
              cases hb595 : (decide (r373.1 = 8))
              · refine W_no rfl rfl rfl ?_
                refine W_no rfl rfl rfl ?_
                refine W_pick rfl rfl rfl rfl ?_
                refine W_pick rfl rfl rfl rfl ?_
                refine W_move rfl rfl rfl ?_
                refine W_no rfl rfl rfl ?_
                refine W_no rfl rfl rfl ?_
                refine W_no rfl rfl rfl ?_
                refine W_no rfl rfl rfl ?_
                refine W_no rfl rfl rfl ?_
                refine W_no rfl rfl rfl ?_
                refine W_no rfl rfl rfl ?_
                refine W_no rfl rfl rfl ?_
                refine W_no rfl rfl rfl ?_
                refine W_no rfl rfl rfl ?_
                refine W_no rfl rfl rfl ?_
                refine W_no rfl rfl rfl ?_
                refine W_no rfl rfl rfl ?_
                refine W_no rfl rfl rfl ?_
                refine W_pick rfl rfl rfl rfl ?_
                refine W_end ?_
                exact E_keepJ (J412 _ _ _ ⟨rfl, rfl, rfl⟩) (List.Perm.refl _) ⟨rfl, rfl, rfl, rfl, (by show some (Value.bool (true)) = some (Value.bool (((decide (r371 < 0)) && ((!decide (r373.1 = 8)) || (!decide (r393.1 = 8)))) || ((decide (0 ≤ r371)) && (((!decide (r373.1 = 0)) || (!decide (r383.1 = 11))) || (!decide (r393.1 = 0)))))); simp only [hb127, hb591, hb595, Bool.and_true, Bool.true_and, Bool.false_and, Bool.and_false, Bool.or_true, Bool.true_or, Bool.or_false, Bool.false_or, Bool.not_true, Bool.not_false]), trivial⟩
              · refine W_move rfl rfl rfl ?_
                refine W_bin rfl rfl rfl rfl rfl ?_
                refine W_pick rfl rfl rfl rfl ?_
                refine W_pick rfl rfl rfl rfl ?_
                refine W_move rfl rfl rfl ?_
                cases hb596 : (decide (r393.1 = 8))
                · refine W_no rfl rfl rfl ?_
                  refine W_no rfl rfl rfl ?_
                  refine W_no rfl rfl rfl ?_
                  refine W_no rfl rfl rfl ?_
                  refine W_no rfl rfl rfl ?_
                  refine W_no rfl rfl rfl ?_
                  refine W_no rfl rfl rfl ?_
                  refine W_no rfl rfl rfl ?_
                  refine W_no rfl rfl rfl ?_
                  refine W_no rfl rfl rfl ?_
                  refine W_no rfl rfl rfl ?_
                  refine W_no rfl rfl rfl ?_
                  refine W_no rfl rfl rfl ?_
                  refine W_no rfl rfl rfl ?_
                  refine W_pick rfl rfl rfl rfl ?_
                  refine W_end ?_
                  exact E_keepJ (J412 _ _ _ ⟨rfl, rfl, rfl⟩) (List.Perm.refl _) ⟨rfl, rfl, rfl, rfl, (by show some (Value.bool (true)) = some (Value.bool (((decide (r371 < 0)) && ((!decide (r373.1 = 8)) || (!decide (r393.1 = 8)))) || ((decide (0 ≤ r371)) && (((!decide (r373.1 = 0)) || (!decide (r383.1 = 11))) || (!decide (r393.1 = 0)))))); simp only [hb127, hb591, hb595, hb596, Bool.and_true, Bool.true_and, Bool.false_and, Bool.and_false, Bool.or_true, Bool.true_or, Bool.or_false, Bool.false_or, Bool.not_true, Bool.not_false]), trivial⟩
                · refine W_move rfl rfl rfl ?_
                  refine W_bin rfl rfl rfl rfl rfl ?_
                  refine W_move rfl rfl rfl ?_
                  cases hb597 : (decide (0 ≤ r371))
                  · refine W_no rfl rfl rfl ?_
                    refine W_no rfl rfl rfl ?_
                    refine W_no rfl rfl rfl ?_
                    refine W_no rfl rfl rfl ?_
                    refine W_no rfl rfl rfl ?_
                    refine W_no rfl rfl rfl ?_
                    refine W_no rfl rfl rfl ?_
                    refine W_no rfl rfl rfl ?_
                    refine W_no rfl rfl rfl ?_
                    refine W_no rfl rfl rfl ?_
                    refine W_pick rfl rfl rfl rfl ?_
                    refine W_pick rfl rfl rfl rfl ?_
                    refine W_end ?_
                    exact E_keepJ (J412 _ _ _ ⟨rfl, rfl, rfl⟩) (List.Perm.refl _) ⟨rfl, rfl, rfl, rfl, (by show some (Value.bool (false)) = some (Value.bool (((decide (r371 < 0)) && ((!decide (r373.1 = 8)) || (!decide (r393.1 = 8)))) || ((decide (0 ≤ r371)) && (((!decide (r373.1 = 0)) || (!decide (r383.1 = 11))) || (!decide (r393.1 = 0)))))); simp only [hb127, hb591, hb595, hb596, hb597, Bool.and_true, Bool.true_and, Bool.false_and, Bool.and_false, Bool.or_true, Bool.true_or, Bool.or_false, Bool.false_or, Bool.not_true, Bool.not_false]), trivial⟩
                  · refine W_move rfl rfl rfl ?_
                    refine W_bin rfl rfl rfl rfl rfl ?_
                    refine W_move rfl rfl rfl ?_
                    cases hb598 : (decide (r373.1 = 0))
                    · refine W_no rfl rfl rfl ?_
                      refine W_no rfl rfl rfl ?_
                      refine W_pick rfl rfl rfl rfl ?_
                      refine W_move rfl rfl rfl ?_
                      refine W_no rfl rfl rfl ?_
                      refine W_no rfl rfl rfl ?_
                      refine W_pick rfl rfl rfl rfl ?_
                      refine W_pick rfl rfl rfl rfl ?_
                      refine W_pick rfl rfl rfl rfl ?_
                      refine W_end ?_
                      exact E_keepJ (J412 _ _ _ ⟨rfl, rfl, rfl⟩) (List.Perm.refl _) ⟨rfl, rfl, rfl, rfl, (by show some (Value.bool (true)) = some (Value.bool (((decide (r371 < 0)) && ((!decide (r373.1 = 8)) || (!decide (r393.1 = 8)))) || ((decide (0 ≤ r371)) && (((!decide (r373.1 = 0)) || (!decide (r383.1 = 11))) || (!decide (r393.1 = 0)))))); simp only [hb127, hb591, hb595, hb596, hb597, hb598, Bool.and_true, Bool.true_and, Bool.false_and, Bool.and_false, Bool.or_true, Bool.true_or, Bool.or_false, Bool.false_or, Bool.not_true, Bool.not_false]), trivial⟩
                    · refine W_move rfl rfl rfl ?_
                      refine W_bin rfl rfl rfl rfl rfl ?_
                      refine W_pick rfl rfl rfl rfl ?_
                      refine W_move rfl rfl rfl ?_
                      cases hb599 : (decide (r383.1 = 11))
                      · refine W_no rfl rfl rfl ?_
                        refine W_no rfl rfl rfl ?_
                        refine W_pick rfl rfl rfl rfl ?_
                        refine W_pick rfl rfl rfl rfl ?_
                        refine W_pick rfl rfl rfl rfl ?_
                        refine W_end ?_
                        exact E_keepJ (J412 _ _ _ ⟨rfl, rfl, rfl⟩) (List.Perm.refl _) ⟨rfl, rfl, rfl, rfl, (by show some (Value.bool (true)) = some (Value.bool (((decide (r371 < 0)) && ((!decide (r373.1 = 8)) || (!decide (r393.1 = 8)))) || ((decide (0 ≤ r371)) && (((!decide (r373.1 = 0)) || (!decide (r383.1 = 11))) || (!decide (r393.1 = 0)))))); simp only [hb127, hb591, hb595, hb596, hb597, hb598, hb599, Bool.and_true, Bool.true_and, Bool.false_and, Bool.and_false, Bool.or_true, Bool.true_or, Bool.or_false, Bool.false_or, Bool.not_true, Bool.not_false]), trivial⟩
                      · refine W_move rfl rfl rfl ?_
                        refine W_bin rfl rfl rfl rfl rfl ?_
                        refine W_pick rfl rfl rfl rfl ?_
                        refine W_pick rfl rfl rfl rfl ?_
                        refine W_pick rfl rfl rfl rfl ?_
                        refine W_end ?_
                        exact E_keepJ (J412 _ _ _ ⟨rfl, rfl, rfl⟩) (List.Perm.refl _) ⟨rfl, rfl, rfl, rfl, (by show some (Value.bool (!decide (r393.1 = 0))) = some (Value.bool (((decide (r371 < 0)) && ((!decide (r373.1 = 8)) || (!decide (r393.1 = 8)))) || ((decide (0 ≤ r371)) && (((!decide (r373.1 = 0)) || (!decide (r383.1 = 11))) || (!decide (r393.1 = 0)))))); simp only [hb127, hb591, hb595, hb596, hb597, hb598, hb599, Bool.and_true, Bool.true_and, Bool.false_and, Bool.and_false, Bool.or_true, Bool.true_or, Bool.or_false, Bool.false_or, Bool.not_true, Bool.not_false]), trivial⟩
    · refine C_region ?_
      refine W_move rfl rfl rfl ?_
      refine W_bin rfl rfl rfl rfl rfl ?_
      refine W_move rfl rfl rfl ?_
      cases hb600 : (decide (r101.2 = 0))
      · refine W_no rfl rfl rfl ?_
        refine W_no rfl rfl rfl ?_
        refine W_pick rfl rfl rfl rfl ?_
        refine W_end ?_
        exact E_keepJ (J126 _ _ _ ⟨rfl, rfl, rfl⟩) (List.Perm.refl _) ⟨rfl, rfl, rfl, rfl, rfl, (by show some (Value.bool (true)) = some (Value.bool (!decide (r101.2 = 0))); simp only [hb600, Bool.and_true, Bool.true_and, Bool.false_and, Bool.and_false, Bool.or_true, Bool.true_or, Bool.or_false, Bool.false_or, Bool.not_true, Bool.not_false]), trivial⟩
      · refine W_move rfl rfl rfl ?_
        refine W_ptrNil rfl rfl Proofs.Try.runUnderlying24 rfl rfl ?_
        refine W_pick rfl rfl rfl rfl ?_
        refine W_end ?_
        exact E_keepJ (J126 _ _ _ ⟨rfl, rfl, rfl⟩) (List.Perm.refl _) ⟨rfl, rfl, rfl, rfl, rfl, (by show some (Value.bool (false)) = some (Value.bool (!decide (r101.2 = 0))); simp only [hb600, Bool.and_true, Bool.true_and, Bool.false_and, Bool.and_false, Bool.or_true, Bool.true_or, Bool.or_false, Bool.false_or, Bool.not_true, Bool.not_false]), trivial⟩
end Go.Sim
