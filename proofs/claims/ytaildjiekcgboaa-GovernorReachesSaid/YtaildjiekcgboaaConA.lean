/-
  Printed by a program: each Go function computes its model.
-/
import Derived.Test.YtaildjiekcgboaaModA
import Derived.Test.YtaildjiekcgboaaRows
import Derived.KernelRfl
namespace Go.Sim
open Go
set_option linter.unusedVariables false
set_option linter.unusedSimpArgs false
set_option maxRecDepth 100000
theorem Facts.mixed : Proofs.Try.prog.follows .mixedOrders = true := by kernel_rfl

theorem m_governor_out_c {B : Nat} {w0 w : World} {H : Hp} {M : List Res} {p0_n : Int} {p1_low : Int} {p2_high : Int} {r : Bool} (hm : m_governor_out p0_n p1_low p2_high = r) (ht : St B w0 H M w) :
    Calls Proofs.Try.prog 29 [.int .i64 (p0_n), .int .i64 (p1_low), .int .i64 (p2_high)].toArray w (Ret B w0 fun H' M' v => H = H' ∧ M = M' ∧ v = .bool (r)) := by
  unfold m_governor_out at hm
  refine enter Proofs.Try.func29 rfl rfl rfl ht ?_
  refine C_seq ?_
  refine C_region ?_
  refine W_assign rfl rfl rfl ?_
  refine W_end ?_
  refine E_then ?_
  refine C_seq_join (fun H' M' L' => H = H' ∧ M = M' ∧ [(6, .bool ((decide (p0_n < p1_low)) || (decide (p2_high < p0_n))))] = L') ?_ (fun J102 => ?_)
  · rintro _ _ _ ⟨rfl, rfl, rfl⟩
    refine C_ret ?_
    obtain rfl := hm
    exact end1_s rfl rfl (Hp.le_refl _) rfl
  · refine C_region ?_
    refine W_move rfl rfl rfl ?_
    refine W_move rfl rfl rfl ?_
    refine W_bin rfl rfl rfl rfl rfl ?_
    refine W_move rfl rfl rfl ?_
    cases hb103 : (decide (p0_n < p1_low))
    · refine W_move rfl rfl rfl ?_
      refine W_move rfl rfl rfl ?_
      refine W_bin rfl rfl rfl rfl rfl ?_
      refine W_pick rfl rfl rfl rfl ?_
      refine W_assign rfl rfl rfl ?_
      refine W_end ?_
      exact E_keepJ (J102 _ _ _ ⟨rfl, rfl, rfl⟩) (List.Perm.refl _) ⟨(by show some (Value.bool (decide (p2_high < p0_n))) = some (Value.bool ((decide (p0_n < p1_low)) || (decide (p2_high < p0_n)))); simp only [hb103, Bool.and_true, Bool.true_and, Bool.false_and, Bool.and_false, Bool.or_true, Bool.true_or, Bool.or_false, Bool.false_or, Bool.not_true, Bool.not_false]), trivial⟩
    · refine W_no rfl rfl rfl ?_
      refine W_no rfl rfl rfl ?_
      refine W_no rfl rfl rfl ?_
      refine W_pick rfl rfl rfl rfl ?_
      refine W_assign rfl rfl rfl ?_
      refine W_end ?_
      exact E_keepJ (J102 _ _ _ ⟨rfl, rfl, rfl⟩) (List.Perm.refl _) ⟨(by show some (Value.bool (true)) = some (Value.bool ((decide (p0_n < p1_low)) || (decide (p2_high < p0_n)))); simp only [hb103, Bool.and_true, Bool.true_and, Bool.false_and, Bool.and_false, Bool.or_true, Bool.true_or, Bool.or_false, Bool.false_or, Bool.not_true, Bool.not_false]), trivial⟩

theorem m_governor_wrong_c {B : Nat} {w0 w : World} {H : Hp} {M : List Res} {p0_f : Int} {r : Bool} (hm : m_governor_wrong p0_f = r) (ht : St B w0 H M w) :
    Calls Proofs.Try.prog 25 [.int .i64 (p0_f)].toArray w (Ret B w0 fun H' M' v => H = H' ∧ M = M' ∧ v = .bool (r)) := by
  unfold m_governor_wrong at hm
  refine enter Proofs.Try.func25 rfl rfl rfl ht ?_
  refine C_seq ?_
  refine C_region ?_
  refine W_assign rfl rfl rfl ?_
  refine W_end ?_
  refine E_then ?_
  refine C_seq ?_
  refine C_region ?_
  refine W_move rfl rfl rfl ?_
  refine W_call Proofs.Try.call29 rfl rfl rfl (fun w ht => by have h := m_governor_out_c (hm := (rfl : m_governor_out p0_f ((-10000)) 10000 = _))  ht; exact h) ?_
  rintro _ _ _ ⟨rfl, rfl, rfl⟩
  refine W_assign rfl rfl rfl ?_
  refine W_end ?_
  refine E_then ?_
  refine C_ret ?_
  obtain rfl := hm
  exact end1_s rfl rfl (Hp.le_refl _) rfl

theorem m_gridhallref4_Cut_c {B : Nat} {w0 w : World} {H : Hp} {M : List Res} {p0_n : Int} {p1_low : Int} {p2_high : Int} {r : Int} (hm : m_gridhallref4_Cut p0_n p1_low p2_high = some r) (ht : St B w0 H M w) :
    Calls Proofs.Try.prog 9 [.int .i64 (p0_n), .int .i64 (p1_low), .int .i64 (p2_high)].toArray w (Ret B w0 fun H' M' v => H = H' ∧ M = M' ∧ v = .int .i64 (r)) := by
  unfold m_gridhallref4_Cut at hm
  refine enter Proofs.Try.func9 rfl rfl rfl ht ?_
  refine C_seq ?_
  refine C_region ?_
  refine W_assign rfl rfl rfl ?_
  refine W_end ?_
  refine E_then ?_
  refine C_seq ?_
  refine C_region ?_
  refine W_move rfl rfl rfl ?_
  refine W_move rfl rfl rfl ?_
  refine W_bin rfl rfl rfl rfl rfl ?_
  refine W_bin rfl rfl rfl rfl rfl ?_
  refine W_assign rfl rfl rfl ?_
  refine W_end ?_
  refine E_then ?_
  refine C_seq ?_
  refine C_region ?_
  refine W_move rfl rfl rfl ?_
  refine W_move rfl rfl rfl ?_
  obtain ⟨hq101, hm⟩ := need_some hm
  refine W_rem rfl rfl rfl rfl hq101 ?_
  refine W_assign rfl rfl rfl ?_
  refine W_end ?_
  refine E_then ?_
  refine C_seq_join (fun H' M' L' => ∃ n103 : Int, m_gridhallref4_Cut_b1 p1_low n103 = some r ∧ H = H' ∧ M = M' ∧ [(0, .int .i64 (n103)), (1, .int .i64 (p1_low))] = L') ?_ (fun J104 => ?_)
  · rintro _ _ _ ⟨n103, hm, rfl, rfl, rfl⟩
    unfold m_gridhallref4_Cut_b1 at hm
    refine C_seq ?_
    refine C_region ?_
    refine W_move rfl rfl rfl ?_
    refine W_move rfl rfl rfl ?_
    refine W_bin rfl rfl rfl rfl rfl ?_
    refine W_assign rfl rfl rfl ?_
    refine W_end ?_
    refine E_then ?_
    refine C_ret ?_
    obtain rfl := Option.some.inj hm
    exact end1_s rfl rfl (Hp.le_refl _) rfl
  · refine C_seq ?_
    refine C_region ?_
    refine W_move rfl rfl rfl ?_
    refine W_bin rfl rfl rfl rfl rfl ?_
    refine W_end ?_
    refine E_then ?_
    refine C_cond (b := decide ((Int.tmod p0_n (IntKind.i64.wrap ((IntKind.i64.wrap (p2_high - p1_low)) + 1))) < 0)) rfl (fun hb105 => ?_) (fun hb105 => ?_)
    · have hm := ite_t' hb105 hm
      refine C_region ?_
      refine W_move rfl rfl rfl ?_
      refine W_move rfl rfl rfl ?_
      refine W_bin rfl rfl rfl rfl rfl ?_
      refine W_assign rfl rfl rfl ?_
      refine W_end ?_
      exact E_keepJ (J104 _ _ _ ⟨IntKind.i64.wrap ((Int.tmod p0_n (IntKind.i64.wrap ((IntKind.i64.wrap (p2_high - p1_low)) + 1))) + (IntKind.i64.wrap ((IntKind.i64.wrap (p2_high - p1_low)) + 1))), hm, rfl, rfl, rfl⟩) (List.Perm.refl _) ⟨rfl, rfl, trivial⟩
    · have hm := ite_f' hb105 hm
      refine C_skip ?_
      exact E_keepJ (J104 _ _ _ ⟨Int.tmod p0_n (IntKind.i64.wrap ((IntKind.i64.wrap (p2_high - p1_low)) + 1)), hm, rfl, rfl, rfl⟩) (List.Perm.refl _) ⟨rfl, rfl, trivial⟩

theorem m_governor_Check_c {B : Nat} {w0 w : World} {H : Hp} {M : List Res} {p0_g : S_api_GovernorSetup} {r : Int} (hm : m_governor_Check p0_g = r) (ht : St B w0 H M w) :
    Calls Proofs.Try.prog 24 [.agg [.int .i64 (p0_g.Set), .int .i64 (p0_g.Least), .int .i64 (p0_g.Most), .int .i64 (p0_g.Droop), .int .i64 (p0_g.Band), .int .i64 (p0_g.Ramp)].toArray].toArray w (Ret B w0 fun H' M' v => H = H' ∧ M = M' ∧ v = .int .i64 (r)) := by
  unfold m_governor_Check at hm
  refine enter Proofs.Try.func24 rfl rfl rfl ht ?_
  refine C_seq ?_
  refine C_region ?_
  refine W_box (cs := [.int .i64 (p0_g.Set), .int .i64 (p0_g.Least), .int .i64 (p0_g.Most), .int .i64 (p0_g.Droop), .int .i64 (p0_g.Band), .int .i64 (p0_g.Ramp)]) rfl rfl rfl rfl (fun b101 => ?_)
  refine W_assign rfl rfl rfl ?_
  refine W_end ?_
  refine E_then ?_
  refine C_seq ?_
  refine C_seq_join (fun H' M' L' => H = H' ∧ M = M' ∧ [(36, .bool ((((((m_governor_out p0_g.Least 0 p0_g.Most) || (decide (100000 < p0_g.Most))) || (m_governor_out p0_g.Set p0_g.Least p0_g.Most)) || (m_governor_out p0_g.Droop 1 10000)) || (m_governor_out p0_g.Band 0 10000)) || (m_governor_out p0_g.Ramp 0 100000)))] = L') ?_ (fun J107 => ?_)
  · rintro _ _ _ ⟨rfl, rfl, rfl⟩
    refine C_cond (b := (((((m_governor_out p0_g.Least 0 p0_g.Most) || (decide (100000 < p0_g.Most))) || (m_governor_out p0_g.Set p0_g.Least p0_g.Most)) || (m_governor_out p0_g.Droop 1 10000)) || (m_governor_out p0_g.Band 0 10000)) || (m_governor_out p0_g.Ramp 0 100000)) rfl (fun hb108 => ?_) (fun hb108 => ?_)
    · have hm := ite_t' hb108 hm
      refine C_seq ?_
      refine C_region ?_
      refine W_assign rfl rfl rfl ?_
      refine W_end ?_
      refine E_then ?_
      refine C_ret ?_
      refine E_ret_then ?_
      obtain rfl := hm
      exact end1_s rfl rfl (Hp.le_refl _) rfl
    · have hm := ite_f' hb108 hm
      refine C_skip ?_
      refine E_then ?_
      refine C_seq ?_
      refine C_region ?_
      refine W_assign rfl rfl rfl ?_
      refine W_end ?_
      refine E_then ?_
      refine C_ret ?_
      obtain rfl := hm
      exact end1_s rfl rfl (Hp.le_refl _) rfl
  · refine C_region ?_
    refine W_field (o := 1) rfl rfl Proofs.Try.runUnderlying23 rfl Proofs.Try.sizeOf3 rfl rfl rfl ?_
    refine W_load rfl rfl Proofs.Try.isAgg3 rfl (own_at (List.mem_cons_self ..) rfl) ?_
    refine W_field (o := 2) rfl rfl Proofs.Try.runUnderlying23 rfl Proofs.Try.sizeOf3 rfl rfl rfl ?_
    refine W_load rfl rfl Proofs.Try.isAgg3 rfl (own_at (List.mem_cons_self ..) rfl) ?_
    refine W_call Proofs.Try.call29 rfl rfl rfl (fun w ht => by have h := m_governor_out_c (hm := (rfl : m_governor_out p0_g.Least 0 p0_g.Most = _))  ht; exact h) ?_
    rintro _ _ _ ⟨rfl, rfl, rfl⟩
    refine W_move rfl rfl rfl ?_
    cases hb109 : ((m_governor_out p0_g.Least 0 p0_g.Most))
    · refine W_field (o := 2) rfl rfl Proofs.Try.runUnderlying23 rfl Proofs.Try.sizeOf3 rfl rfl rfl ?_
      refine W_load rfl rfl Proofs.Try.isAgg3 rfl (own_at (List.mem_cons_self ..) rfl) ?_
      refine W_bin rfl rfl rfl rfl rfl ?_
      refine W_pick rfl rfl rfl rfl ?_
      refine W_move rfl rfl rfl ?_
      cases hb110 : (decide (100000 < p0_g.Most))
      · refine W_field (o := 0) rfl rfl Proofs.Try.runUnderlying23 rfl Proofs.Try.sizeOf3 rfl rfl rfl ?_
        refine W_load rfl rfl Proofs.Try.isAgg3 rfl (own_at (List.mem_cons_self ..) rfl) ?_
        refine W_field (o := 1) rfl rfl Proofs.Try.runUnderlying23 rfl Proofs.Try.sizeOf3 rfl rfl rfl ?_
        refine W_load rfl rfl Proofs.Try.isAgg3 rfl (own_at (List.mem_cons_self ..) rfl) ?_
        refine W_field (o := 2) rfl rfl Proofs.Try.runUnderlying23 rfl Proofs.Try.sizeOf3 rfl rfl rfl ?_
        refine W_load rfl rfl Proofs.Try.isAgg3 rfl (own_at (List.mem_cons_self ..) rfl) ?_
        refine W_call Proofs.Try.call29 rfl rfl rfl (fun w ht => by have h := m_governor_out_c (hm := (rfl : m_governor_out p0_g.Set p0_g.Least p0_g.Most = _))  ht; exact h) ?_
        rintro _ _ _ ⟨rfl, rfl, rfl⟩
        refine W_pick rfl rfl rfl rfl ?_
        refine W_move rfl rfl rfl ?_
        cases hb111 : ((m_governor_out p0_g.Set p0_g.Least p0_g.Most))
        · refine W_field (o := 3) rfl rfl Proofs.Try.runUnderlying23 rfl Proofs.Try.sizeOf3 rfl rfl rfl ?_
          refine W_load rfl rfl Proofs.Try.isAgg3 rfl (own_at (List.mem_cons_self ..) rfl) ?_
          refine W_call Proofs.Try.call29 rfl rfl rfl (fun w ht => by have h := m_governor_out_c (hm := (rfl : m_governor_out p0_g.Droop 1 10000 = _))  ht; exact h) ?_
          rintro _ _ _ ⟨rfl, rfl, rfl⟩
          refine W_pick rfl rfl rfl rfl ?_
          refine W_move rfl rfl rfl ?_
          cases hb112 : ((m_governor_out p0_g.Droop 1 10000))
          · refine W_field (o := 4) rfl rfl Proofs.Try.runUnderlying23 rfl Proofs.Try.sizeOf3 rfl rfl rfl ?_
            refine W_load rfl rfl Proofs.Try.isAgg3 rfl (own_at (List.mem_cons_self ..) rfl) ?_
            refine W_call Proofs.Try.call29 rfl rfl rfl (fun w ht => by have h := m_governor_out_c (hm := (rfl : m_governor_out p0_g.Band 0 10000 = _))  ht; exact h) ?_
            rintro _ _ _ ⟨rfl, rfl, rfl⟩
            refine W_pick rfl rfl rfl rfl ?_
            refine W_move rfl rfl rfl ?_
            cases hb113 : ((m_governor_out p0_g.Band 0 10000))
            · refine W_field (o := 5) rfl rfl Proofs.Try.runUnderlying23 rfl Proofs.Try.sizeOf3 rfl rfl rfl ?_
              refine W_load rfl rfl Proofs.Try.isAgg3 rfl (own_at (List.mem_cons_self ..) rfl) ?_
              refine W_call Proofs.Try.call29 rfl rfl rfl (fun w ht => by have h := m_governor_out_c (hm := (rfl : m_governor_out p0_g.Ramp 0 100000 = _))  ht; exact h) ?_
              rintro _ _ _ ⟨rfl, rfl, rfl⟩
              refine W_pick rfl rfl rfl rfl ?_
              refine W_end ?_
              refine E_drop (List.Sublist.cons _ (List.Sublist.refl _)) ?_
              exact E_keepJ (J107 _ _ _ ⟨rfl, rfl, rfl⟩) (List.Perm.refl _) ⟨(by show some (Value.bool ((m_governor_out p0_g.Ramp 0 100000))) = some (Value.bool ((((((m_governor_out p0_g.Least 0 p0_g.Most) || (decide (100000 < p0_g.Most))) || (m_governor_out p0_g.Set p0_g.Least p0_g.Most)) || (m_governor_out p0_g.Droop 1 10000)) || (m_governor_out p0_g.Band 0 10000)) || (m_governor_out p0_g.Ramp 0 100000))); simp only [hb109, hb110, hb111, hb112, hb113, Bool.and_true, Bool.true_and, Bool.false_and, Bool.and_false, Bool.or_true, Bool.true_or, Bool.or_false, Bool.false_or, Bool.not_true, Bool.not_false]), trivial⟩
            · refine W_no rfl rfl rfl ?_
              refine W_no rfl rfl rfl ?_
              refine W_no rfl rfl rfl ?_
              refine W_pick rfl rfl rfl rfl ?_
              refine W_end ?_
              refine E_drop (List.Sublist.cons _ (List.Sublist.refl _)) ?_
              exact E_keepJ (J107 _ _ _ ⟨rfl, rfl, rfl⟩) (List.Perm.refl _) ⟨(by show some (Value.bool (true)) = some (Value.bool ((((((m_governor_out p0_g.Least 0 p0_g.Most) || (decide (100000 < p0_g.Most))) || (m_governor_out p0_g.Set p0_g.Least p0_g.Most)) || (m_governor_out p0_g.Droop 1 10000)) || (m_governor_out p0_g.Band 0 10000)) || (m_governor_out p0_g.Ramp 0 100000))); simp only [hb109, hb110, hb111, hb112, hb113, Bool.and_true, Bool.true_and, Bool.false_and, Bool.and_false, Bool.or_true, Bool.true_or, Bool.or_false, Bool.false_or, Bool.not_true, Bool.not_false]), trivial⟩
          · refine W_no rfl rfl rfl ?_
            refine W_no rfl rfl rfl ?_
            refine W_no rfl rfl rfl ?_
            refine W_pick rfl rfl rfl rfl ?_
            refine W_move rfl rfl rfl ?_
            refine W_no rfl rfl rfl ?_
            refine W_no rfl rfl rfl ?_
            refine W_no rfl rfl rfl ?_
            refine W_pick rfl rfl rfl rfl ?_
            refine W_end ?_
            refine E_drop (List.Sublist.cons _ (List.Sublist.refl _)) ?_
            exact E_keepJ (J107 _ _ _ ⟨rfl, rfl, rfl⟩) (List.Perm.refl _) ⟨(by show some (Value.bool (true)) = some (Value.bool ((((((m_governor_out p0_g.Least 0 p0_g.Most) || (decide (100000 < p0_g.Most))) || (m_governor_out p0_g.Set p0_g.Least p0_g.Most)) || (m_governor_out p0_g.Droop 1 10000)) || (m_governor_out p0_g.Band 0 10000)) || (m_governor_out p0_g.Ramp 0 100000))); simp only [hb109, hb110, hb111, hb112, Bool.and_true, Bool.true_and, Bool.false_and, Bool.and_false, Bool.or_true, Bool.true_or, Bool.or_false, Bool.false_or, Bool.not_true, Bool.not_false]), trivial⟩
        · refine W_no rfl rfl rfl ?_
          refine W_no rfl rfl rfl ?_
          refine W_no rfl rfl rfl ?_
          refine W_pick rfl rfl rfl rfl ?_
          refine W_move rfl rfl rfl ?_
          refine W_no rfl rfl rfl ?_
          refine W_no rfl rfl rfl ?_
          refine W_no rfl rfl rfl ?_
          refine W_pick rfl rfl rfl rfl ?_
          refine W_move rfl rfl rfl ?_
          refine W_no rfl rfl rfl ?_
          refine W_no rfl rfl rfl ?_
          refine W_no rfl rfl rfl ?_
          refine W_pick rfl rfl rfl rfl ?_
          refine W_end ?_
          refine E_drop (List.Sublist.cons _ (List.Sublist.refl _)) ?_
          exact E_keepJ (J107 _ _ _ ⟨rfl, rfl, rfl⟩) (List.Perm.refl _) ⟨(by show some (Value.bool (true)) = some (Value.bool ((((((m_governor_out p0_g.Least 0 p0_g.Most) || (decide (100000 < p0_g.Most))) || (m_governor_out p0_g.Set p0_g.Least p0_g.Most)) || (m_governor_out p0_g.Droop 1 10000)) || (m_governor_out p0_g.Band 0 10000)) || (m_governor_out p0_g.Ramp 0 100000))); simp only [hb109, hb110, hb111, Bool.and_true, Bool.true_and, Bool.false_and, Bool.and_false, Bool.or_true, Bool.true_or, Bool.or_false, Bool.false_or, Bool.not_true, Bool.not_false]), trivial⟩
      · refine W_no rfl rfl rfl ?_
        refine W_no rfl rfl rfl ?_
        refine W_no rfl rfl rfl ?_
        refine W_no rfl rfl rfl ?_
        refine W_no rfl rfl rfl ?_
        refine W_no rfl rfl rfl ?_
        refine W_no rfl rfl rfl ?_
        refine W_pick rfl rfl rfl rfl ?_
        refine W_move rfl rfl rfl ?_
        refine W_no rfl rfl rfl ?_
        refine W_no rfl rfl rfl ?_
        refine W_no rfl rfl rfl ?_
        refine W_pick rfl rfl rfl rfl ?_
        refine W_move rfl rfl rfl ?_
        refine W_no rfl rfl rfl ?_
        refine W_no rfl rfl rfl ?_
        refine W_no rfl rfl rfl ?_
        refine W_pick rfl rfl rfl rfl ?_
        refine W_move rfl rfl rfl ?_
        refine W_no rfl rfl rfl ?_
        refine W_no rfl rfl rfl ?_
        refine W_no rfl rfl rfl ?_
        refine W_pick rfl rfl rfl rfl ?_
        refine W_end ?_
        refine E_drop (List.Sublist.cons _ (List.Sublist.refl _)) ?_
        exact E_keepJ (J107 _ _ _ ⟨rfl, rfl, rfl⟩) (List.Perm.refl _) ⟨(by show some (Value.bool (true)) = some (Value.bool ((((((m_governor_out p0_g.Least 0 p0_g.Most) || (decide (100000 < p0_g.Most))) || (m_governor_out p0_g.Set p0_g.Least p0_g.Most)) || (m_governor_out p0_g.Droop 1 10000)) || (m_governor_out p0_g.Band 0 10000)) || (m_governor_out p0_g.Ramp 0 100000))); simp only [hb109, hb110, Bool.and_true, Bool.true_and, Bool.false_and, Bool.and_false, Bool.or_true, Bool.true_or, Bool.or_false, Bool.false_or, Bool.not_true, Bool.not_false]), trivial⟩
    · refine W_no rfl rfl rfl ?_
      refine W_no rfl rfl rfl ?_
      refine W_no rfl rfl rfl ?_
      refine W_pick rfl rfl rfl rfl ?_
      refine W_move rfl rfl rfl ?_
      refine W_no rfl rfl rfl ?_
      refine W_no rfl rfl rfl ?_
      refine W_no rfl rfl rfl ?_
      refine W_no rfl rfl rfl ?_
      refine W_no rfl rfl rfl ?_
      refine W_no rfl rfl rfl ?_
      refine W_no rfl rfl rfl ?_
      refine W_pick rfl rfl rfl rfl ?_
      refine W_move rfl rfl rfl ?_
      refine W_no rfl rfl rfl ?_
      refine W_no rfl rfl rfl ?_
      refine W_no rfl rfl rfl ?_
      refine W_pick rfl rfl rfl rfl ?_
      refine W_move rfl rfl rfl ?_
      refine W_no rfl rfl rfl ?_
      refine W_no rfl rfl rfl ?_
      refine W_no rfl rfl rfl ?_
      refine W_pick rfl rfl rfl rfl ?_
      refine W_move rfl rfl rfl ?_
      refine W_no rfl rfl rfl ?_
      refine W_no rfl rfl rfl ?_
      refine W_no rfl rfl rfl ?_
      refine W_pick rfl rfl rfl rfl ?_
      refine W_end ?_
      refine E_drop (List.Sublist.cons _ (List.Sublist.refl _)) ?_
      exact E_keepJ (J107 _ _ _ ⟨rfl, rfl, rfl⟩) (List.Perm.refl _) ⟨(by show some (Value.bool (true)) = some (Value.bool ((((((m_governor_out p0_g.Least 0 p0_g.Most) || (decide (100000 < p0_g.Most))) || (m_governor_out p0_g.Set p0_g.Least p0_g.Most)) || (m_governor_out p0_g.Droop 1 10000)) || (m_governor_out p0_g.Band 0 10000)) || (m_governor_out p0_g.Ramp 0 100000))); simp only [hb109, Bool.and_true, Bool.true_and, Bool.false_and, Bool.and_false, Bool.or_true, Bool.true_or, Bool.or_false, Bool.false_or, Bool.not_true, Bool.not_false]), trivial⟩

theorem m_governor_target_c {B : Nat} {w0 w : World} {H : Hp} {M : List Res} {p0_g : S_api_GovernorSetup} {p1_f : Int} {r : Int} (hm : m_governor_target p0_g p1_f = some r) (ht : St B w0 H M w) :
    Calls Proofs.Try.prog 26 [.agg [.int .i64 (p0_g.Set), .int .i64 (p0_g.Least), .int .i64 (p0_g.Most), .int .i64 (p0_g.Droop), .int .i64 (p0_g.Band), .int .i64 (p0_g.Ramp)].toArray, .int .i64 (p1_f)].toArray w (Ret B w0 fun H' M' v => H = H' ∧ M = M' ∧ v = .int .i64 (r)) := by
  unfold m_governor_target at hm
  refine enter Proofs.Try.func26 rfl rfl rfl ht ?_
  refine C_seq ?_
  refine C_region ?_
  refine W_box (cs := [.int .i64 (p0_g.Set), .int .i64 (p0_g.Least), .int .i64 (p0_g.Most), .int .i64 (p0_g.Droop), .int .i64 (p0_g.Band), .int .i64 (p0_g.Ramp)]) rfl rfl rfl rfl (fun b101 => ?_)
  refine W_assign rfl rfl rfl ?_
  refine W_end ?_
  refine E_then ?_
  refine C_seq ?_
  refine C_region ?_
  refine W_assign rfl rfl rfl ?_
  refine W_end ?_
  refine E_then ?_
  refine C_seq_join (fun H' M' L' => ∃ n104 : Int, m_governor_target_b1 p0_g n104 = some r ∧ H = H' ∧ .obj b101 (.cells [.int .i64 (p0_g.Set), .int .i64 (p0_g.Least), .int .i64 (p0_g.Most), .int .i64 (p0_g.Droop), .int .i64 (p0_g.Band), .int .i64 (p0_g.Ramp)].toArray 23 (0, 0)) :: M = M' ∧ [(2, .pointer (some ⟨b101, 0, none⟩)), (5, .int .i64 (n104))] = L') ?_ (fun J105 => ?_)
  · rintro _ _ _ ⟨n104, hm, rfl, rfl, rfl⟩
    unfold m_governor_target_b1 at hm
    refine C_seq ?_
    obtain ⟨hq106, hm⟩ := need_some hm
    refine C_region_any 13 (phi [(fun _ v => v = .pointer (some ⟨b101, 0, none⟩)), (fun _ v => v = .int .i64 (p0_g.Set)), (fun _ v => v = .int .i64 (n104)), (fun _ v => v = .pointer (some ⟨b101, 3, none⟩)), (fun _ v => v = .int .i64 (p0_g.Droop)), (fun _ v => v = .int .i64 (IntKind.i64.wrap (Int.tdiv n104 p0_g.Droop))), (fun _ v => v = .int .i64 (IntKind.i64.wrap (p0_g.Set - (IntKind.i64.wrap (Int.tdiv n104 p0_g.Droop))))), (fun _ v => v = .pointer (some ⟨b101, 1, none⟩)), (fun _ v => v = .int .i64 (p0_g.Least)), (fun _ v => v = .int .i64 (max (IntKind.i64.wrap (p0_g.Set - (IntKind.i64.wrap (Int.tdiv n104 p0_g.Droop)))) p0_g.Least)), (fun _ v => v = .pointer (some ⟨b101, 2, none⟩)), (fun _ v => v = .int .i64 (p0_g.Most)), (fun _ v => v = .int .i64 (min (max (IntKind.i64.wrap (p0_g.Set - (IntKind.i64.wrap (Int.tdiv n104 p0_g.Droop)))) p0_g.Least) p0_g.Most))]) Facts.mixed (by kernel_rfl) rfl rfl rfl (phi_mono ⟨eq_mono _, eq_mono _, eq_mono _, eq_mono _, eq_mono _, eq_mono _, eq_mono _, eq_mono _, eq_mono _, eq_mono _, eq_mono _, eq_mono _, eq_mono _, trivial⟩) ⟨?_, ?_, ?_, ?_, ?_, ?_, ?_, ?_, ?_, ?_, ?_, ?_, ?_, trivial⟩ ?_
    · intro HX hX X
      refine W_field (o := 0) rfl rfl Proofs.Try.runUnderlying23 rfl Proofs.Try.sizeOf3 rfl rfl rfl ?_
      exact W_end (One_end (Hp.le_refl _) rfl)
    · intro HX hX X
      rintro _ rfl
      refine W_load rfl rfl Proofs.Try.isAgg3 rfl (own_at (List.mem_cons_self ..) rfl) ?_
      exact W_end (One_end (Hp.le_refl _) rfl)
    · intro HX hX X
      refine W_move rfl rfl rfl ?_
      exact W_end (One_end (Hp.le_refl _) rfl)
    · intro HX hX X
      refine W_field (o := 3) rfl rfl Proofs.Try.runUnderlying23 rfl Proofs.Try.sizeOf3 rfl rfl rfl ?_
      exact W_end (One_end (Hp.le_refl _) rfl)
    · intro HX hX X
      rintro _ rfl
      refine W_load rfl rfl Proofs.Try.isAgg3 rfl (own_at (List.mem_cons_self ..) rfl) ?_
      exact W_end (One_end (Hp.le_refl _) rfl)
    · intro HX hX X
      rintro _ rfl
      rintro _ rfl
      refine W_quo rfl rfl rfl rfl hq106 ?_
      exact W_end (One_end (Hp.le_refl _) rfl)
    · intro HX hX X
      rintro _ rfl
      rintro _ rfl
      refine W_bin rfl rfl rfl rfl rfl ?_
      exact W_end (One_end (Hp.le_refl _) rfl)
    · intro HX hX X
      refine W_field (o := 1) rfl rfl Proofs.Try.runUnderlying23 rfl Proofs.Try.sizeOf3 rfl rfl rfl ?_
      exact W_end (One_end (Hp.le_refl _) rfl)
    · intro HX hX X
      rintro _ rfl
      refine W_load rfl rfl Proofs.Try.isAgg3 rfl (own_at (List.mem_cons_self ..) rfl) ?_
      exact W_end (One_end (Hp.le_refl _) rfl)
    · intro HX hX X
      rintro _ rfl
      rintro _ rfl
      refine W_max rfl rfl rfl rfl ?_
      exact W_end (One_end (Hp.le_refl _) rfl)
    · intro HX hX X
      refine W_field (o := 2) rfl rfl Proofs.Try.runUnderlying23 rfl Proofs.Try.sizeOf3 rfl rfl rfl ?_
      exact W_end (One_end (Hp.le_refl _) rfl)
    · intro HX hX X
      rintro _ rfl
      refine W_load rfl rfl Proofs.Try.isAgg3 rfl (own_at (List.mem_cons_self ..) rfl) ?_
      exact W_end (One_end (Hp.le_refl _) rfl)
    · intro HX hX X
      rintro _ rfl
      rintro _ rfl
      refine W_min rfl rfl rfl rfl ?_
      exact W_end (One_end (Hp.le_refl _) rfl)
    intro H107 hle108
    rintro _ rfl
    rintro _ rfl
    rintro _ rfl
    rintro _ rfl
    rintro _ rfl
    rintro _ rfl
    rintro _ rfl
    rintro _ rfl
    rintro _ rfl
    rintro _ rfl
    rintro _ rfl
    rintro _ rfl
    rintro _ rfl
    refine W_assign rfl rfl rfl ?_
    refine W_end ?_
    refine E_then ?_
    refine C_ret ?_
    obtain rfl := Option.some.inj hm
    refine E_drop (List.Sublist.cons _ (List.Sublist.refl _)) ?_
    exact end1_s rfl rfl hle108 rfl
  · refine C_block ?_
    refine C_seq ?_
    refine C_region ?_
    refine W_move rfl rfl rfl ?_
    refine W_field (o := 4) rfl rfl Proofs.Try.runUnderlying23 rfl Proofs.Try.sizeOf3 rfl rfl rfl ?_
    refine W_load rfl rfl Proofs.Try.isAgg3 rfl (own_at (List.mem_cons_self ..) rfl) ?_
    refine W_bin rfl rfl rfl rfl rfl ?_
    refine W_assign rfl rfl rfl ?_
    refine W_end ?_
    refine E_then ?_
    refine C_cond (b := decide (p0_g.Band < p1_f)) rfl (fun hb109 => ?_) (fun hb109 => ?_)
    · have hm := ite_t' hb109 hm
      refine C_region ?_
      refine W_move rfl rfl rfl ?_
      refine W_field (o := 4) rfl rfl Proofs.Try.runUnderlying23 rfl Proofs.Try.sizeOf3 rfl rfl rfl ?_
      refine W_load rfl rfl Proofs.Try.isAgg3 rfl (own_at (List.mem_cons_self ..) rfl) ?_
      refine W_bin rfl rfl rfl rfl rfl ?_
      refine W_assign rfl rfl rfl ?_
      refine W_end ?_
      refine E_normal_block ?_
      exact E_keepJ (J105 _ _ _ ⟨IntKind.i64.wrap (p1_f - p0_g.Band), hm, rfl, rfl, rfl⟩) (List.Perm.refl _) ⟨rfl, rfl, trivial⟩
    · have hm := ite_f' hb109 hm
      refine C_seq ?_
      refine C_region ?_
      refine W_move rfl rfl rfl ?_
      refine W_field (o := 4) rfl rfl Proofs.Try.runUnderlying23 rfl Proofs.Try.sizeOf3 rfl rfl rfl ?_
      refine W_load rfl rfl Proofs.Try.isAgg3 rfl (own_at (List.mem_cons_self ..) rfl) ?_
      refine W_un rfl rfl rfl rfl ?_
      refine W_bin rfl rfl rfl rfl rfl ?_
      refine W_assign rfl rfl rfl ?_
      refine W_end ?_
      refine E_then ?_
      refine C_cond (b := decide (p1_f < (IntKind.i64.wrap (0 - p0_g.Band)))) rfl (fun hb110 => ?_) (fun hb110 => ?_)
      · have hm := ite_t' hb110 hm
        refine C_region ?_
        refine W_move rfl rfl rfl ?_
        refine W_field (o := 4) rfl rfl Proofs.Try.runUnderlying23 rfl Proofs.Try.sizeOf3 rfl rfl rfl ?_
        refine W_load rfl rfl Proofs.Try.isAgg3 rfl (own_at (List.mem_cons_self ..) rfl) ?_
        refine W_bin rfl rfl rfl rfl rfl ?_
        refine W_assign rfl rfl rfl ?_
        refine W_end ?_
        refine E_normal_block ?_
        exact E_keepJ (J105 _ _ _ ⟨IntKind.i64.wrap (p1_f + p0_g.Band), hm, rfl, rfl, rfl⟩) (List.Perm.refl _) ⟨rfl, rfl, trivial⟩
      · have hm := ite_f' hb110 hm
        refine C_skip ?_
        refine E_normal_block ?_
        exact E_keepJ (J105 _ _ _ ⟨0, hm, rfl, rfl, rfl⟩) (List.Perm.refl _) ⟨rfl, rfl, trivial⟩

theorem m_governor_Target_c {B : Nat} {w0 w : World} {H : Hp} {M : List Res} {p0_g : S_api_GovernorSetup} {p1_f : Int} {r : Int × Int} (hm : m_governor_Target p0_g p1_f = some r) (ht : St B w0 H M w) :
    Calls Proofs.Try.prog 10 [.agg [.int .i64 (p0_g.Set), .int .i64 (p0_g.Least), .int .i64 (p0_g.Most), .int .i64 (p0_g.Droop), .int .i64 (p0_g.Band), .int .i64 (p0_g.Ramp)].toArray, .int .i64 (p1_f)].toArray w (Ret B w0 fun H' M' v => H = H' ∧ M = M' ∧ v = .tuple #[.int .i64 (r.1), .int .i64 (r.2)]) := by
  unfold m_governor_Target at hm
  refine enter Proofs.Try.func10 rfl rfl rfl ht ?_
  refine C_seq ?_
  refine C_region ?_
  refine W_box (cs := [.int .i64 (p0_g.Set), .int .i64 (p0_g.Least), .int .i64 (p0_g.Most), .int .i64 (p0_g.Droop), .int .i64 (p0_g.Band), .int .i64 (p0_g.Ramp)]) rfl rfl rfl rfl (fun b101 => ?_)
  refine W_assign rfl rfl rfl ?_
  refine W_assign rfl rfl rfl ?_
  refine W_end ?_
  refine E_then ?_
  refine C_seq ?_
  refine C_seq ?_
  refine C_region ?_
  refine W_loadAgg rfl rfl Proofs.Try.isAgg23 Proofs.Try.sizeOf23 rfl (own_all (List.mem_cons_self ..)) rfl ?_
  refine W_call Proofs.Try.call24 rfl rfl rfl (fun w ht => by have h := m_governor_Check_c (hm := (rfl : m_governor_Check p0_g = _))  ht; exact h) ?_
  rintro _ _ _ ⟨rfl, rfl, rfl⟩
  refine W_assign rfl rfl rfl ?_
  refine W_end ?_
  refine E_then ?_
  refine C_seq ?_
  refine C_region ?_
  refine W_move rfl rfl rfl ?_
  refine W_bin rfl rfl rfl rfl rfl ?_
  refine W_end ?_
  refine E_then ?_
  refine C_cond (b := !decide ((m_governor_Check p0_g) = 0)) rfl (fun hb102 => ?_) (fun hb102 => ?_)
  · have hm := ite_t' hb102 hm
    refine C_seq ?_
    refine C_region ?_
    refine W_move rfl rfl rfl ?_
    refine W_assign rfl rfl rfl ?_
    refine W_assign rfl rfl rfl ?_
    refine W_end ?_
    refine E_then ?_
    refine C_ret ?_
    refine E_ret_then ?_
    obtain rfl := Option.some.inj hm
    refine E_drop (List.Sublist.cons _ (List.Sublist.refl _)) ?_
    exact end2_s rfl rfl rfl (Hp.le_refl _) rfl
  · have hm := ite_f' hb102 hm
    refine C_skip ?_
    refine E_then ?_
    refine C_seq ?_
    refine C_seq ?_
    refine C_region ?_
    refine W_move rfl rfl rfl ?_
    refine W_call Proofs.Try.call25 rfl rfl rfl (fun w ht => by have h := m_governor_wrong_c (hm := (rfl : m_governor_wrong p1_f = _))  ht; exact h) ?_
    rintro _ _ _ ⟨rfl, rfl, rfl⟩
    refine W_end ?_
    refine E_then ?_
    refine C_cond (b := (m_governor_wrong p1_f)) rfl (fun hb103 => ?_) (fun hb103 => ?_)
    · have hm := ite_t' hb103 hm
      refine C_seq ?_
      refine C_region ?_
      refine W_assign rfl rfl rfl ?_
      refine W_assign rfl rfl rfl ?_
      refine W_end ?_
      refine E_then ?_
      refine C_ret ?_
      refine E_ret_then ?_
      obtain rfl := Option.some.inj hm
      refine E_drop (List.Sublist.cons _ (List.Sublist.refl _)) ?_
      exact end2_s rfl rfl rfl (Hp.le_refl _) rfl
    · have hm := ite_f' hb103 hm
      refine C_skip ?_
      refine E_then ?_
      refine C_seq ?_
      refine C_region ?_
      refine W_loadAgg rfl rfl Proofs.Try.isAgg23 Proofs.Try.sizeOf23 rfl (own_all (List.mem_cons_self ..)) rfl ?_
      refine W_move rfl rfl rfl ?_
      obtain ⟨r104, hc105, hm⟩ := bind_some hm
      refine W_call Proofs.Try.call26 rfl rfl rfl (fun w ht => by have h := m_governor_target_c (hm := hc105)  ht; exact h) ?_
      rintro _ _ _ ⟨rfl, rfl, rfl⟩
      refine W_assign rfl rfl rfl ?_
      refine W_assign rfl rfl rfl ?_
      refine W_end ?_
      refine E_then ?_
      refine C_ret ?_
      obtain rfl := Option.some.inj hm
      refine E_drop (List.Sublist.cons _ (List.Sublist.refl _)) ?_
      exact end2_s rfl rfl rfl (Hp.le_refl _) rfl

theorem m_governor_Next_c {B : Nat} {w0 w : World} {H : Hp} {M : List Res} {p0_g : S_api_GovernorSetup} {now : Int} {p2_f : Int} {r : Int × Int} (hm : m_governor_Next p0_g now p2_f = some r) (ht : St B w0 H M w) :
    Calls Proofs.Try.prog 14 [.agg [.int .i64 (p0_g.Set), .int .i64 (p0_g.Least), .int .i64 (p0_g.Most), .int .i64 (p0_g.Droop), .int .i64 (p0_g.Band), .int .i64 (p0_g.Ramp)].toArray, .int .i64 (now), .int .i64 (p2_f)].toArray w (Ret B w0 fun H' M' v => H = H' ∧ M = M' ∧ v = .tuple #[.int .i64 (r.1), .int .i64 (r.2)]) := by
  unfold m_governor_Next at hm
  refine enter Proofs.Try.func14 rfl rfl rfl ht ?_
  refine C_seq ?_
  refine C_region ?_
  refine W_box (cs := [.int .i64 (p0_g.Set), .int .i64 (p0_g.Least), .int .i64 (p0_g.Most), .int .i64 (p0_g.Droop), .int .i64 (p0_g.Band), .int .i64 (p0_g.Ramp)]) rfl rfl rfl rfl (fun b101 => ?_)
  refine W_assign rfl rfl rfl ?_
  refine W_assign rfl rfl rfl ?_
  refine W_end ?_
  refine E_then ?_
  refine C_seq ?_
  refine C_region ?_
  refine W_loadAgg rfl rfl Proofs.Try.isAgg23 Proofs.Try.sizeOf23 rfl (own_all (List.mem_cons_self ..)) rfl ?_
  refine W_move rfl rfl rfl ?_
  obtain ⟨r102, hc103, hm⟩ := bind_some hm
  refine W_call Proofs.Try.call10 rfl rfl rfl (fun w ht => by have h := m_governor_Target_c (hm := hc103)  ht; exact h) ?_
  rintro _ _ _ ⟨rfl, rfl, rfl⟩
  refine W_move rfl rfl rfl ?_
  refine W_extract rfl rfl rfl rfl ?_
  refine W_extract rfl rfl rfl rfl ?_
  refine W_assign rfl rfl rfl ?_
  refine W_assign rfl rfl rfl ?_
  refine W_end ?_
  refine E_then ?_
  refine C_seq ?_
  refine C_block ?_
  refine C_seq ?_
  refine C_region ?_
  refine W_move rfl rfl rfl ?_
  refine W_bin rfl rfl rfl rfl rfl ?_
  refine W_assign rfl rfl rfl ?_
  refine W_end ?_
  refine E_then ?_
  refine C_cond (b := !decide (r102.2 = 0)) rfl (fun hb104 => ?_) (fun hb104 => ?_)
  · have hm := ite_t' hb104 hm
    refine C_seq ?_
    refine C_region ?_
    refine W_move rfl rfl rfl ?_
    refine W_assign rfl rfl rfl ?_
    refine W_assign rfl rfl rfl ?_
    refine W_end ?_
    refine E_then ?_
    refine C_ret ?_
    refine E_ret_block ?_
    refine E_ret_then ?_
    obtain rfl := Option.some.inj hm
    refine E_drop (List.Sublist.cons _ (List.Sublist.refl _)) ?_
    exact end2_s rfl rfl rfl (Hp.le_refl _) rfl
  · have hm := ite_f' hb104 hm
    refine C_seq ?_
    refine C_region ?_
    refine W_move rfl rfl rfl ?_
    refine W_field (o := 1) rfl rfl Proofs.Try.runUnderlying23 rfl Proofs.Try.sizeOf3 rfl rfl rfl ?_
    refine W_load rfl rfl Proofs.Try.isAgg3 rfl (own_at (List.mem_cons_self ..) rfl) ?_
    refine W_field (o := 2) rfl rfl Proofs.Try.runUnderlying23 rfl Proofs.Try.sizeOf3 rfl rfl rfl ?_
    refine W_load rfl rfl Proofs.Try.isAgg3 rfl (own_at (List.mem_cons_self ..) rfl) ?_
    refine W_call Proofs.Try.call29 rfl rfl rfl (fun w ht => by have h := m_governor_out_c (hm := (rfl : m_governor_out now p0_g.Least p0_g.Most = _))  ht; exact h) ?_
    rintro _ _ _ ⟨rfl, rfl, rfl⟩
    refine W_assign rfl rfl rfl ?_
    refine W_end ?_
    refine E_then ?_
    refine C_cond (b := (m_governor_out now p0_g.Least p0_g.Most)) rfl (fun hb105 => ?_) (fun hb105 => ?_)
    · have hm := ite_t' hb105 hm
      refine C_seq ?_
      refine C_region ?_
      refine W_assign rfl rfl rfl ?_
      refine W_assign rfl rfl rfl ?_
      refine W_end ?_
      refine E_then ?_
      refine C_ret ?_
      refine E_ret_block ?_
      refine E_ret_then ?_
      obtain rfl := Option.some.inj hm
      refine E_drop (List.Sublist.cons _ (List.Sublist.refl _)) ?_
      exact end2_s rfl rfl rfl (Hp.le_refl _) rfl
    · have hm := ite_f' hb105 hm
      refine C_skip ?_
      refine E_normal_block ?_
      refine E_then ?_
      refine C_seq ?_
      refine C_region ?_
      refine W_move rfl rfl rfl ?_
      refine W_move rfl rfl rfl ?_
      refine W_field (o := 5) rfl rfl Proofs.Try.runUnderlying23 rfl Proofs.Try.sizeOf3 rfl rfl rfl ?_
      refine W_load rfl rfl Proofs.Try.isAgg3 rfl (own_at (List.mem_cons_self ..) rfl) ?_
      refine W_bin rfl rfl rfl rfl rfl ?_
      refine W_max rfl rfl rfl rfl ?_
      refine W_move rfl rfl rfl ?_
      refine W_field (o := 5) rfl rfl Proofs.Try.runUnderlying23 rfl Proofs.Try.sizeOf3 rfl rfl rfl ?_
      refine W_load rfl rfl Proofs.Try.isAgg3 rfl (own_at (List.mem_cons_self ..) rfl) ?_
      refine W_bin rfl rfl rfl rfl rfl ?_
      refine W_min rfl rfl rfl rfl ?_
      refine W_assign rfl rfl rfl ?_
      refine W_assign rfl rfl rfl ?_
      refine W_end ?_
      refine E_then ?_
      refine C_ret ?_
      obtain rfl := Option.some.inj hm
      refine E_drop (List.Sublist.cons _ (List.Sublist.refl _)) ?_
      exact end2_s rfl rfl rfl (Hp.le_refl _) rfl

theorem m_governor_check_c {B : Nat} {w0 w : World} {H : Hp} {M : List Res} {p0_l : (List S_api_GovernorSetup)} {v0 : Value} {r : Int} (hm : m_governor_check p0_l = some r) (h0 : RdS H v0 p0_l) (ht : St B w0 H M w) :
    Calls Proofs.Try.prog 27 [v0].toArray w (Ret B w0 fun H' M' v => H = H' ∧ M = M' ∧ v = .int .i64 (r)) := by
  unfold m_governor_check at hm
  refine enter Proofs.Try.func27 rfl rfl rfl ht ?_
  refine C_seq ?_
  refine C_region ?_
  refine W_assign rfl rfl rfl ?_
  refine W_end ?_
  refine E_then ?_
  refine C_seq ?_
  refine C_seq ?_
  refine C_region ?_
  refine W_move rfl rfl rfl ?_
  refine W_lenR rfl rfl Proofs.Try.runUnderlying30 rfl h0 ?_
  refine W_bin rfl rfl rfl rfl rfl ?_
  refine W_end ?_
  refine E_then ?_
  refine C_cond (b := decide (10 < (p0_l.length : Int))) rfl (fun hb101 => ?_) (fun hb101 => ?_)
  · have hm := ite_t' hb101 hm
    refine C_seq ?_
    refine C_region ?_
    refine W_assign rfl rfl rfl ?_
    refine W_end ?_
    refine E_then ?_
    refine C_ret ?_
    refine E_ret_then ?_
    obtain rfl := Option.some.inj hm
    exact end1_s rfl rfl (Hp.le_refl _) rfl
  · have hm := ite_f' hb101 hm
    refine C_skip ?_
    refine E_then ?_
    refine C_seq ?_
    refine C_seq ?_
    refine C_region ?_
    refine W_move rfl rfl rfl ?_
    refine W_lenR rfl rfl Proofs.Try.runUnderlying30 rfl h0 ?_
    refine W_move rfl rfl rfl ?_
    refine W_end ?_
    refine E_then ?_
    refine C_block ?_
    refine C_keep (L' := [(9, v0), (10, .int .i64 ((p0_l.length : Int))), (11, .int .i64 (((0 : Nat) : Int)))]) ⟨rfl, rfl, rfl, trivial⟩ (List.Perm.refl _) ?_
    refine C_loop (fun n H' M' L' => ∃ (k102 : Nat) (zs115' : List S_api_GovernorSetup), (p0_l).drop k102 = zs115' ∧ zs115'.length = n ∧ forI (fun k y s n => m_governor_check_b1 k y n) (fun _ => some 0) k102 zs115' () = some r ∧ H.le H' ∧ M = M' ∧ [(9, v0), (10, .int .i64 ((p0_l.length : Int))), (11, .int .i64 ((k102 : Int)))] = L') _ ⟨0, _, rfl, rfl, hm, (Hp.le_refl _), rfl, rfl⟩ ?_
    rintro _ H109 _ _ ⟨k102, zs115', hd117, rfl, hm, hle110, rfl, rfl⟩
    refine C_seq ?_
    refine C_region ?_
    refine W_bin rfl rfl rfl rfl rfl ?_
    refine W_end (E_then ?_)
    refine C_seq ?_
    refine C_cond (b := decide ((k102 : Int) < (p0_l.length : Int))) rfl (fun hb119 => ?_) (fun hb119 => ?_)
    · obtain ⟨y114, zs115, rfl, hy116, hd118⟩ := rng_t hd117 hb119
      have hm : m_governor_check_b1 k102 y114 (forI (fun k y s n => m_governor_check_b1 k y n) (fun _ => some 0) (k102 + 1) zs115) = some r := hm
      generalize hn112 : forI (fun k y s n => m_governor_check_b1 k y n) (fun _ => some 0) (k102 + 1) zs115 = nx111 at hm
      unfold m_governor_check_b1 at hm
      refine C_skip (E_then ?_)
      refine C_seq ?_
      refine C_block ?_
      refine C_seq ?_
      refine C_region ?_
      obtain ⟨_, ⟨rfl⟩, hc120⟩ := (h0).elem hy116
      refine W_indexS rfl rfl Proofs.Try.runUnderlying30 Proofs.Try.sizeOf23 rfl (h0.mono hle110) rfl (Int.natCast_nonneg _) hy116 ?_
      refine W_loadAgg rfl rfl Proofs.Try.isAgg23 Proofs.Try.sizeOf23 rfl (hc120.mono hle110).at rfl ?_
      refine W_alloc (cs := [.int .i64 (0), .int .i64 (0), .int .i64 (0), .int .i64 (0), .int .i64 (0), .int .i64 (0)]) rfl rfl Proofs.Try.zeroValue23 rfl (fun b121 => ?_)
      refine W_store (cs := [.int .i64 (y114.Set), .int .i64 (y114.Least), .int .i64 (y114.Most), .int .i64 (y114.Droop), .int .i64 (y114.Band), .int .i64 (y114.Ramp)]) (out := [.int .i64 (y114.Set), .int .i64 (y114.Least), .int .i64 (y114.Most), .int .i64 (y114.Droop), .int .i64 (y114.Band), .int .i64 (y114.Ramp)]) rfl Proofs.Try.sizeOf23 rfl rfl rfl rfl rfl (all_cons rfl (all_cons rfl (all_cons rfl (all_cons rfl (all_cons rfl (all_cons rfl all_nil)))))) (over_all rfl) ?_
      refine W_end ?_
      refine E_then ?_
      refine C_seq ?_
      refine C_region ?_
      refine W_loadAgg rfl rfl Proofs.Try.isAgg23 Proofs.Try.sizeOf23 rfl (own_all (List.mem_cons_self ..)) rfl ?_
      refine W_call Proofs.Try.call24 rfl rfl rfl (fun w ht => by have h := m_governor_Check_c (hm := (rfl : m_governor_Check y114 = _))  ht; exact h) ?_
      rintro _ _ _ ⟨rfl, rfl, rfl⟩
      refine W_assign rfl rfl rfl ?_
      refine W_end ?_
      refine E_then ?_
      refine C_seq ?_
      refine C_region ?_
      refine W_move rfl rfl rfl ?_
      refine W_bin rfl rfl rfl rfl rfl ?_
      refine W_end ?_
      refine E_then ?_
      refine C_cond (b := !decide ((m_governor_Check y114) = 0)) rfl (fun hb122 => ?_) (fun hb122 => ?_)
      · have hm := ite_t' hb122 hm
        refine C_seq ?_
        refine C_region ?_
        refine W_move rfl rfl rfl ?_
        refine W_assign rfl rfl rfl ?_
        refine W_end ?_
        refine E_then ?_
        refine C_ret ?_
        refine E_ret_block ?_
        refine E_ret_then ?_
        refine E_ret_then ?_
        refine E_ret_block ?_
        refine E_ret_then ?_
        obtain rfl := Option.some.inj hm
        refine E_drop (List.Sublist.cons _ (List.Sublist.refl _)) ?_
        exact end1_s rfl rfl hle110 rfl
      · have hm := ite_f' hb122 hm
        refine C_skip ?_
        refine E_normal_block ?_
        refine E_then ?_
        refine C_region ?_
        refine W_bin rfl rfl rfl rfl rfl ?_
        refine W_move rfl rfl rfl ?_
        refine W_end ?_
        refine E_drop (List.Sublist.cons _ (List.Sublist.refl _)) ?_
        exact E_keepJ (E_back (Nat.lt_succ_self _) ⟨k102 + 1, zs115, hd118, rfl, (by rw [hn112]; exact hm), hle110, rfl, rfl⟩) (List.Perm.refl _) ⟨rfl, rfl, (congrArg (fun z => some (Value.int .i64 z)) (i64_succ hy116 ((h0.mono hle110)).lenMax)), trivial⟩
    · obtain rfl := rng_f hd117 hb119
      have hm : (some 0) = some r := hm
      refine C_exit (E_exit_then ?_)
      refine E_exit_then ?_
      refine E_exit_hit ?_
      refine E_then ?_
      refine C_seq ?_
      refine C_region ?_
      refine W_assign rfl rfl rfl ?_
      refine W_end ?_
      refine E_then ?_
      refine C_ret ?_
      obtain rfl := Option.some.inj hm
      exact end1_s rfl rfl hle110 rfl

theorem m_governor_total_c {B : Nat} {w0 w : World} {H : Hp} {M : List Res} {p0_l : (List S_api_GovernorSetup)} {p1_f : Int} {v0 : Value} {r : Int} (hm : m_governor_total p0_l p1_f = some r) (h0 : RdS H v0 p0_l) (ht : St B w0 H M w) :
    Calls Proofs.Try.prog 28 [v0, .int .i64 (p1_f)].toArray w (Ret B w0 fun H' M' v => H = H' ∧ M = M' ∧ v = .int .i64 (r)) := by
  unfold m_governor_total at hm
  refine enter Proofs.Try.func28 rfl rfl rfl ht ?_
  refine C_seq ?_
  refine C_region ?_
  refine W_assign rfl rfl rfl ?_
  refine W_end ?_
  refine E_then ?_
  refine C_seq ?_
  refine C_region ?_
  refine W_assign rfl rfl rfl ?_
  refine W_end ?_
  refine E_then ?_
  refine C_seq ?_
  refine C_seq ?_
  refine C_region ?_
  refine W_move rfl rfl rfl ?_
  refine W_lenR rfl rfl Proofs.Try.runUnderlying30 rfl h0 ?_
  refine W_move rfl rfl rfl ?_
  refine W_end ?_
  refine E_then ?_
  refine C_block ?_
  refine C_keep (L' := [(1, .int .i64 (p1_f)), (5, .int .i64 (0)), (8, v0), (9, .int .i64 ((p0_l.length : Int))), (10, .int .i64 (((0 : Nat) : Int)))]) ⟨rfl, rfl, rfl, rfl, rfl, trivial⟩ (List.Perm.refl _) ?_
  refine C_loop (fun n H' M' L' => ∃ (k101 : Nat) (zs119' : List S_api_GovernorSetup), ∃ n112 : Int, (p0_l).drop k101 = zs119' ∧ zs119'.length = n ∧ forI (fun k y s n => m_governor_total_b1 p1_f k y s n) (fun s => some s) k101 zs119' n112 = some r ∧ H.le H' ∧ M = M' ∧ [(1, .int .i64 (p1_f)), (5, .int .i64 (n112)), (8, v0), (9, .int .i64 ((p0_l.length : Int))), (10, .int .i64 ((k101 : Int)))] = L') _ ⟨0, _, 0, rfl, rfl, hm, (Hp.le_refl _), rfl, rfl⟩ ?_
  rintro _ H113 _ _ ⟨k101, zs119', n112, hd121, rfl, hm, hle114, rfl, rfl⟩
  refine C_seq ?_
  refine C_region ?_
  refine W_bin rfl rfl rfl rfl rfl ?_
  refine W_end (E_then ?_)
  refine C_seq ?_
  refine C_cond (b := decide ((k101 : Int) < (p0_l.length : Int))) rfl (fun hb123 => ?_) (fun hb123 => ?_)
  · obtain ⟨y118, zs119, rfl, hy120, hd122⟩ := rng_t hd121 hb123
    have hm : m_governor_total_b1 p1_f k101 y118 n112 (forI (fun k y s n => m_governor_total_b1 p1_f k y s n) (fun s => some s) (k101 + 1) zs119) = some r := hm
    generalize hn116 : forI (fun k y s n => m_governor_total_b1 p1_f k y s n) (fun s => some s) (k101 + 1) zs119 = nx115 at hm
    unfold m_governor_total_b1 at hm
    refine C_skip (E_then ?_)
    refine C_seq ?_
    refine C_block ?_
    refine C_seq ?_
    refine C_region ?_
    obtain ⟨_, ⟨rfl⟩, hc124⟩ := (h0).elem hy120
    refine W_indexS rfl rfl Proofs.Try.runUnderlying30 Proofs.Try.sizeOf23 rfl (h0.mono hle114) rfl (Int.natCast_nonneg _) hy120 ?_
    refine W_loadAgg rfl rfl Proofs.Try.isAgg23 Proofs.Try.sizeOf23 rfl (hc124.mono hle114).at rfl ?_
    refine W_alloc (cs := [.int .i64 (0), .int .i64 (0), .int .i64 (0), .int .i64 (0), .int .i64 (0), .int .i64 (0)]) rfl rfl Proofs.Try.zeroValue23 rfl (fun b125 => ?_)
    refine W_store (cs := [.int .i64 (y118.Set), .int .i64 (y118.Least), .int .i64 (y118.Most), .int .i64 (y118.Droop), .int .i64 (y118.Band), .int .i64 (y118.Ramp)]) (out := [.int .i64 (y118.Set), .int .i64 (y118.Least), .int .i64 (y118.Most), .int .i64 (y118.Droop), .int .i64 (y118.Band), .int .i64 (y118.Ramp)]) rfl Proofs.Try.sizeOf23 rfl rfl rfl rfl rfl (all_cons rfl (all_cons rfl (all_cons rfl (all_cons rfl (all_cons rfl (all_cons rfl all_nil)))))) (over_all rfl) ?_
    refine W_end ?_
    refine E_then ?_
    refine C_region ?_
    refine W_move rfl rfl rfl ?_
    refine W_loadAgg rfl rfl Proofs.Try.isAgg23 Proofs.Try.sizeOf23 rfl (own_all (List.mem_cons_self ..)) rfl ?_
    refine W_move rfl rfl rfl ?_
    obtain ⟨r126, hc127, hm⟩ := bind_some hm
    refine W_call Proofs.Try.call26 rfl rfl rfl (fun w ht => by have h := m_governor_target_c (hm := hc127)  ht; exact h) ?_
    rintro _ _ _ ⟨rfl, rfl, rfl⟩
    refine W_bin rfl rfl rfl rfl rfl ?_
    refine W_assign rfl rfl rfl ?_
    refine W_end ?_
    refine E_normal_block ?_
    refine E_then ?_
    refine C_region ?_
    refine W_bin rfl rfl rfl rfl rfl ?_
    refine W_move rfl rfl rfl ?_
    refine W_end ?_
    refine E_drop (List.Sublist.cons _ (List.Sublist.refl _)) ?_
    exact E_keepJ (E_back (Nat.lt_succ_self _) ⟨k101 + 1, zs119, IntKind.i64.wrap (n112 + r126), hd122, rfl, (by rw [hn116]; exact hm), hle114, rfl, rfl⟩) (List.Perm.refl _) ⟨rfl, rfl, rfl, rfl, (congrArg (fun z => some (Value.int .i64 z)) (i64_succ hy120 ((h0.mono hle114)).lenMax)), trivial⟩
  · obtain rfl := rng_f hd121 hb123
    have hm : (some n112) = some r := hm
    refine C_exit (E_exit_then ?_)
    refine E_exit_then ?_
    refine E_exit_hit ?_
    refine E_then ?_
    refine C_seq ?_
    refine C_region ?_
    refine W_move rfl rfl rfl ?_
    refine W_assign rfl rfl rfl ?_
    refine W_end ?_
    refine E_then ?_
    refine C_ret ?_
    obtain rfl := Option.some.inj hm
    exact end1_s rfl rfl hle114 rfl

theorem m_governor_Total_c {B : Nat} {w0 w : World} {H : Hp} {M : List Res} {p0_l : (List S_api_GovernorSetup)} {p1_f : Int} {v0 : Value} {r : Int × Int} (hm : m_governor_Total p0_l p1_f = some r) (h0 : RdS H v0 p0_l) (ht : St B w0 H M w) :
    Calls Proofs.Try.prog 12 [v0, .int .i64 (p1_f)].toArray w (Ret B w0 fun H' M' v => H = H' ∧ M = M' ∧ v = .tuple #[.int .i64 (r.1), .int .i64 (r.2)]) := by
  unfold m_governor_Total at hm
  refine enter Proofs.Try.func12 rfl rfl rfl ht ?_
  refine C_seq ?_
  refine C_region ?_
  refine W_assign rfl rfl rfl ?_
  refine W_assign rfl rfl rfl ?_
  refine W_end ?_
  refine E_then ?_
  refine C_seq ?_
  refine C_seq ?_
  refine C_region ?_
  refine W_move rfl rfl rfl ?_
  obtain ⟨r101, hc102, hm⟩ := bind_some hm
  refine W_call Proofs.Try.call27 rfl rfl rfl (fun w ht => by have h := m_governor_check_c (hm := hc102) h0 ht; exact h) ?_
  rintro _ _ _ ⟨rfl, rfl, rfl⟩
  refine W_assign rfl rfl rfl ?_
  refine W_end ?_
  refine E_then ?_
  refine C_seq ?_
  refine C_region ?_
  refine W_move rfl rfl rfl ?_
  refine W_bin rfl rfl rfl rfl rfl ?_
  refine W_end ?_
  refine E_then ?_
  refine C_cond (b := !decide (r101 = 0)) rfl (fun hb103 => ?_) (fun hb103 => ?_)
  · have hm := ite_t' hb103 hm
    refine C_seq ?_
    refine C_region ?_
    refine W_move rfl rfl rfl ?_
    refine W_assign rfl rfl rfl ?_
    refine W_assign rfl rfl rfl ?_
    refine W_end ?_
    refine E_then ?_
    refine C_ret ?_
    refine E_ret_then ?_
    obtain rfl := Option.some.inj hm
    exact end2_s rfl rfl rfl (Hp.le_refl _) rfl
  · have hm := ite_f' hb103 hm
    refine C_skip ?_
    refine E_then ?_
    refine C_seq ?_
    refine C_seq ?_
    refine C_region ?_
    refine W_move rfl rfl rfl ?_
    refine W_call Proofs.Try.call25 rfl rfl rfl (fun w ht => by have h := m_governor_wrong_c (hm := (rfl : m_governor_wrong p1_f = _))  ht; exact h) ?_
    rintro _ _ _ ⟨rfl, rfl, rfl⟩
    refine W_end ?_
    refine E_then ?_
    refine C_cond (b := (m_governor_wrong p1_f)) rfl (fun hb104 => ?_) (fun hb104 => ?_)
    · have hm := ite_t' hb104 hm
      refine C_seq ?_
      refine C_region ?_
      refine W_assign rfl rfl rfl ?_
      refine W_assign rfl rfl rfl ?_
      refine W_end ?_
      refine E_then ?_
      refine C_ret ?_
      refine E_ret_then ?_
      obtain rfl := Option.some.inj hm
      exact end2_s rfl rfl rfl (Hp.le_refl _) rfl
    · have hm := ite_f' hb104 hm
      refine C_skip ?_
      refine E_then ?_
      refine C_seq ?_
      refine C_region ?_
      refine W_move rfl rfl rfl ?_
      refine W_move rfl rfl rfl ?_
      obtain ⟨r105, hc106, hm⟩ := bind_some hm
      refine W_call Proofs.Try.call28 rfl rfl rfl (fun w ht => by have h := m_governor_total_c (hm := hc106) h0 ht; exact h) ?_
      rintro _ _ _ ⟨rfl, rfl, rfl⟩
      refine W_assign rfl rfl rfl ?_
      refine W_assign rfl rfl rfl ?_
      refine W_end ?_
      refine E_then ?_
      refine C_ret ?_
      obtain rfl := Option.some.inj hm
      exact end2_s rfl rfl rfl (Hp.le_refl _) rfl

theorem m_governor_Settle_c {B : Nat} {w0 w : World} {H : Hp} {M : List Res} {p0_l : (List S_api_GovernorSetup)} {demand : Int} {v0 : Value} {r : Int × Int} (hm : m_governor_Settle p0_l demand = some r) (h0 : RdS H v0 p0_l) (ht : St B w0 H M w) :
    Calls Proofs.Try.prog 13 [v0, .int .i64 (demand)].toArray w (Ret B w0 fun H' M' v => H = H' ∧ M = M' ∧ v = .tuple #[.int .i64 (r.1), .int .i64 (r.2)]) := by
  unfold m_governor_Settle at hm
  refine enter Proofs.Try.func13 rfl rfl rfl ht ?_
  refine C_seq ?_
  refine C_region ?_
  refine W_assign rfl rfl rfl ?_
  refine W_assign rfl rfl rfl ?_
  refine W_end ?_
  refine E_then ?_
  refine C_seq ?_
  refine C_seq ?_
  refine C_region ?_
  refine W_move rfl rfl rfl ?_
  obtain ⟨r101, hc102, hm⟩ := bind_some hm
  refine W_call Proofs.Try.call27 rfl rfl rfl (fun w ht => by have h := m_governor_check_c (hm := hc102) h0 ht; exact h) ?_
  rintro _ _ _ ⟨rfl, rfl, rfl⟩
  refine W_assign rfl rfl rfl ?_
  refine W_end ?_
  refine E_then ?_
  refine C_seq ?_
  refine C_region ?_
  refine W_move rfl rfl rfl ?_
  refine W_bin rfl rfl rfl rfl rfl ?_
  refine W_end ?_
  refine E_then ?_
  refine C_cond (b := !decide (r101 = 0)) rfl (fun hb103 => ?_) (fun hb103 => ?_)
  · have hm := ite_t' hb103 hm
    refine C_seq ?_
    refine C_region ?_
    refine W_move rfl rfl rfl ?_
    refine W_assign rfl rfl rfl ?_
    refine W_assign rfl rfl rfl ?_
    refine W_end ?_
    refine E_then ?_
    refine C_ret ?_
    refine E_ret_then ?_
    obtain rfl := Option.some.inj hm
    exact end2_s rfl rfl rfl (Hp.le_refl _) rfl
  · have hm := ite_f' hb103 hm
    refine C_skip ?_
    refine E_then ?_
    refine C_seq ?_
    refine C_seq ?_
    refine C_region ?_
    refine W_assign rfl rfl rfl ?_
    refine W_end ?_
    refine E_then ?_
    refine C_block ?_
    refine C_keep (L' := [(0, v0), (1, .int .i64 (demand)), (7, .int .i64 (10000))]) ⟨rfl, rfl, rfl, trivial⟩ (List.Perm.refl _) ?_
    refine C_loop (fun n H' M' L' => ∃ n114 : Int, loopF (fun s n => m_governor_Settle_b1 p0_l demand s n) n n114 = some r ∧ H.le H' ∧ M = M' ∧ [(0, v0), (1, .int .i64 (demand)), (7, .int .i64 (n114))] = L') FUEL ⟨10000, hm, (Hp.le_refl _), rfl, rfl⟩ ?_
    rintro n119 H115 _ _ ⟨n114, hm, hle116, rfl, rfl⟩
    cases n119 with
    | zero => cases hm
    | succ n119 =>
      have hm : m_governor_Settle_b1 p0_l demand n114 (loopF (fun s n => m_governor_Settle_b1 p0_l demand s n) n119) = some r := hm
      generalize hn118 : loopF (fun s n => m_governor_Settle_b1 p0_l demand s n) n119 = nx117 at hm
      unfold m_governor_Settle_b1 at hm
      refine C_seq ?_
      refine C_seq ?_
      refine C_region ?_
      refine W_move rfl rfl rfl ?_
      refine W_bin rfl rfl rfl rfl rfl ?_
      refine W_end ?_
      refine E_then ?_
      refine C_cond (b := decide ((-10000) ≤ n114)) rfl (fun hb125 => ?_) (fun hb125 => ?_)
      · have hm := ite_t' hb125 hm
        refine C_skip ?_
        refine E_then ?_
        refine C_seq ?_
        refine C_block ?_
        refine C_seq ?_
        refine C_region ?_
        refine W_move rfl rfl rfl ?_
        refine W_move rfl rfl rfl ?_
        obtain ⟨r126, hc127, hm⟩ := bind_some hm
        refine W_call Proofs.Try.call28 rfl rfl rfl (fun w ht => by have h := m_governor_total_c (hm := hc127) (h0.mono hle116) ht; exact h) ?_
        rintro _ _ _ ⟨rfl, rfl, rfl⟩
        refine W_move rfl rfl rfl ?_
        refine W_bin rfl rfl rfl rfl rfl ?_
        refine W_end ?_
        refine E_then ?_
        refine C_cond (b := decide (demand ≤ r126)) rfl (fun hb128 => ?_) (fun hb128 => ?_)
        · have hm := ite_t' hb128 hm
          refine C_seq ?_
          refine C_region ?_
          refine W_move rfl rfl rfl ?_
          refine W_assign rfl rfl rfl ?_
          refine W_assign rfl rfl rfl ?_
          refine W_end ?_
          refine E_then ?_
          refine C_ret ?_
          refine E_ret_block ?_
          refine E_ret_then ?_
          refine E_ret_then ?_
          refine E_ret_block ?_
          refine E_ret_then ?_
          obtain rfl := Option.some.inj hm
          exact end2_s rfl rfl rfl hle116 rfl
        · have hm := ite_f' hb128 hm
          refine C_skip ?_
          refine E_normal_block ?_
          refine E_then ?_
          refine C_region ?_
          refine W_move rfl rfl rfl ?_
          refine W_bin rfl rfl rfl rfl rfl ?_
          refine W_assign rfl rfl rfl ?_
          refine W_end ?_
          exact E_keepJ (E_back (Nat.lt_succ_self _) ⟨IntKind.i64.wrap (n114 - 1), (by rw [hn118]; exact hm), hle116, rfl, rfl⟩) (List.Perm.refl _) ⟨rfl, rfl, rfl, trivial⟩
      · have hm := ite_f' hb125 hm
        refine C_exit ?_
        refine E_exit_then ?_
        refine E_exit_then ?_
        refine E_exit_hit ?_
        refine E_then ?_
        refine C_seq ?_
        refine C_region ?_
        refine W_assign rfl rfl rfl ?_
        refine W_assign rfl rfl rfl ?_
        refine W_end ?_
        refine E_then ?_
        refine C_ret ?_
        obtain rfl := Option.some.inj hm
        exact end2_s rfl rfl rfl hle116 rfl

theorem m_gridhallkeep4_governorFact_c {B : Nat} {w0 w : World} {H : Hp} {M : List Res} {r : Bool} (hm : m_gridhallkeep4_governorFact = some r) (ht : St B w0 H M w) :
    Calls Proofs.Try.prog 11 [].toArray w (Ret B w0 fun H' M' v => H = H' ∧ M = M' ∧ v = .bool (r)) := by
  unfold m_gridhallkeep4_governorFact at hm
  refine enter Proofs.Try.func11 rfl rfl rfl ht ?_
  refine C_seq ?_
  refine C_region ?_
  refine W_assign rfl rfl rfl ?_
  refine W_end ?_
  refine E_then ?_
  refine C_seq ?_
  refine C_region ?_
  refine W_build (css := [[.int .i64 (50)], [.int .i64 (100)], [.int .i64 (10)], [.int .i64 (20)]]) (zs := [.int .i64 (0), .int .i64 (0), .int .i64 (0), .int .i64 (0), .int .i64 (0), .int .i64 (0)]) (out := [.int .i64 (50), .int .i64 (0), .int .i64 (100), .int .i64 (10), .int .i64 (20), .int .i64 (0)]) (places := [(0, 1), (1, 1), (2, 1), (3, 1), (4, 1), (5, 1)]) rfl rfl rfl ⟨rfl, rfl, rfl, rfl, trivial⟩ Proofs.Try.zeroValue23 rfl Proofs.Try.runUnderlying23 (fun w => by kernel_rfl) rfl ?_
  refine W_alloc (cs := [.int .i64 (0), .int .i64 (0), .int .i64 (0), .int .i64 (0), .int .i64 (0), .int .i64 (0)]) rfl rfl Proofs.Try.zeroValue23 rfl (fun b101 => ?_)
  refine W_store (cs := [.int .i64 (50), .int .i64 (0), .int .i64 (100), .int .i64 (10), .int .i64 (20), .int .i64 (0)]) (out := [.int .i64 (50), .int .i64 (0), .int .i64 (100), .int .i64 (10), .int .i64 (20), .int .i64 (0)]) rfl Proofs.Try.sizeOf23 rfl rfl rfl rfl rfl (all_cons rfl (all_cons rfl (all_cons rfl (all_cons rfl (all_cons rfl (all_cons rfl all_nil)))))) (over_all rfl) ?_
  refine W_end ?_
  refine E_then ?_
  refine C_seq ?_
  refine C_region ?_
  refine W_loadAgg rfl rfl Proofs.Try.isAgg23 Proofs.Try.sizeOf23 rfl (own_all (List.mem_cons_self ..)) rfl ?_
  obtain ⟨r102, hc103, hm⟩ := bind_some hm
  refine W_call Proofs.Try.call10 rfl rfl rfl (fun w ht => by have h := m_governor_Target_c (hm := hc103)  ht; exact h) ?_
  rintro _ _ _ ⟨rfl, rfl, rfl⟩
  refine W_move rfl rfl rfl ?_
  refine W_extract rfl rfl rfl rfl ?_
  refine W_extract rfl rfl rfl rfl ?_
  refine W_assign rfl rfl rfl ?_
  refine W_assign rfl rfl rfl ?_
  refine W_end ?_
  refine E_then ?_
  refine C_seq ?_
  refine C_region ?_
  refine W_loadAgg rfl rfl Proofs.Try.isAgg23 Proofs.Try.sizeOf23 rfl (own_all (List.mem_cons_self ..)) rfl ?_
  refine W_buildSlice (α := S_api_GovernorSetup) (css := [[.int .i64 (50), .int .i64 (0), .int .i64 (100), .int .i64 (10), .int .i64 (20), .int .i64 (0)]]) (zs := [.int .i64 (0), .int .i64 (0), .int .i64 (0), .int .i64 (0), .int .i64 (0), .int .i64 (0)]) (out := [.int .i64 (50), .int .i64 (0), .int .i64 (100), .int .i64 (10), .int .i64 (20), .int .i64 (0)]) (ys := [(S_api_GovernorSetup.mk 50 0 100 10 20 0)]) rfl rfl rfl ⟨rfl, trivial⟩ Proofs.Try.runUnderlying30 Proofs.Try.sizeOf23 rfl Proofs.Try.zeroValue23 (by kernel_rfl) rfl rfl rfl rfl ⟨[.int .i64 (50), .int .i64 (0), .int .i64 (100), .int .i64 (10), .int .i64 (20), .int .i64 (0)], [], rfl, rfl, rfl⟩ rfl ?_
  intro b104 v105 H106 hv107 hle108 h109
  obtain ⟨r110, hc111, hm⟩ := bind_some hm
  refine W_call Proofs.Try.call13 rfl rfl rfl (fun w ht => by have h := m_governor_Settle_c (hm := hc111) h109 ht; exact h) ?_
  rintro _ _ _ ⟨rfl, rfl, rfl⟩
  refine W_move rfl rfl rfl ?_
  refine W_extract rfl rfl rfl rfl ?_
  refine W_extract rfl rfl rfl rfl ?_
  refine W_assign rfl rfl rfl ?_
  refine W_assign rfl rfl rfl ?_
  refine W_end ?_
  refine E_then ?_
  refine C_seq_join (fun H' M' L' => H106 = H' ∧ M = M' ∧ [(0, .bool ((((decide (r102.2 = 0)) && (decide (r110.2 = 0))) && (decide (r102.1 = 54))) && (decide (r110.1 = (-60)))))] = L') ?_ (fun J115 => ?_)
  · rintro _ _ _ ⟨rfl, rfl, rfl⟩
    refine C_ret ?_
    obtain rfl := Option.some.inj hm
    exact end1_s rfl rfl hle108 rfl
  · refine C_region ?_
    refine W_move rfl rfl rfl ?_
    refine W_bin rfl rfl rfl rfl rfl ?_
    refine W_move rfl rfl rfl ?_
    cases hb116 : (decide (r102.2 = 0))
    · refine W_no rfl rfl rfl ?_
      refine W_no rfl rfl rfl ?_
      refine W_pick rfl rfl rfl rfl ?_
      refine W_move rfl rfl rfl ?_
      refine W_no rfl rfl rfl ?_
      refine W_no rfl rfl rfl ?_
      refine W_pick rfl rfl rfl rfl ?_
      refine W_move rfl rfl rfl ?_
      refine W_no rfl rfl rfl ?_
      refine W_no rfl rfl rfl ?_
      refine W_pick rfl rfl rfl rfl ?_
      refine W_assign rfl rfl rfl ?_
      refine W_end ?_
      refine E_drop (List.Sublist.cons _ (List.Sublist.refl _)) ?_
      exact E_keepJ (J115 _ _ _ ⟨rfl, rfl, rfl⟩) (List.Perm.refl _) ⟨(by show some (Value.bool (false)) = some (Value.bool ((((decide (r102.2 = 0)) && (decide (r110.2 = 0))) && (decide (r102.1 = 54))) && (decide (r110.1 = (-60))))); simp only [hb116, Bool.and_true, Bool.true_and, Bool.false_and, Bool.and_false, Bool.or_true, Bool.true_or, Bool.or_false, Bool.false_or, Bool.not_true, Bool.not_false]), trivial⟩
    · refine W_move rfl rfl rfl ?_
      refine W_bin rfl rfl rfl rfl rfl ?_
      refine W_pick rfl rfl rfl rfl ?_
      refine W_move rfl rfl rfl ?_
      cases hb117 : (decide (r110.2 = 0))
      · refine W_no rfl rfl rfl ?_
        refine W_no rfl rfl rfl ?_
        refine W_pick rfl rfl rfl rfl ?_
        refine W_move rfl rfl rfl ?_
        refine W_no rfl rfl rfl ?_
        refine W_no rfl rfl rfl ?_
        refine W_pick rfl rfl rfl rfl ?_
        refine W_assign rfl rfl rfl ?_
        refine W_end ?_
        refine E_drop (List.Sublist.cons _ (List.Sublist.refl _)) ?_
        exact E_keepJ (J115 _ _ _ ⟨rfl, rfl, rfl⟩) (List.Perm.refl _) ⟨(by show some (Value.bool (false)) = some (Value.bool ((((decide (r102.2 = 0)) && (decide (r110.2 = 0))) && (decide (r102.1 = 54))) && (decide (r110.1 = (-60))))); simp only [hb116, hb117, Bool.and_true, Bool.true_and, Bool.false_and, Bool.and_false, Bool.or_true, Bool.true_or, Bool.or_false, Bool.false_or, Bool.not_true, Bool.not_false]), trivial⟩
      · refine W_move rfl rfl rfl ?_
        refine W_bin rfl rfl rfl rfl rfl ?_
        refine W_pick rfl rfl rfl rfl ?_
        refine W_move rfl rfl rfl ?_
        cases hb118 : (decide (r102.1 = 54))
        · refine W_no rfl rfl rfl ?_
          refine W_no rfl rfl rfl ?_
          refine W_pick rfl rfl rfl rfl ?_
          refine W_assign rfl rfl rfl ?_
          refine W_end ?_
          refine E_drop (List.Sublist.cons _ (List.Sublist.refl _)) ?_
          exact E_keepJ (J115 _ _ _ ⟨rfl, rfl, rfl⟩) (List.Perm.refl _) ⟨(by show some (Value.bool (false)) = some (Value.bool ((((decide (r102.2 = 0)) && (decide (r110.2 = 0))) && (decide (r102.1 = 54))) && (decide (r110.1 = (-60))))); simp only [hb116, hb117, hb118, Bool.and_true, Bool.true_and, Bool.false_and, Bool.and_false, Bool.or_true, Bool.true_or, Bool.or_false, Bool.false_or, Bool.not_true, Bool.not_false]), trivial⟩
        · refine W_move rfl rfl rfl ?_
          refine W_bin rfl rfl rfl rfl rfl ?_
          refine W_pick rfl rfl rfl rfl ?_
          refine W_assign rfl rfl rfl ?_
          refine W_end ?_
          refine E_drop (List.Sublist.cons _ (List.Sublist.refl _)) ?_
          exact E_keepJ (J115 _ _ _ ⟨rfl, rfl, rfl⟩) (List.Perm.refl _) ⟨(by show some (Value.bool (decide (r110.1 = (-60)))) = some (Value.bool ((((decide (r102.2 = 0)) && (decide (r110.2 = 0))) && (decide (r102.1 = 54))) && (decide (r110.1 = (-60))))); simp only [hb116, hb117, hb118, Bool.and_true, Bool.true_and, Bool.false_and, Bool.and_false, Bool.or_true, Bool.true_or, Bool.or_false, Bool.false_or, Bool.not_true, Bool.not_false]), trivial⟩

theorem m_gridhallkeep4_GovernorFalls_c {B : Nat} {w0 w : World} {H : Hp} {M : List Res} {p0_g : S_api_GovernorSetup} {p1_f : Int} {up : Int} {r : Bool} (hm : m_gridhallkeep4_GovernorFalls p0_g p1_f up = some r) (ht : St B w0 H M w) :
    Calls Proofs.Try.prog 3 [.agg [.int .i64 (p0_g.Set), .int .i64 (p0_g.Least), .int .i64 (p0_g.Most), .int .i64 (p0_g.Droop), .int .i64 (p0_g.Band), .int .i64 (p0_g.Ramp)].toArray, .int .i64 (p1_f), .int .i64 (up)].toArray w (Ret B w0 fun H' M' v => H = H' ∧ M = M' ∧ v = .bool (r)) := by
  unfold m_gridhallkeep4_GovernorFalls at hm
  refine enter Proofs.Try.func3 rfl rfl rfl ht ?_
  refine C_seq ?_
  refine C_region ?_
  refine W_box (cs := [.int .i64 (p0_g.Set), .int .i64 (p0_g.Least), .int .i64 (p0_g.Most), .int .i64 (p0_g.Droop), .int .i64 (p0_g.Band), .int .i64 (p0_g.Ramp)]) rfl rfl rfl rfl (fun b101 => ?_)
  refine W_assign rfl rfl rfl ?_
  refine W_end ?_
  refine E_then ?_
  refine C_seq ?_
  refine C_region ?_
  refine W_move rfl rfl rfl ?_
  obtain ⟨r102, hc103, hm⟩ := bind_some hm
  refine W_call Proofs.Try.call9 rfl rfl rfl (fun w ht => by have h := m_gridhallref4_Cut_c (hm := hc103)  ht; exact h) ?_
  rintro _ _ _ ⟨rfl, rfl, rfl⟩
  refine W_assign rfl rfl rfl ?_
  refine W_end ?_
  refine E_then ?_
  refine C_seq ?_
  refine C_region ?_
  refine W_move rfl rfl rfl ?_
  refine W_move rfl rfl rfl ?_
  refine W_bin rfl rfl rfl rfl rfl ?_
  obtain ⟨r104, hc105, hm⟩ := bind_some hm
  refine W_call Proofs.Try.call9 rfl rfl rfl (fun w ht => by have h := m_gridhallref4_Cut_c (hm := hc105)  ht; exact h) ?_
  rintro _ _ _ ⟨rfl, rfl, rfl⟩
  refine W_assign rfl rfl rfl ?_
  refine W_end ?_
  refine E_then ?_
  refine C_seq ?_
  refine C_region ?_
  refine W_loadAgg rfl rfl Proofs.Try.isAgg23 Proofs.Try.sizeOf23 rfl (own_all (List.mem_cons_self ..)) rfl ?_
  refine W_move rfl rfl rfl ?_
  obtain ⟨r106, hc107, hm⟩ := bind_some hm
  refine W_call Proofs.Try.call10 rfl rfl rfl (fun w ht => by have h := m_governor_Target_c (hm := hc107)  ht; exact h) ?_
  rintro _ _ _ ⟨rfl, rfl, rfl⟩
  refine W_move rfl rfl rfl ?_
  refine W_extract rfl rfl rfl rfl ?_
  refine W_extract rfl rfl rfl rfl ?_
  refine W_assign rfl rfl rfl ?_
  refine W_assign rfl rfl rfl ?_
  refine W_end ?_
  refine E_then ?_
  refine C_seq ?_
  refine C_region ?_
  refine W_loadAgg rfl rfl Proofs.Try.isAgg23 Proofs.Try.sizeOf23 rfl (own_all (List.mem_cons_self ..)) rfl ?_
  refine W_move rfl rfl rfl ?_
  refine W_move rfl rfl rfl ?_
  refine W_bin rfl rfl rfl rfl rfl ?_
  obtain ⟨r108, hc109, hm⟩ := bind_some hm
  refine W_call Proofs.Try.call10 rfl rfl rfl (fun w ht => by have h := m_governor_Target_c (hm := hc109)  ht; exact h) ?_
  rintro _ _ _ ⟨rfl, rfl, rfl⟩
  refine W_move rfl rfl rfl ?_
  refine W_extract rfl rfl rfl rfl ?_
  refine W_extract rfl rfl rfl rfl ?_
  refine W_assign rfl rfl rfl ?_
  refine W_assign rfl rfl rfl ?_
  refine W_end ?_
  refine E_then ?_
  refine C_seq ?_
  refine C_seq ?_
  refine C_region ?_
  refine W_move rfl rfl rfl ?_
  refine W_bin rfl rfl rfl rfl rfl ?_
  refine W_end ?_
  refine E_then ?_
  refine C_cond (b := !decide (r106.2 = 0)) rfl (fun hb110 => ?_) (fun hb110 => ?_)
  · have hm := ite_t' hb110 hm
    obtain ⟨r116, hc117, hm⟩ := bind_some hm
    refine C_seq_join (fun H' M' L' => H = H' ∧ M = M' ∧ [(6, .bool (((r116 && (decide (r106.1 = 0))) && (decide (r108.1 = 0))) && (decide (r108.2 = r106.2))))] = L') ?_ (fun J118 => ?_)
    · rintro _ _ _ ⟨rfl, rfl, rfl⟩
      refine C_ret ?_
      refine E_ret_then ?_
      obtain rfl := Option.some.inj hm
      exact end1_s rfl rfl (Hp.le_refl _) rfl
    · refine C_region ?_
      refine W_call Proofs.Try.call11 rfl rfl rfl (fun w ht => by have h := m_gridhallkeep4_governorFact_c (hm := hc117)  ht; exact h) ?_
      rintro _ _ _ ⟨rfl, rfl, rfl⟩
      refine W_move rfl rfl rfl ?_
      cases hb119 : (r116)
      · refine W_no rfl rfl rfl ?_
        refine W_no rfl rfl rfl ?_
        refine W_pick rfl rfl rfl rfl ?_
        refine W_move rfl rfl rfl ?_
        refine W_no rfl rfl rfl ?_
        refine W_no rfl rfl rfl ?_
        refine W_pick rfl rfl rfl rfl ?_
        refine W_move rfl rfl rfl ?_
        refine W_no rfl rfl rfl ?_
        refine W_no rfl rfl rfl ?_
        refine W_no rfl rfl rfl ?_
        refine W_pick rfl rfl rfl rfl ?_
        refine W_assign rfl rfl rfl ?_
        refine W_end ?_
        refine E_drop (List.Sublist.cons _ (List.Sublist.refl _)) ?_
        exact E_keepJ (J118 _ _ _ ⟨rfl, rfl, rfl⟩) (List.Perm.refl _) ⟨(by show some (Value.bool (false)) = some (Value.bool (((r116 && (decide (r106.1 = 0))) && (decide (r108.1 = 0))) && (decide (r108.2 = r106.2)))); simp only [hb110, hb119, Bool.and_true, Bool.true_and, Bool.false_and, Bool.and_false, Bool.or_true, Bool.true_or, Bool.or_false, Bool.false_or, Bool.not_true, Bool.not_false]), trivial⟩
      · refine W_move rfl rfl rfl ?_
        refine W_bin rfl rfl rfl rfl rfl ?_
        refine W_pick rfl rfl rfl rfl ?_
        refine W_move rfl rfl rfl ?_
        cases hb120 : (decide (r106.1 = 0))
        · refine W_no rfl rfl rfl ?_
          refine W_no rfl rfl rfl ?_
          refine W_pick rfl rfl rfl rfl ?_
          refine W_move rfl rfl rfl ?_
          refine W_no rfl rfl rfl ?_
          refine W_no rfl rfl rfl ?_
          refine W_no rfl rfl rfl ?_
          refine W_pick rfl rfl rfl rfl ?_
          refine W_assign rfl rfl rfl ?_
          refine W_end ?_
          refine E_drop (List.Sublist.cons _ (List.Sublist.refl _)) ?_
          exact E_keepJ (J118 _ _ _ ⟨rfl, rfl, rfl⟩) (List.Perm.refl _) ⟨(by show some (Value.bool (false)) = some (Value.bool (((r116 && (decide (r106.1 = 0))) && (decide (r108.1 = 0))) && (decide (r108.2 = r106.2)))); simp only [hb110, hb119, hb120, Bool.and_true, Bool.true_and, Bool.false_and, Bool.and_false, Bool.or_true, Bool.true_or, Bool.or_false, Bool.false_or, Bool.not_true, Bool.not_false]), trivial⟩
        · refine W_move rfl rfl rfl ?_
          refine W_bin rfl rfl rfl rfl rfl ?_
          refine W_pick rfl rfl rfl rfl ?_
          refine W_move rfl rfl rfl ?_
          cases hb121 : (decide (r108.1 = 0))
          · refine W_no rfl rfl rfl ?_
            refine W_no rfl rfl rfl ?_
            refine W_no rfl rfl rfl ?_
            refine W_pick rfl rfl rfl rfl ?_
            refine W_assign rfl rfl rfl ?_
            refine W_end ?_
            refine E_drop (List.Sublist.cons _ (List.Sublist.refl _)) ?_
            exact E_keepJ (J118 _ _ _ ⟨rfl, rfl, rfl⟩) (List.Perm.refl _) ⟨(by show some (Value.bool (false)) = some (Value.bool (((r116 && (decide (r106.1 = 0))) && (decide (r108.1 = 0))) && (decide (r108.2 = r106.2)))); simp only [hb110, hb119, hb120, hb121, Bool.and_true, Bool.true_and, Bool.false_and, Bool.and_false, Bool.or_true, Bool.true_or, Bool.or_false, Bool.false_or, Bool.not_true, Bool.not_false]), trivial⟩
          · refine W_move rfl rfl rfl ?_
            refine W_move rfl rfl rfl ?_
            refine W_bin rfl rfl rfl rfl rfl ?_
            refine W_pick rfl rfl rfl rfl ?_
            refine W_assign rfl rfl rfl ?_
            refine W_end ?_
            refine E_drop (List.Sublist.cons _ (List.Sublist.refl _)) ?_
            exact E_keepJ (J118 _ _ _ ⟨rfl, rfl, rfl⟩) (List.Perm.refl _) ⟨(by show some (Value.bool (decide (r108.2 = r106.2))) = some (Value.bool (((r116 && (decide (r106.1 = 0))) && (decide (r108.1 = 0))) && (decide (r108.2 = r106.2)))); simp only [hb110, hb119, hb120, hb121, Bool.and_true, Bool.true_and, Bool.false_and, Bool.and_false, Bool.or_true, Bool.true_or, Bool.or_false, Bool.false_or, Bool.not_true, Bool.not_false]), trivial⟩
  · have hm := ite_f' hb110 hm
    refine C_skip ?_
    refine E_then ?_
    obtain ⟨r128, hc129, hm⟩ := bind_some hm
    refine C_seq_join (fun H' M' L' => H = H' ∧ M = M' ∧ [(6, .bool ((((r128 && (decide (r108.2 = 0))) && (decide (r108.1 ≤ r106.1))) && (decide (p0_g.Least ≤ r108.1))) && (decide (r106.1 ≤ p0_g.Most))))] = L') ?_ (fun J130 => ?_)
    · rintro _ _ _ ⟨rfl, rfl, rfl⟩
      refine C_ret ?_
      obtain rfl := Option.some.inj hm
      exact end1_s rfl rfl (Hp.le_refl _) rfl
    · refine C_region ?_
      refine W_call Proofs.Try.call11 rfl rfl rfl (fun w ht => by have h := m_gridhallkeep4_governorFact_c (hm := hc129)  ht; exact h) ?_
      rintro _ _ _ ⟨rfl, rfl, rfl⟩
      refine W_move rfl rfl rfl ?_
      cases hb131 : (r128)
      · refine W_no rfl rfl rfl ?_
        refine W_no rfl rfl rfl ?_
        refine W_pick rfl rfl rfl rfl ?_
        refine W_move rfl rfl rfl ?_
        refine W_no rfl rfl rfl ?_
        refine W_no rfl rfl rfl ?_
        refine W_no rfl rfl rfl ?_
        refine W_pick rfl rfl rfl rfl ?_
        refine W_move rfl rfl rfl ?_
        refine W_no rfl rfl rfl ?_
        refine W_no rfl rfl rfl ?_
        refine W_no rfl rfl rfl ?_
        refine W_no rfl rfl rfl ?_
        refine W_pick rfl rfl rfl rfl ?_
        refine W_move rfl rfl rfl ?_
        refine W_no rfl rfl rfl ?_
        refine W_no rfl rfl rfl ?_
        refine W_no rfl rfl rfl ?_
        refine W_no rfl rfl rfl ?_
        refine W_pick rfl rfl rfl rfl ?_
        refine W_assign rfl rfl rfl ?_
        refine W_end ?_
        refine E_drop (List.Sublist.cons _ (List.Sublist.refl _)) ?_
        exact E_keepJ (J130 _ _ _ ⟨rfl, rfl, rfl⟩) (List.Perm.refl _) ⟨(by show some (Value.bool (false)) = some (Value.bool ((((r128 && (decide (r108.2 = 0))) && (decide (r108.1 ≤ r106.1))) && (decide (p0_g.Least ≤ r108.1))) && (decide (r106.1 ≤ p0_g.Most)))); simp only [hb110, hb131, Bool.and_true, Bool.true_and, Bool.false_and, Bool.and_false, Bool.or_true, Bool.true_or, Bool.or_false, Bool.false_or, Bool.not_true, Bool.not_false]), trivial⟩
      · refine W_move rfl rfl rfl ?_
        refine W_bin rfl rfl rfl rfl rfl ?_
        refine W_pick rfl rfl rfl rfl ?_
        refine W_move rfl rfl rfl ?_
        cases hb132 : (decide (r108.2 = 0))
        · refine W_no rfl rfl rfl ?_
          refine W_no rfl rfl rfl ?_
          refine W_no rfl rfl rfl ?_
          refine W_pick rfl rfl rfl rfl ?_
          refine W_move rfl rfl rfl ?_
          refine W_no rfl rfl rfl ?_
          refine W_no rfl rfl rfl ?_
          refine W_no rfl rfl rfl ?_
          refine W_no rfl rfl rfl ?_
          refine W_pick rfl rfl rfl rfl ?_
          refine W_move rfl rfl rfl ?_
          refine W_no rfl rfl rfl ?_
          refine W_no rfl rfl rfl ?_
          refine W_no rfl rfl rfl ?_
          refine W_no rfl rfl rfl ?_
          refine W_pick rfl rfl rfl rfl ?_
          refine W_assign rfl rfl rfl ?_
          refine W_end ?_
          refine E_drop (List.Sublist.cons _ (List.Sublist.refl _)) ?_
          exact E_keepJ (J130 _ _ _ ⟨rfl, rfl, rfl⟩) (List.Perm.refl _) ⟨(by show some (Value.bool (false)) = some (Value.bool ((((r128 && (decide (r108.2 = 0))) && (decide (r108.1 ≤ r106.1))) && (decide (p0_g.Least ≤ r108.1))) && (decide (r106.1 ≤ p0_g.Most)))); simp only [hb110, hb131, hb132, Bool.and_true, Bool.true_and, Bool.false_and, Bool.and_false, Bool.or_true, Bool.true_or, Bool.or_false, Bool.false_or, Bool.not_true, Bool.not_false]), trivial⟩
        · refine W_move rfl rfl rfl ?_
          refine W_move rfl rfl rfl ?_
          refine W_bin rfl rfl rfl rfl rfl ?_
          refine W_pick rfl rfl rfl rfl ?_
          refine W_move rfl rfl rfl ?_
          cases hb133 : (decide (r108.1 ≤ r106.1))
          · refine W_no rfl rfl rfl ?_
            refine W_no rfl rfl rfl ?_
            refine W_no rfl rfl rfl ?_
            refine W_no rfl rfl rfl ?_
            refine W_pick rfl rfl rfl rfl ?_
            refine W_move rfl rfl rfl ?_
            refine W_no rfl rfl rfl ?_
            refine W_no rfl rfl rfl ?_
            refine W_no rfl rfl rfl ?_
            refine W_no rfl rfl rfl ?_
            refine W_pick rfl rfl rfl rfl ?_
            refine W_assign rfl rfl rfl ?_
            refine W_end ?_
            refine E_drop (List.Sublist.cons _ (List.Sublist.refl _)) ?_
            exact E_keepJ (J130 _ _ _ ⟨rfl, rfl, rfl⟩) (List.Perm.refl _) ⟨(by show some (Value.bool (false)) = some (Value.bool ((((r128 && (decide (r108.2 = 0))) && (decide (r108.1 ≤ r106.1))) && (decide (p0_g.Least ≤ r108.1))) && (decide (r106.1 ≤ p0_g.Most)))); simp only [hb110, hb131, hb132, hb133, Bool.and_true, Bool.true_and, Bool.false_and, Bool.and_false, Bool.or_true, Bool.true_or, Bool.or_false, Bool.false_or, Bool.not_true, Bool.not_false]), trivial⟩
          · refine W_move rfl rfl rfl ?_
            refine W_field (o := 1) rfl rfl Proofs.Try.runUnderlying23 rfl Proofs.Try.sizeOf3 rfl rfl rfl ?_
            refine W_load rfl rfl Proofs.Try.isAgg3 rfl (own_at (List.mem_cons_self ..) rfl) ?_
            refine W_bin rfl rfl rfl rfl rfl ?_
            refine W_pick rfl rfl rfl rfl ?_
            refine W_move rfl rfl rfl ?_
            cases hb134 : (decide (p0_g.Least ≤ r108.1))
            · refine W_no rfl rfl rfl ?_
              refine W_no rfl rfl rfl ?_
              refine W_no rfl rfl rfl ?_
              refine W_no rfl rfl rfl ?_
              refine W_pick rfl rfl rfl rfl ?_
              refine W_assign rfl rfl rfl ?_
              refine W_end ?_
              refine E_drop (List.Sublist.cons _ (List.Sublist.refl _)) ?_
              exact E_keepJ (J130 _ _ _ ⟨rfl, rfl, rfl⟩) (List.Perm.refl _) ⟨(by show some (Value.bool (false)) = some (Value.bool ((((r128 && (decide (r108.2 = 0))) && (decide (r108.1 ≤ r106.1))) && (decide (p0_g.Least ≤ r108.1))) && (decide (r106.1 ≤ p0_g.Most)))); simp only [hb110, hb131, hb132, hb133, hb134, Bool.and_true, Bool.true_and, Bool.false_and, Bool.and_false, Bool.or_true, Bool.true_or, Bool.or_false, Bool.false_or, Bool.not_true, Bool.not_false]), trivial⟩
            · refine W_move rfl rfl rfl ?_
              refine W_field (o := 2) rfl rfl Proofs.Try.runUnderlying23 rfl Proofs.Try.sizeOf3 rfl rfl rfl ?_
              refine W_load rfl rfl Proofs.Try.isAgg3 rfl (own_at (List.mem_cons_self ..) rfl) ?_
              refine W_bin rfl rfl rfl rfl rfl ?_
              refine W_pick rfl rfl rfl rfl ?_
              refine W_assign rfl rfl rfl ?_
              refine W_end ?_
              refine E_drop (List.Sublist.cons _ (List.Sublist.refl _)) ?_
              exact E_keepJ (J130 _ _ _ ⟨rfl, rfl, rfl⟩) (List.Perm.refl _) ⟨(by show some (Value.bool (decide (r106.1 ≤ p0_g.Most))) = some (Value.bool ((((r128 && (decide (r108.2 = 0))) && (decide (r108.1 ≤ r106.1))) && (decide (p0_g.Least ≤ r108.1))) && (decide (r106.1 ≤ p0_g.Most)))); simp only [hb110, hb131, hb132, hb133, hb134, Bool.and_true, Bool.true_and, Bool.false_and, Bool.and_false, Bool.or_true, Bool.true_or, Bool.or_false, Bool.false_or, Bool.not_true, Bool.not_false]), trivial⟩

theorem m_gridhallkeep4_GovernorTotals_c {B : Nat} {w0 w : World} {H : Hp} {M : List Res} {p0_l : (List S_api_GovernorSetup)} {p1_f : Int} {v0 : Value} {r : Bool} (hm : m_gridhallkeep4_GovernorTotals p0_l p1_f = some r) (h0 : RdS H v0 p0_l) (ht : St B w0 H M w) :
    Calls Proofs.Try.prog 4 [v0, .int .i64 (p1_f)].toArray w (Ret B w0 fun H' M' v => H = H' ∧ M = M' ∧ v = .bool (r)) := by
  unfold m_gridhallkeep4_GovernorTotals at hm
  refine enter Proofs.Try.func4 rfl rfl rfl ht ?_
  refine C_seq ?_
  refine C_region ?_
  refine W_assign rfl rfl rfl ?_
  refine W_end ?_
  refine E_then ?_
  refine C_seq ?_
  refine C_region ?_
  refine W_move rfl rfl rfl ?_
  refine W_move rfl rfl rfl ?_
  obtain ⟨r101, hc102, hm⟩ := bind_some hm
  refine W_call Proofs.Try.call12 rfl rfl rfl (fun w ht => by have h := m_governor_Total_c (hm := hc102) h0 ht; exact h) ?_
  rintro _ _ _ ⟨rfl, rfl, rfl⟩
  refine W_move rfl rfl rfl ?_
  refine W_extract rfl rfl rfl rfl ?_
  refine W_extract rfl rfl rfl rfl ?_
  refine W_assign rfl rfl rfl ?_
  refine W_assign rfl rfl rfl ?_
  refine W_end ?_
  refine E_then ?_
  refine C_seq ?_
  refine C_seq ?_
  refine C_region ?_
  refine W_move rfl rfl rfl ?_
  refine W_bin rfl rfl rfl rfl rfl ?_
  refine W_end ?_
  refine E_then ?_
  refine C_cond (b := !decide (r101.2 = 0)) rfl (fun hb103 => ?_) (fun hb103 => ?_)
  · have hm := ite_t' hb103 hm
    obtain ⟨r107, hc108, hm⟩ := bind_some hm
    refine C_seq_join (fun H' M' L' => H = H' ∧ M = M' ∧ [(4, .bool (r107 && (decide (r101.1 = 0))))] = L') ?_ (fun J109 => ?_)
    · rintro _ _ _ ⟨rfl, rfl, rfl⟩
      refine C_ret ?_
      refine E_ret_then ?_
      obtain rfl := Option.some.inj hm
      exact end1_s rfl rfl (Hp.le_refl _) rfl
    · refine C_region ?_
      refine W_call Proofs.Try.call11 rfl rfl rfl (fun w ht => by have h := m_gridhallkeep4_governorFact_c (hm := hc108)  ht; exact h) ?_
      rintro _ _ _ ⟨rfl, rfl, rfl⟩
      refine W_move rfl rfl rfl ?_
      cases hb110 : (r107)
      · refine W_no rfl rfl rfl ?_
        refine W_no rfl rfl rfl ?_
        refine W_pick rfl rfl rfl rfl ?_
        refine W_assign rfl rfl rfl ?_
        refine W_end ?_
        exact E_keepJ (J109 _ _ _ ⟨rfl, rfl, rfl⟩) (List.Perm.refl _) ⟨(by show some (Value.bool (false)) = some (Value.bool (r107 && (decide (r101.1 = 0)))); simp only [hb103, hb110, Bool.and_true, Bool.true_and, Bool.false_and, Bool.and_false, Bool.or_true, Bool.true_or, Bool.or_false, Bool.false_or, Bool.not_true, Bool.not_false]), trivial⟩
      · refine W_move rfl rfl rfl ?_
        refine W_bin rfl rfl rfl rfl rfl ?_
        refine W_pick rfl rfl rfl rfl ?_
        refine W_assign rfl rfl rfl ?_
        refine W_end ?_
        exact E_keepJ (J109 _ _ _ ⟨rfl, rfl, rfl⟩) (List.Perm.refl _) ⟨(by show some (Value.bool (decide (r101.1 = 0))) = some (Value.bool (r107 && (decide (r101.1 = 0)))); simp only [hb103, hb110, Bool.and_true, Bool.true_and, Bool.false_and, Bool.and_false, Bool.or_true, Bool.true_or, Bool.or_false, Bool.false_or, Bool.not_true, Bool.not_false]), trivial⟩
  · have hm := ite_f' hb103 hm
    refine C_skip ?_
    refine E_then ?_
    refine C_seq ?_
    refine C_region ?_
    refine W_assign rfl rfl rfl ?_
    refine W_end ?_
    refine E_then ?_
    refine C_seq ?_
    refine C_seq ?_
    refine C_region ?_
    refine W_move rfl rfl rfl ?_
    refine W_lenR rfl rfl Proofs.Try.runUnderlying30 rfl h0 ?_
    refine W_move rfl rfl rfl ?_
    refine W_end ?_
    refine E_then ?_
    refine C_block ?_
    refine C_keep (L' := [(1, .int .i64 (p1_f)), (5, .int .i64 (r101.1)), (7, .int .i64 (0)), (25, v0), (26, .int .i64 ((p0_l.length : Int))), (27, .int .i64 (((0 : Nat) : Int)))]) ⟨rfl, rfl, rfl, rfl, rfl, rfl, trivial⟩ (List.Perm.refl _) ?_
    refine C_loop (fun n H' M' L' => ∃ (k111 : Nat) (zs131' : List S_api_GovernorSetup), ∃ n124 : Int, (p0_l).drop k111 = zs131' ∧ zs131'.length = n ∧ forI (fun k y s n => m_gridhallkeep4_GovernorTotals_b1 p1_f k y s n) (fun s => (m_gridhallkeep4_governorFact).bind fun r144 => some (r144 && (decide (s = r101.1)))) k111 zs131' n124 = some r ∧ H.le H' ∧ M = M' ∧ [(1, .int .i64 (p1_f)), (5, .int .i64 (r101.1)), (7, .int .i64 (n124)), (25, v0), (26, .int .i64 ((p0_l.length : Int))), (27, .int .i64 ((k111 : Int)))] = L') _ ⟨0, _, 0, rfl, rfl, hm, (Hp.le_refl _), rfl, rfl⟩ ?_
    rintro _ H125 _ _ ⟨k111, zs131', n124, hd133, rfl, hm, hle126, rfl, rfl⟩
    refine C_seq ?_
    refine C_region ?_
    refine W_bin rfl rfl rfl rfl rfl ?_
    refine W_end (E_then ?_)
    refine C_seq ?_
    refine C_cond (b := decide ((k111 : Int) < (p0_l.length : Int))) rfl (fun hb135 => ?_) (fun hb135 => ?_)
    · obtain ⟨y130, zs131, rfl, hy132, hd134⟩ := rng_t hd133 hb135
      have hm : m_gridhallkeep4_GovernorTotals_b1 p1_f k111 y130 n124 (forI (fun k y s n => m_gridhallkeep4_GovernorTotals_b1 p1_f k y s n) (fun s => (m_gridhallkeep4_governorFact).bind fun r144 => some (r144 && (decide (s = r101.1)))) (k111 + 1) zs131) = some r := hm
      generalize hn128 : forI (fun k y s n => m_gridhallkeep4_GovernorTotals_b1 p1_f k y s n) (fun s => (m_gridhallkeep4_governorFact).bind fun r144 => some (r144 && (decide (s = r101.1)))) (k111 + 1) zs131 = nx127 at hm
      unfold m_gridhallkeep4_GovernorTotals_b1 at hm
      refine C_skip (E_then ?_)
      refine C_seq ?_
      refine C_block ?_
      refine C_seq ?_
      refine C_region ?_
      obtain ⟨_, ⟨rfl⟩, hc136⟩ := (h0).elem hy132
      refine W_indexS rfl rfl Proofs.Try.runUnderlying30 Proofs.Try.sizeOf23 rfl (h0.mono hle126) rfl (Int.natCast_nonneg _) hy132 ?_
      refine W_loadAgg rfl rfl Proofs.Try.isAgg23 Proofs.Try.sizeOf23 rfl (hc136.mono hle126).at rfl ?_
      refine W_alloc (cs := [.int .i64 (0), .int .i64 (0), .int .i64 (0), .int .i64 (0), .int .i64 (0), .int .i64 (0)]) rfl rfl Proofs.Try.zeroValue23 rfl (fun b137 => ?_)
      refine W_store (cs := [.int .i64 (y130.Set), .int .i64 (y130.Least), .int .i64 (y130.Most), .int .i64 (y130.Droop), .int .i64 (y130.Band), .int .i64 (y130.Ramp)]) (out := [.int .i64 (y130.Set), .int .i64 (y130.Least), .int .i64 (y130.Most), .int .i64 (y130.Droop), .int .i64 (y130.Band), .int .i64 (y130.Ramp)]) rfl Proofs.Try.sizeOf23 rfl rfl rfl rfl rfl (all_cons rfl (all_cons rfl (all_cons rfl (all_cons rfl (all_cons rfl (all_cons rfl all_nil)))))) (over_all rfl) ?_
      refine W_end ?_
      refine E_then ?_
      refine C_seq ?_
      refine C_region ?_
      refine W_loadAgg rfl rfl Proofs.Try.isAgg23 Proofs.Try.sizeOf23 rfl (own_all (List.mem_cons_self ..)) rfl ?_
      refine W_move rfl rfl rfl ?_
      obtain ⟨r138, hc139, hm⟩ := bind_some hm
      refine W_call Proofs.Try.call10 rfl rfl rfl (fun w ht => by have h := m_governor_Target_c (hm := hc139)  ht; exact h) ?_
      rintro _ _ _ ⟨rfl, rfl, rfl⟩
      refine W_move rfl rfl rfl ?_
      refine W_extract rfl rfl rfl rfl ?_
      refine W_extract rfl rfl rfl rfl ?_
      refine W_assign rfl rfl rfl ?_
      refine W_assign rfl rfl rfl ?_
      refine W_end ?_
      refine E_then ?_
      refine C_seq ?_
      refine C_seq ?_
      refine C_region ?_
      refine W_move rfl rfl rfl ?_
      refine W_bin rfl rfl rfl rfl rfl ?_
      refine W_end ?_
      refine E_then ?_
      refine C_cond (b := !decide (r138.2 = 0)) rfl (fun hb140 => ?_) (fun hb140 => ?_)
      · have hm := ite_t' hb140 hm
        refine C_seq ?_
        refine C_region ?_
        refine W_assign rfl rfl rfl ?_
        refine W_end ?_
        refine E_then ?_
        refine C_ret ?_
        refine E_ret_then ?_
        refine E_ret_block ?_
        refine E_ret_then ?_
        refine E_ret_then ?_
        refine E_ret_block ?_
        refine E_ret_then ?_
        obtain rfl := Option.some.inj hm
        refine E_drop (List.Sublist.cons _ (List.Sublist.refl _)) ?_
        exact end1_s rfl rfl hle126 rfl
      · have hm := ite_f' hb140 hm
        refine C_skip ?_
        refine E_then ?_
        refine C_region ?_
        refine W_move rfl rfl rfl ?_
        refine W_move rfl rfl rfl ?_
        refine W_bin rfl rfl rfl rfl rfl ?_
        refine W_assign rfl rfl rfl ?_
        refine W_end ?_
        refine E_normal_block ?_
        refine E_then ?_
        refine C_region ?_
        refine W_bin rfl rfl rfl rfl rfl ?_
        refine W_move rfl rfl rfl ?_
        refine W_end ?_
        refine E_drop (List.Sublist.cons _ (List.Sublist.refl _)) ?_
        exact E_keepJ (E_back (Nat.lt_succ_self _) ⟨k111 + 1, zs131, IntKind.i64.wrap (n124 + r138.1), hd134, rfl, (by rw [hn128]; exact hm), hle126, rfl, rfl⟩) (List.Perm.refl _) ⟨rfl, rfl, rfl, rfl, rfl, (congrArg (fun z => some (Value.int .i64 z)) (i64_succ hy132 ((h0.mono hle126)).lenMax)), trivial⟩
    · obtain rfl := rng_f hd133 hb135
      have hm : ((m_gridhallkeep4_governorFact).bind fun r144 => some (r144 && (decide (n124 = r101.1)))) = some r := hm
      refine C_exit (E_exit_then ?_)
      refine E_exit_then ?_
      refine E_exit_hit ?_
      refine E_then ?_
      obtain ⟨r144, hc145, hm⟩ := bind_some hm
      refine C_seq_join (fun H' M' L' => H125 = H' ∧ M = M' ∧ [(4, .bool (r144 && (decide (n124 = r101.1))))] = L') ?_ (fun J146 => ?_)
      · rintro _ _ _ ⟨rfl, rfl, rfl⟩
        refine C_ret ?_
        obtain rfl := Option.some.inj hm
        exact end1_s rfl rfl hle126 rfl
      · refine C_region ?_
        refine W_call Proofs.Try.call11 rfl rfl rfl (fun w ht => by have h := m_gridhallkeep4_governorFact_c (hm := hc145)  ht; exact h) ?_
        rintro _ _ _ ⟨rfl, rfl, rfl⟩
        refine W_move rfl rfl rfl ?_
        cases hb147 : (r144)
        · refine W_no rfl rfl rfl ?_
          refine W_no rfl rfl rfl ?_
          refine W_no rfl rfl rfl ?_
          refine W_pick rfl rfl rfl rfl ?_
          refine W_assign rfl rfl rfl ?_
          refine W_end ?_
          exact E_keepJ (J146 _ _ _ ⟨rfl, rfl, rfl⟩) (List.Perm.refl _) ⟨(by show some (Value.bool (false)) = some (Value.bool (r144 && (decide (n124 = r101.1)))); simp only [hb103, hb147, Bool.and_true, Bool.true_and, Bool.false_and, Bool.and_false, Bool.or_true, Bool.true_or, Bool.or_false, Bool.false_or, Bool.not_true, Bool.not_false]), trivial⟩
        · refine W_move rfl rfl rfl ?_
          refine W_move rfl rfl rfl ?_
          refine W_bin rfl rfl rfl rfl rfl ?_
          refine W_pick rfl rfl rfl rfl ?_
          refine W_assign rfl rfl rfl ?_
          refine W_end ?_
          exact E_keepJ (J146 _ _ _ ⟨rfl, rfl, rfl⟩) (List.Perm.refl _) ⟨(by show some (Value.bool (decide (n124 = r101.1))) = some (Value.bool (r144 && (decide (n124 = r101.1)))); simp only [hb103, hb147, Bool.and_true, Bool.true_and, Bool.false_and, Bool.and_false, Bool.or_true, Bool.true_or, Bool.or_false, Bool.false_or, Bool.not_true, Bool.not_false]), trivial⟩

theorem m_gridhallkeep4_GovernorSettles_c {B : Nat} {w0 w : World} {H : Hp} {M : List Res} {p0_l : (List S_api_GovernorSetup)} {demand : Int} {v0 : Value} {r : Bool} (hm : m_gridhallkeep4_GovernorSettles p0_l demand = some r) (h0 : RdS H v0 p0_l) (ht : St B w0 H M w) :
    Calls Proofs.Try.prog 5 [v0, .int .i64 (demand)].toArray w (Ret B w0 fun H' M' v => H = H' ∧ M = M' ∧ v = .bool (r)) := by
  unfold m_gridhallkeep4_GovernorSettles at hm
  refine enter Proofs.Try.func5 rfl rfl rfl ht ?_
  refine C_seq ?_
  refine C_region ?_
  refine W_assign rfl rfl rfl ?_
  refine W_end ?_
  refine E_then ?_
  refine C_seq ?_
  refine C_region ?_
  refine W_move rfl rfl rfl ?_
  refine W_move rfl rfl rfl ?_
  obtain ⟨r101, hc102, hm⟩ := bind_some hm
  refine W_call Proofs.Try.call13 rfl rfl rfl (fun w ht => by have h := m_governor_Settle_c (hm := hc102) h0 ht; exact h) ?_
  rintro _ _ _ ⟨rfl, rfl, rfl⟩
  refine W_move rfl rfl rfl ?_
  refine W_extract rfl rfl rfl rfl ?_
  refine W_extract rfl rfl rfl rfl ?_
  refine W_assign rfl rfl rfl ?_
  refine W_assign rfl rfl rfl ?_
  refine W_end ?_
  refine E_then ?_
  refine C_seq ?_
  refine C_seq ?_
  refine C_region ?_
  refine W_move rfl rfl rfl ?_
  refine W_bin rfl rfl rfl rfl rfl ?_
  refine W_end ?_
  refine E_then ?_
  refine C_cond (b := !decide (r101.2 = 0)) rfl (fun hb103 => ?_) (fun hb103 => ?_)
  · have hm := ite_t' hb103 hm
    refine C_seq ?_
    refine C_region ?_
    refine W_move rfl rfl rfl ?_
    obtain ⟨r104, hc105, hm⟩ := bind_some hm
    refine W_call Proofs.Try.call12 rfl rfl rfl (fun w ht => by have h := m_governor_Total_c (hm := hc105) h0 ht; exact h) ?_
    rintro _ _ _ ⟨rfl, rfl, rfl⟩
    refine W_move rfl rfl rfl ?_
    refine W_extract rfl rfl rfl rfl ?_
    refine W_extract rfl rfl rfl rfl ?_
    refine W_assign rfl rfl rfl ?_
    refine W_assign rfl rfl rfl ?_
    refine W_end ?_
    refine E_then ?_
    obtain ⟨r113, hc114, hm⟩ := bind_some hm
    refine C_seq_join (fun H' M' L' => H = H' ∧ M = M' ∧ [(4, .bool ((r113 && (decide (r101.1 = 0))) && ((((decide (r101.2 = 8)) && (decide (r104.2 = 0))) && (decide (r104.1 < demand))) || ((!decide (r101.2 = 8)) && (decide (r104.2 = r101.2))))))] = L') ?_ (fun J115 => ?_)
    · rintro _ _ _ ⟨rfl, rfl, rfl⟩
      refine C_ret ?_
      refine E_ret_then ?_
      obtain rfl := Option.some.inj hm
      exact end1_s rfl rfl (Hp.le_refl _) rfl
    · refine C_region ?_
      refine W_call Proofs.Try.call11 rfl rfl rfl (fun w ht => by have h := m_gridhallkeep4_governorFact_c (hm := hc114)  ht; exact h) ?_
      rintro _ _ _ ⟨rfl, rfl, rfl⟩
      refine W_move rfl rfl rfl ?_
      cases hb116 : (r113)
      · refine W_no rfl rfl rfl ?_
        refine W_no rfl rfl rfl ?_
        refine W_pick rfl rfl rfl rfl ?_
        refine W_move rfl rfl rfl ?_
        refine W_no rfl rfl rfl ?_
        refine W_no rfl rfl rfl ?_
        refine W_no rfl rfl rfl ?_
        refine W_no rfl rfl rfl ?_
        refine W_no rfl rfl rfl ?_
        refine W_no rfl rfl rfl ?_
        refine W_no rfl rfl rfl ?_
        refine W_no rfl rfl rfl ?_
        refine W_no rfl rfl rfl ?_
        refine W_no rfl rfl rfl ?_
        refine W_no rfl rfl rfl ?_
        refine W_no rfl rfl rfl ?_
        refine W_no rfl rfl rfl ?_
        refine W_no rfl rfl rfl ?_
        refine W_no rfl rfl rfl ?_
        refine W_no rfl rfl rfl ?_
        refine W_no rfl rfl rfl ?_
        refine W_no rfl rfl rfl ?_
        refine W_no rfl rfl rfl ?_
        refine W_no rfl rfl rfl ?_
        refine W_pick rfl rfl rfl rfl ?_
        refine W_assign rfl rfl rfl ?_
        refine W_end ?_
        exact E_keepJ (J115 _ _ _ ⟨rfl, rfl, rfl⟩) (List.Perm.refl _) ⟨(by show some (Value.bool (false)) = some (Value.bool ((r113 && (decide (r101.1 = 0))) && ((((decide (r101.2 = 8)) && (decide (r104.2 = 0))) && (decide (r104.1 < demand))) || ((!decide (r101.2 = 8)) && (decide (r104.2 = r101.2)))))); simp only [hb103, hb116, Bool.and_true, Bool.true_and, Bool.false_and, Bool.and_false, Bool.or_true, Bool.true_or, Bool.or_false, Bool.false_or, Bool.not_true, Bool.not_false]), trivial⟩
      · refine W_move rfl rfl rfl ?_
        refine W_bin rfl rfl rfl rfl rfl ?_
        refine W_pick rfl rfl rfl rfl ?_
        refine W_move rfl rfl rfl ?_
        cases hb117 : (decide (r101.1 = 0))
        · refine W_no rfl rfl rfl ?_
          refine W_no rfl rfl rfl ?_
          refine W_no rfl rfl rfl ?_
          refine W_no rfl rfl rfl ?_
          refine W_no rfl rfl rfl ?_
          refine W_no rfl rfl rfl ?_
          refine W_no rfl rfl rfl ?_
          refine W_no rfl rfl rfl ?_
          refine W_no rfl rfl rfl ?_
          refine W_no rfl rfl rfl ?_
          refine W_no rfl rfl rfl ?_
          refine W_no rfl rfl rfl ?_
          refine W_no rfl rfl rfl ?_
          refine W_no rfl rfl rfl ?_
          refine W_no rfl rfl rfl ?_
          refine W_no rfl rfl rfl ?_
          refine W_no rfl rfl rfl ?_
          refine W_no rfl rfl rfl ?_
          refine W_no rfl rfl rfl ?_
          refine W_no rfl rfl rfl ?_
          refine W_pick rfl rfl rfl rfl ?_
          refine W_assign rfl rfl rfl ?_
          refine W_end ?_
          exact E_keepJ (J115 _ _ _ ⟨rfl, rfl, rfl⟩) (List.Perm.refl _) ⟨(by show some (Value.bool (false)) = some (Value.bool ((r113 && (decide (r101.1 = 0))) && ((((decide (r101.2 = 8)) && (decide (r104.2 = 0))) && (decide (r104.1 < demand))) || ((!decide (r101.2 = 8)) && (decide (r104.2 = r101.2)))))); simp only [hb103, hb116, hb117, Bool.and_true, Bool.true_and, Bool.false_and, Bool.and_false, Bool.or_true, Bool.true_or, Bool.or_false, Bool.false_or, Bool.not_true, Bool.not_false]), trivial⟩
        · refine W_move rfl rfl rfl ?_
          refine W_bin rfl rfl rfl rfl rfl ?_
          refine W_move rfl rfl rfl ?_
          cases hb118 : (decide (r101.2 = 8))
          · refine W_no rfl rfl rfl ?_
            refine W_no rfl rfl rfl ?_
            refine W_pick rfl rfl rfl rfl ?_
            refine W_move rfl rfl rfl ?_
            refine W_no rfl rfl rfl ?_
            refine W_no rfl rfl rfl ?_
            refine W_no rfl rfl rfl ?_
            refine W_pick rfl rfl rfl rfl ?_
            refine W_move rfl rfl rfl ?_
            refine W_move rfl rfl rfl ?_
            refine W_bin rfl rfl rfl rfl rfl ?_
            refine W_move rfl rfl rfl ?_
            rw [hb118]
            refine W_move rfl rfl rfl ?_
            refine W_move rfl rfl rfl ?_
            refine W_bin rfl rfl rfl rfl rfl ?_
            refine W_pick rfl rfl rfl rfl ?_
            refine W_pick rfl rfl rfl rfl ?_
            refine W_pick rfl rfl rfl rfl ?_
            refine W_assign rfl rfl rfl ?_
            refine W_end ?_
            exact E_keepJ (J115 _ _ _ ⟨rfl, rfl, rfl⟩) (List.Perm.refl _) ⟨(by show some (Value.bool (decide (r104.2 = r101.2))) = some (Value.bool ((r113 && (decide (r101.1 = 0))) && ((((decide (r101.2 = 8)) && (decide (r104.2 = 0))) && (decide (r104.1 < demand))) || ((!decide (r101.2 = 8)) && (decide (r104.2 = r101.2)))))); simp only [hb103, hb116, hb117, hb118, Bool.and_true, Bool.true_and, Bool.false_and, Bool.and_false, Bool.or_true, Bool.true_or, Bool.or_false, Bool.false_or, Bool.not_true, Bool.not_false]), trivial⟩
          · refine W_move rfl rfl rfl ?_
            refine W_bin rfl rfl rfl rfl rfl ?_
            refine W_pick rfl rfl rfl rfl ?_
            refine W_move rfl rfl rfl ?_
            cases hb119 : (decide (r104.2 = 0))
            · refine W_no rfl rfl rfl ?_
              refine W_no rfl rfl rfl ?_
              refine W_no rfl rfl rfl ?_
              refine W_pick rfl rfl rfl rfl ?_
              refine W_move rfl rfl rfl ?_
              refine W_move rfl rfl rfl ?_
              refine W_bin rfl rfl rfl rfl rfl ?_
              refine W_move rfl rfl rfl ?_
              rw [hb118]
              refine W_no rfl rfl rfl ?_
              refine W_no rfl rfl rfl ?_
              refine W_no rfl rfl rfl ?_
              refine W_pick rfl rfl rfl rfl ?_
              refine W_pick rfl rfl rfl rfl ?_
              refine W_pick rfl rfl rfl rfl ?_
              refine W_assign rfl rfl rfl ?_
              refine W_end ?_
              exact E_keepJ (J115 _ _ _ ⟨rfl, rfl, rfl⟩) (List.Perm.refl _) ⟨(by show some (Value.bool (false)) = some (Value.bool ((r113 && (decide (r101.1 = 0))) && ((((decide (r101.2 = 8)) && (decide (r104.2 = 0))) && (decide (r104.1 < demand))) || ((!decide (r101.2 = 8)) && (decide (r104.2 = r101.2)))))); simp only [hb103, hb116, hb117, hb118, hb119, Bool.and_true, Bool.true_and, Bool.false_and, Bool.and_false, Bool.or_true, Bool.true_or, Bool.or_false, Bool.false_or, Bool.not_true, Bool.not_false]), trivial⟩
            · refine W_move rfl rfl rfl ?_
              refine W_move rfl rfl rfl ?_
              refine W_bin rfl rfl rfl rfl rfl ?_
              refine W_pick rfl rfl rfl rfl ?_
              refine W_move rfl rfl rfl ?_
              cases hb120 : (decide (r104.1 < demand))
              · refine W_move rfl rfl rfl ?_
                refine W_bin rfl rfl rfl rfl rfl ?_
                refine W_move rfl rfl rfl ?_
                rw [hb118]
                refine W_no rfl rfl rfl ?_
                refine W_no rfl rfl rfl ?_
                refine W_no rfl rfl rfl ?_
                refine W_pick rfl rfl rfl rfl ?_
                refine W_pick rfl rfl rfl rfl ?_
                refine W_pick rfl rfl rfl rfl ?_
                refine W_assign rfl rfl rfl ?_
                refine W_end ?_
                exact E_keepJ (J115 _ _ _ ⟨rfl, rfl, rfl⟩) (List.Perm.refl _) ⟨(by show some (Value.bool (false)) = some (Value.bool ((r113 && (decide (r101.1 = 0))) && ((((decide (r101.2 = 8)) && (decide (r104.2 = 0))) && (decide (r104.1 < demand))) || ((!decide (r101.2 = 8)) && (decide (r104.2 = r101.2)))))); simp only [hb103, hb116, hb117, hb118, hb119, hb120, Bool.and_true, Bool.true_and, Bool.false_and, Bool.and_false, Bool.or_true, Bool.true_or, Bool.or_false, Bool.false_or, Bool.not_true, Bool.not_false]), trivial⟩
              · refine W_no rfl rfl rfl ?_
                refine W_no rfl rfl rfl ?_
                refine W_no rfl rfl rfl ?_
                refine W_no rfl rfl rfl ?_
                refine W_no rfl rfl rfl ?_
                refine W_no rfl rfl rfl ?_
                refine W_no rfl rfl rfl ?_
                refine W_pick rfl rfl rfl rfl ?_
                refine W_pick rfl rfl rfl rfl ?_
                refine W_assign rfl rfl rfl ?_
                refine W_end ?_
                exact E_keepJ (J115 _ _ _ ⟨rfl, rfl, rfl⟩) (List.Perm.refl _) ⟨(by show some (Value.bool (true)) = some (Value.bool ((r113 && (decide (r101.1 = 0))) && ((((decide (r101.2 = 8)) && (decide (r104.2 = 0))) && (decide (r104.1 < demand))) || ((!decide (r101.2 = 8)) && (decide (r104.2 = r101.2)))))); simp only [hb103, hb116, hb117, hb118, hb119, hb120, Bool.and_true, Bool.true_and, Bool.false_and, Bool.and_false, Bool.or_true, Bool.true_or, Bool.or_false, Bool.false_or, Bool.not_true, Bool.not_false]), trivial⟩
  · have hm := ite_f' hb103 hm
    refine C_skip ?_
    refine E_then ?_
    refine C_seq ?_
    refine C_region ?_
    refine W_move rfl rfl rfl ?_
    refine W_move rfl rfl rfl ?_
    obtain ⟨r121, hc122, hm⟩ := bind_some hm
    refine W_call Proofs.Try.call12 rfl rfl rfl (fun w ht => by have h := m_governor_Total_c (hm := hc122) h0 ht; exact h) ?_
    rintro _ _ _ ⟨rfl, rfl, rfl⟩
    refine W_move rfl rfl rfl ?_
    refine W_extract rfl rfl rfl rfl ?_
    refine W_extract rfl rfl rfl rfl ?_
    refine W_assign rfl rfl rfl ?_
    refine W_assign rfl rfl rfl ?_
    refine W_end ?_
    refine E_then ?_
    refine C_seq ?_
    refine C_seq_join (fun H' M' L' => H = H' ∧ M = M' ∧ [(0, v0), (1, .int .i64 (demand)), (5, .int .i64 (r101.1)), (65, .bool ((!decide (r121.2 = 0)) || (decide (r121.1 < demand))))] = L') ?_ (fun J124 => ?_)
    · rintro _ _ _ ⟨rfl, rfl, rfl⟩
      refine C_cond (b := (!decide (r121.2 = 0)) || (decide (r121.1 < demand))) rfl (fun hb125 => ?_) (fun hb125 => ?_)
      · have hm := ite_t' hb125 hm
        refine C_seq ?_
        refine C_region ?_
        refine W_assign rfl rfl rfl ?_
        refine W_end ?_
        refine E_then ?_
        refine C_ret ?_
        refine E_ret_then ?_
        obtain rfl := Option.some.inj hm
        exact end1_s rfl rfl (Hp.le_refl _) rfl
      · have hm := ite_f' hb125 hm
        refine C_skip ?_
        refine E_then ?_
        refine C_seq ?_
        refine C_seq ?_
        refine C_region ?_
        refine W_move rfl rfl rfl ?_
        refine W_bin rfl rfl rfl rfl rfl ?_
        refine W_end ?_
        refine E_then ?_
        refine C_cond (b := decide (r101.1 = 10000)) rfl (fun hb126 => ?_) (fun hb126 => ?_)
        · have hm := ite_t' hb126 hm
          refine C_seq ?_
          refine C_region ?_
          obtain ⟨r127, hc128, hm⟩ := bind_some hm
          refine W_call Proofs.Try.call11 rfl rfl rfl (fun w ht => by have h := m_gridhallkeep4_governorFact_c (hm := hc128)  ht; exact h) ?_
          rintro _ _ _ ⟨rfl, rfl, rfl⟩
          refine W_assign rfl rfl rfl ?_
          refine W_end ?_
          refine E_then ?_
          refine C_ret ?_
          refine E_ret_then ?_
          obtain rfl := Option.some.inj hm
          exact end1_s rfl rfl (Hp.le_refl _) rfl
        · have hm := ite_f' hb126 hm
          refine C_skip ?_
          refine E_then ?_
          refine C_seq ?_
          refine C_region ?_
          refine W_move rfl rfl rfl ?_
          refine W_move rfl rfl rfl ?_
          refine W_bin rfl rfl rfl rfl rfl ?_
          obtain ⟨r129, hc130, hm⟩ := bind_some hm
          refine W_call Proofs.Try.call12 rfl rfl rfl (fun w ht => by have h := m_governor_Total_c (hm := hc130) h0 ht; exact h) ?_
          rintro _ _ _ ⟨rfl, rfl, rfl⟩
          refine W_move rfl rfl rfl ?_
          refine W_extract rfl rfl rfl rfl ?_
          refine W_extract rfl rfl rfl rfl ?_
          refine W_assign rfl rfl rfl ?_
          refine W_assign rfl rfl rfl ?_
          refine W_end ?_
          refine E_then ?_
          obtain ⟨r135, hc136, hm⟩ := bind_some hm
          refine C_seq_join (fun H' M' L' => H = H' ∧ M = M' ∧ [(4, .bool ((r135 && (decide (r129.2 = 0))) && (decide (r129.1 < demand))))] = L') ?_ (fun J137 => ?_)
          · rintro _ _ _ ⟨rfl, rfl, rfl⟩
            refine C_ret ?_
            obtain rfl := Option.some.inj hm
            exact end1_s rfl rfl (Hp.le_refl _) rfl
          · refine C_region ?_
            refine W_call Proofs.Try.call11 rfl rfl rfl (fun w ht => by have h := m_gridhallkeep4_governorFact_c (hm := hc136)  ht; exact h) ?_
            rintro _ _ _ ⟨rfl, rfl, rfl⟩
            refine W_move rfl rfl rfl ?_
            cases hb138 : (r135)
            · refine W_no rfl rfl rfl ?_
              refine W_no rfl rfl rfl ?_
              refine W_pick rfl rfl rfl rfl ?_
              refine W_move rfl rfl rfl ?_
              refine W_no rfl rfl rfl ?_
              refine W_no rfl rfl rfl ?_
              refine W_no rfl rfl rfl ?_
              refine W_pick rfl rfl rfl rfl ?_
              refine W_assign rfl rfl rfl ?_
              refine W_end ?_
              exact E_keepJ (J137 _ _ _ ⟨rfl, rfl, rfl⟩) (List.Perm.refl _) ⟨(by show some (Value.bool (false)) = some (Value.bool ((r135 && (decide (r129.2 = 0))) && (decide (r129.1 < demand)))); simp only [hb103, hb125, hb126, hb138, Bool.and_true, Bool.true_and, Bool.false_and, Bool.and_false, Bool.or_true, Bool.true_or, Bool.or_false, Bool.false_or, Bool.not_true, Bool.not_false]), trivial⟩
            · refine W_move rfl rfl rfl ?_
              refine W_bin rfl rfl rfl rfl rfl ?_
              refine W_pick rfl rfl rfl rfl ?_
              refine W_move rfl rfl rfl ?_
              cases hb139 : (decide (r129.2 = 0))
              · refine W_no rfl rfl rfl ?_
                refine W_no rfl rfl rfl ?_
                refine W_no rfl rfl rfl ?_
                refine W_pick rfl rfl rfl rfl ?_
                refine W_assign rfl rfl rfl ?_
                refine W_end ?_
                exact E_keepJ (J137 _ _ _ ⟨rfl, rfl, rfl⟩) (List.Perm.refl _) ⟨(by show some (Value.bool (false)) = some (Value.bool ((r135 && (decide (r129.2 = 0))) && (decide (r129.1 < demand)))); simp only [hb103, hb125, hb126, hb138, hb139, Bool.and_true, Bool.true_and, Bool.false_and, Bool.and_false, Bool.or_true, Bool.true_or, Bool.or_false, Bool.false_or, Bool.not_true, Bool.not_false]), trivial⟩
              · refine W_move rfl rfl rfl ?_
                refine W_move rfl rfl rfl ?_
                refine W_bin rfl rfl rfl rfl rfl ?_
                refine W_pick rfl rfl rfl rfl ?_
                refine W_assign rfl rfl rfl ?_
                refine W_end ?_
                exact E_keepJ (J137 _ _ _ ⟨rfl, rfl, rfl⟩) (List.Perm.refl _) ⟨(by show some (Value.bool (decide (r129.1 < demand))) = some (Value.bool ((r135 && (decide (r129.2 = 0))) && (decide (r129.1 < demand)))); simp only [hb103, hb125, hb126, hb138, hb139, Bool.and_true, Bool.true_and, Bool.false_and, Bool.and_false, Bool.or_true, Bool.true_or, Bool.or_false, Bool.false_or, Bool.not_true, Bool.not_false]), trivial⟩
    · refine C_region ?_
      refine W_move rfl rfl rfl ?_
      refine W_bin rfl rfl rfl rfl rfl ?_
      refine W_move rfl rfl rfl ?_
      cases hb140 : (decide (r121.2 = 0))
      · refine W_no rfl rfl rfl ?_
        refine W_no rfl rfl rfl ?_
        refine W_no rfl rfl rfl ?_
        refine W_pick rfl rfl rfl rfl ?_
        refine W_end ?_
        exact E_keepJ (J124 _ _ _ ⟨rfl, rfl, rfl⟩) (List.Perm.refl _) ⟨rfl, rfl, rfl, (by show some (Value.bool (true)) = some (Value.bool ((!decide (r121.2 = 0)) || (decide (r121.1 < demand)))); simp only [hb103, hb140, Bool.and_true, Bool.true_and, Bool.false_and, Bool.and_false, Bool.or_true, Bool.true_or, Bool.or_false, Bool.false_or, Bool.not_true, Bool.not_false]), trivial⟩
      · refine W_move rfl rfl rfl ?_
        refine W_move rfl rfl rfl ?_
        refine W_bin rfl rfl rfl rfl rfl ?_
        refine W_pick rfl rfl rfl rfl ?_
        refine W_end ?_
        exact E_keepJ (J124 _ _ _ ⟨rfl, rfl, rfl⟩) (List.Perm.refl _) ⟨rfl, rfl, rfl, (by show some (Value.bool (decide (r121.1 < demand))) = some (Value.bool ((!decide (r121.2 = 0)) || (decide (r121.1 < demand)))); simp only [hb103, hb140, Bool.and_true, Bool.true_and, Bool.false_and, Bool.and_false, Bool.or_true, Bool.true_or, Bool.or_false, Bool.false_or, Bool.not_true, Bool.not_false]), trivial⟩

theorem m_gridhallkeep4_GovernorReaches_c {B : Nat} {w0 w : World} {H : Hp} {M : List Res} {p0_g : S_api_GovernorSetup} {now : Int} {p2_f : Int} {r : Bool} (hm : m_gridhallkeep4_GovernorReaches p0_g now p2_f = some r) (ht : St B w0 H M w) :
    Calls Proofs.Try.prog 6 [.agg [.int .i64 (p0_g.Set), .int .i64 (p0_g.Least), .int .i64 (p0_g.Most), .int .i64 (p0_g.Droop), .int .i64 (p0_g.Band), .int .i64 (p0_g.Ramp)].toArray, .int .i64 (now), .int .i64 (p2_f)].toArray w (Ret B w0 fun H' M' v => H = H' ∧ M = M' ∧ v = .bool (r)) := by
  unfold m_gridhallkeep4_GovernorReaches at hm
  refine enter Proofs.Try.func6 rfl rfl rfl ht ?_
  refine C_seq ?_
  refine C_region ?_
  refine W_box (cs := [.int .i64 (p0_g.Set), .int .i64 (p0_g.Least), .int .i64 (p0_g.Most), .int .i64 (p0_g.Droop), .int .i64 (p0_g.Band), .int .i64 (p0_g.Ramp)]) rfl rfl rfl rfl (fun b101 => ?_)
  refine W_assign rfl rfl rfl ?_
  refine W_end ?_
  refine E_then ?_
  refine C_seq ?_
  refine C_region ?_
  refine W_loadAgg rfl rfl Proofs.Try.isAgg23 Proofs.Try.sizeOf23 rfl (own_all (List.mem_cons_self ..)) rfl ?_
  refine W_move rfl rfl rfl ?_
  obtain ⟨r102, hc103, hm⟩ := bind_some hm
  refine W_call Proofs.Try.call10 rfl rfl rfl (fun w ht => by have h := m_governor_Target_c (hm := hc103)  ht; exact h) ?_
  rintro _ _ _ ⟨rfl, rfl, rfl⟩
  refine W_move rfl rfl rfl ?_
  refine W_extract rfl rfl rfl rfl ?_
  refine W_extract rfl rfl rfl rfl ?_
  refine W_assign rfl rfl rfl ?_
  refine W_assign rfl rfl rfl ?_
  refine W_end ?_
  refine E_then ?_
  refine C_seq ?_
  refine C_seq ?_
  refine C_region ?_
  refine W_move rfl rfl rfl ?_
  refine W_bin rfl rfl rfl rfl rfl ?_
  refine W_end ?_
  refine E_then ?_
  refine C_cond (b := !decide (r102.2 = 0)) rfl (fun hb104 => ?_) (fun hb104 => ?_)
  · have hm := ite_t' hb104 hm
    obtain ⟨r108, hc109, hm⟩ := bind_some hm
    refine C_seq_join (fun H' M' L' => H = H' ∧ M = M' ∧ [(6, .bool (r108 && (decide (r102.1 = 0))))] = L') ?_ (fun J110 => ?_)
    · rintro _ _ _ ⟨rfl, rfl, rfl⟩
      refine C_ret ?_
      refine E_ret_then ?_
      obtain rfl := Option.some.inj hm
      exact end1_s rfl rfl (Hp.le_refl _) rfl
    · refine C_region ?_
      refine W_call Proofs.Try.call11 rfl rfl rfl (fun w ht => by have h := m_gridhallkeep4_governorFact_c (hm := hc109)  ht; exact h) ?_
      rintro _ _ _ ⟨rfl, rfl, rfl⟩
      refine W_move rfl rfl rfl ?_
      cases hb111 : (r108)
      · refine W_no rfl rfl rfl ?_
        refine W_no rfl rfl rfl ?_
        refine W_pick rfl rfl rfl rfl ?_
        refine W_assign rfl rfl rfl ?_
        refine W_end ?_
        refine E_drop (List.Sublist.cons _ (List.Sublist.refl _)) ?_
        exact E_keepJ (J110 _ _ _ ⟨rfl, rfl, rfl⟩) (List.Perm.refl _) ⟨(by show some (Value.bool (false)) = some (Value.bool (r108 && (decide (r102.1 = 0)))); simp only [hb104, hb111, Bool.and_true, Bool.true_and, Bool.false_and, Bool.and_false, Bool.or_true, Bool.true_or, Bool.or_false, Bool.false_or, Bool.not_true, Bool.not_false]), trivial⟩
      · refine W_move rfl rfl rfl ?_
        refine W_bin rfl rfl rfl rfl rfl ?_
        refine W_pick rfl rfl rfl rfl ?_
        refine W_assign rfl rfl rfl ?_
        refine W_end ?_
        refine E_drop (List.Sublist.cons _ (List.Sublist.refl _)) ?_
        exact E_keepJ (J110 _ _ _ ⟨rfl, rfl, rfl⟩) (List.Perm.refl _) ⟨(by show some (Value.bool (decide (r102.1 = 0))) = some (Value.bool (r108 && (decide (r102.1 = 0)))); simp only [hb104, hb111, Bool.and_true, Bool.true_and, Bool.false_and, Bool.and_false, Bool.or_true, Bool.true_or, Bool.or_false, Bool.false_or, Bool.not_true, Bool.not_false]), trivial⟩
  · have hm := ite_f' hb104 hm
    refine C_skip ?_
    refine E_then ?_
    refine C_seq ?_
    refine C_region ?_
    refine W_move rfl rfl rfl ?_
    refine W_field (o := 1) rfl rfl Proofs.Try.runUnderlying23 rfl Proofs.Try.sizeOf3 rfl rfl rfl ?_
    refine W_load rfl rfl Proofs.Try.isAgg3 rfl (own_at (List.mem_cons_self ..) rfl) ?_
    refine W_field (o := 2) rfl rfl Proofs.Try.runUnderlying23 rfl Proofs.Try.sizeOf3 rfl rfl rfl ?_
    refine W_load rfl rfl Proofs.Try.isAgg3 rfl (own_at (List.mem_cons_self ..) rfl) ?_
    obtain ⟨r112, hc113, hm⟩ := bind_some hm
    refine W_call Proofs.Try.call9 rfl rfl rfl (fun w ht => by have h := m_gridhallref4_Cut_c (hm := hc113)  ht; exact h) ?_
    rintro _ _ _ ⟨rfl, rfl, rfl⟩
    refine W_assign rfl rfl rfl ?_
    refine W_end ?_
    refine E_then ?_
    refine C_seq ?_
    refine C_seq ?_
    refine C_region ?_
    refine W_move rfl rfl rfl ?_
    refine W_end ?_
    refine E_then ?_
    refine C_block ?_
    refine C_keep (L' := [(1, .int .i64 (r112)), (2, .int .i64 (p2_f)), (3, .pointer (some ⟨b101, 0, none⟩)), (7, .int .i64 (r102.1)), (30, .int .i64 (((0 : Nat) : Int)))]) ⟨rfl, rfl, rfl, rfl, rfl, trivial⟩ (List.Perm.refl _) ?_
    refine C_loop (fun n H' M' L' => ∃ (k114 : Nat) (zs148' : Nat), ∃ n141 : Int, k114 + zs148' = (50 : Int).toNat ∧ zs148' = n ∧ forN (fun k s n => m_gridhallkeep4_GovernorReaches_b1 p0_g p2_f r102 k s n) (fun s => (m_gridhallkeep4_governorFact).bind fun r170 => some (r170 && (((decide (p0_g.Ramp = 0)) || (decide (s = r102.1))) || (decide ((IntKind.i64.wrap (50 * p0_g.Ramp)) < (IntKind.i64.wrap (p0_g.Most - p0_g.Least))))))) zs148' k114 n141 = some r ∧ H.le H' ∧ .obj b101 (.cells [.int .i64 (p0_g.Set), .int .i64 (p0_g.Least), .int .i64 (p0_g.Most), .int .i64 (p0_g.Droop), .int .i64 (p0_g.Band), .int .i64 (p0_g.Ramp)].toArray 23 (0, 0)) :: M = M' ∧ [(1, .int .i64 (n141)), (2, .int .i64 (p2_f)), (3, .pointer (some ⟨b101, 0, none⟩)), (7, .int .i64 (r102.1)), (30, .int .i64 ((k114 : Int)))] = L') _ ⟨0, _, r112, Nat.zero_add _, rfl, hm, (Hp.le_refl _), rfl, rfl⟩ ?_
    rintro _ H142 _ _ ⟨k114, zs148', n141, hd150, rfl, hm, hle143, rfl, rfl⟩
    refine C_seq ?_
    refine C_region ?_
    refine W_bin rfl rfl rfl rfl rfl ?_
    refine W_end (E_then ?_)
    refine C_seq ?_
    refine C_cond (b := decide ((k114 : Int) < 50)) rfl (fun hb152 => ?_) (fun hb152 => ?_)
    · obtain ⟨zs148, rfl, hd151, hy149⟩ := rngN_t hd150 hb152
      have hm : m_gridhallkeep4_GovernorReaches_b1 p0_g p2_f r102 k114 n141 (forN (fun k s n => m_gridhallkeep4_GovernorReaches_b1 p0_g p2_f r102 k s n) (fun s => (m_gridhallkeep4_governorFact).bind fun r170 => some (r170 && (((decide (p0_g.Ramp = 0)) || (decide (s = r102.1))) || (decide ((IntKind.i64.wrap (50 * p0_g.Ramp)) < (IntKind.i64.wrap (p0_g.Most - p0_g.Least))))))) zs148 (k114 + 1)) = some r := hm
      generalize hn145 : forN (fun k s n => m_gridhallkeep4_GovernorReaches_b1 p0_g p2_f r102 k s n) (fun s => (m_gridhallkeep4_governorFact).bind fun r170 => some (r170 && (((decide (p0_g.Ramp = 0)) || (decide (s = r102.1))) || (decide ((IntKind.i64.wrap (50 * p0_g.Ramp)) < (IntKind.i64.wrap (p0_g.Most - p0_g.Least))))))) zs148 (k114 + 1) = nx144 at hm
      unfold m_gridhallkeep4_GovernorReaches_b1 at hm
      refine C_skip (E_then ?_)
      refine C_seq ?_
      refine C_block ?_
      refine C_seq ?_
      refine C_region ?_
      refine W_loadAgg rfl rfl Proofs.Try.isAgg23 Proofs.Try.sizeOf23 rfl (own_all (List.mem_cons_self ..)) rfl ?_
      refine W_move rfl rfl rfl ?_
      refine W_move rfl rfl rfl ?_
      obtain ⟨r153, hc154, hm⟩ := bind_some hm
      refine W_call Proofs.Try.call14 rfl rfl rfl (fun w ht => by have h := m_governor_Next_c (hm := hc154)  ht; exact h) ?_
      rintro _ _ _ ⟨rfl, rfl, rfl⟩
      refine W_move rfl rfl rfl ?_
      refine W_extract rfl rfl rfl rfl ?_
      refine W_extract rfl rfl rfl rfl ?_
      refine W_assign rfl rfl rfl ?_
      refine W_assign rfl rfl rfl ?_
      refine W_end ?_
      refine E_then ?_
      refine C_seq ?_
      refine C_seq_join (fun H' M' L' => H142 = H' ∧ .obj b101 (.cells [.int .i64 (p0_g.Set), .int .i64 (p0_g.Least), .int .i64 (p0_g.Most), .int .i64 (p0_g.Droop), .int .i64 (p0_g.Band), .int .i64 (p0_g.Ramp)].toArray 23 (0, 0)) :: M = M' ∧ [(2, .int .i64 (p2_f)), (3, .pointer (some ⟨b101, 0, none⟩)), (7, .int .i64 (r102.1)), (9, .int .i64 (r153.1)), (30, .int .i64 ((k114 : Int))), (86, .bool ((((!decide (r153.2 = 0)) || (decide (p0_g.Ramp < (max (IntKind.i64.wrap (r153.1 - n141)) (IntKind.i64.wrap (n141 - r153.1)))))) || (decide ((max (IntKind.i64.wrap (n141 - r102.1)) (IntKind.i64.wrap (r102.1 - n141))) < (max (IntKind.i64.wrap (r153.1 - r102.1)) (IntKind.i64.wrap (r102.1 - r153.1)))))) || ((!decide (r153.1 = r102.1)) && (!decide ((max (IntKind.i64.wrap (r153.1 - n141)) (IntKind.i64.wrap (n141 - r153.1))) = p0_g.Ramp)))))] = L') ?_ (fun J159 => ?_)
      · rintro _ _ _ ⟨rfl, rfl, rfl⟩
        refine C_cond (b := (((!decide (r153.2 = 0)) || (decide (p0_g.Ramp < (max (IntKind.i64.wrap (r153.1 - n141)) (IntKind.i64.wrap (n141 - r153.1)))))) || (decide ((max (IntKind.i64.wrap (n141 - r102.1)) (IntKind.i64.wrap (r102.1 - n141))) < (max (IntKind.i64.wrap (r153.1 - r102.1)) (IntKind.i64.wrap (r102.1 - r153.1)))))) || ((!decide (r153.1 = r102.1)) && (!decide ((max (IntKind.i64.wrap (r153.1 - n141)) (IntKind.i64.wrap (n141 - r153.1))) = p0_g.Ramp)))) rfl (fun hb160 => ?_) (fun hb160 => ?_)
        · have hm := ite_t' hb160 hm
          refine C_seq ?_
          refine C_region ?_
          refine W_assign rfl rfl rfl ?_
          refine W_end ?_
          refine E_then ?_
          refine C_ret ?_
          refine E_ret_then ?_
          refine E_ret_block ?_
          refine E_ret_then ?_
          refine E_ret_then ?_
          refine E_ret_block ?_
          refine E_ret_then ?_
          obtain rfl := Option.some.inj hm
          refine E_drop (List.Sublist.cons _ (List.Sublist.refl _)) ?_
          exact end1_s rfl rfl hle143 rfl
        · have hm := ite_f' hb160 hm
          refine C_skip ?_
          refine E_then ?_
          refine C_region ?_
          refine W_move rfl rfl rfl ?_
          refine W_assign rfl rfl rfl ?_
          refine W_end ?_
          refine E_normal_block ?_
          refine E_then ?_
          refine C_region ?_
          refine W_bin rfl rfl rfl rfl rfl ?_
          refine W_move rfl rfl rfl ?_
          refine W_end ?_
          exact E_keepJ (E_back (Nat.lt_succ_self _) ⟨k114 + 1, zs148, r153.1, hd151, rfl, (by rw [hn145]; exact hm), hle143, rfl, rfl⟩) (List.Perm.refl _) ⟨rfl, rfl, rfl, rfl, (congrArg (fun z => some (Value.int .i64 z)) (i64_succN hy149 (toNat_max (by decide)))), trivial⟩
      · refine C_region ?_
        refine W_move rfl rfl rfl ?_
        refine W_bin rfl rfl rfl rfl rfl ?_
        refine W_move rfl rfl rfl ?_
        cases hb161 : (decide (r153.2 = 0))
        · refine W_no rfl rfl rfl ?_
          refine W_no rfl rfl rfl ?_
          refine W_no rfl rfl rfl ?_
          refine W_no rfl rfl rfl ?_
          refine W_no rfl rfl rfl ?_
          refine W_no rfl rfl rfl ?_
          refine W_no rfl rfl rfl ?_
          refine W_no rfl rfl rfl ?_
          refine W_no rfl rfl rfl ?_
          refine W_no rfl rfl rfl ?_
          refine W_pick rfl rfl rfl rfl ?_
          refine W_move rfl rfl rfl ?_
          refine W_no rfl rfl rfl ?_
          refine W_no rfl rfl rfl ?_
          refine W_no rfl rfl rfl ?_
          refine W_no rfl rfl rfl ?_
          refine W_no rfl rfl rfl ?_
          refine W_no rfl rfl rfl ?_
          refine W_no rfl rfl rfl ?_
          refine W_no rfl rfl rfl ?_
          refine W_no rfl rfl rfl ?_
          refine W_no rfl rfl rfl ?_
          refine W_no rfl rfl rfl ?_
          refine W_no rfl rfl rfl ?_
          refine W_no rfl rfl rfl ?_
          refine W_no rfl rfl rfl ?_
          refine W_no rfl rfl rfl ?_
          refine W_pick rfl rfl rfl rfl ?_
          refine W_move rfl rfl rfl ?_
          refine W_no rfl rfl rfl ?_
          refine W_no rfl rfl rfl ?_
          refine W_no rfl rfl rfl ?_
          refine W_no rfl rfl rfl ?_
          refine W_no rfl rfl rfl ?_
          refine W_no rfl rfl rfl ?_
          refine W_no rfl rfl rfl ?_
          refine W_no rfl rfl rfl ?_
          refine W_no rfl rfl rfl ?_
          refine W_no rfl rfl rfl ?_
          refine W_no rfl rfl rfl ?_
          refine W_no rfl rfl rfl ?_
          refine W_no rfl rfl rfl ?_
          refine W_no rfl rfl rfl ?_
          refine W_no rfl rfl rfl ?_
          refine W_pick rfl rfl rfl rfl ?_
          refine W_end ?_
          exact E_keepJ (J159 _ _ _ ⟨rfl, rfl, rfl⟩) (List.Perm.refl _) ⟨rfl, rfl, rfl, rfl, rfl, (by show some (Value.bool (true)) = some (Value.bool ((((!decide (r153.2 = 0)) || (decide (p0_g.Ramp < (max (IntKind.i64.wrap (r153.1 - n141)) (IntKind.i64.wrap (n141 - r153.1)))))) || (decide ((max (IntKind.i64.wrap (n141 - r102.1)) (IntKind.i64.wrap (r102.1 - n141))) < (max (IntKind.i64.wrap (r153.1 - r102.1)) (IntKind.i64.wrap (r102.1 - r153.1)))))) || ((!decide (r153.1 = r102.1)) && (!decide ((max (IntKind.i64.wrap (r153.1 - n141)) (IntKind.i64.wrap (n141 - r153.1))) = p0_g.Ramp))))); simp only [hb104, hb161, Bool.and_true, Bool.true_and, Bool.false_and, Bool.and_false, Bool.or_true, Bool.true_or, Bool.or_false, Bool.false_or, Bool.not_true, Bool.not_false]), trivial⟩
        · refine W_move rfl rfl rfl ?_
          refine W_move rfl rfl rfl ?_
          refine W_bin rfl rfl rfl rfl rfl ?_
          refine W_move rfl rfl rfl ?_
          refine W_move rfl rfl rfl ?_
          refine W_bin rfl rfl rfl rfl rfl ?_
          refine W_max rfl rfl rfl rfl ?_
          refine W_field (o := 5) rfl rfl Proofs.Try.runUnderlying23 rfl Proofs.Try.sizeOf3 rfl rfl rfl ?_
          refine W_load rfl rfl Proofs.Try.isAgg3 rfl (own_at (List.mem_cons_self ..) rfl) ?_
          refine W_bin rfl rfl rfl rfl rfl ?_
          refine W_pick rfl rfl rfl rfl ?_
          refine W_move rfl rfl rfl ?_
          cases hb162 : (decide (p0_g.Ramp < (max (IntKind.i64.wrap (r153.1 - n141)) (IntKind.i64.wrap (n141 - r153.1)))))
          · refine W_move rfl rfl rfl ?_
            refine W_move rfl rfl rfl ?_
            refine W_bin rfl rfl rfl rfl rfl ?_
            refine W_move rfl rfl rfl ?_
            refine W_move rfl rfl rfl ?_
            refine W_bin rfl rfl rfl rfl rfl ?_
            refine W_max rfl rfl rfl rfl ?_
            refine W_move rfl rfl rfl ?_
            refine W_move rfl rfl rfl ?_
            refine W_bin rfl rfl rfl rfl rfl ?_
            refine W_move rfl rfl rfl ?_
            refine W_move rfl rfl rfl ?_
            refine W_bin rfl rfl rfl rfl rfl ?_
            refine W_max rfl rfl rfl rfl ?_
            refine W_bin rfl rfl rfl rfl rfl ?_
            refine W_pick rfl rfl rfl rfl ?_
            refine W_move rfl rfl rfl ?_
            cases hb163 : (decide ((max (IntKind.i64.wrap (n141 - r102.1)) (IntKind.i64.wrap (r102.1 - n141))) < (max (IntKind.i64.wrap (r153.1 - r102.1)) (IntKind.i64.wrap (r102.1 - r153.1)))))
            · refine W_move rfl rfl rfl ?_
              refine W_move rfl rfl rfl ?_
              refine W_bin rfl rfl rfl rfl rfl ?_
              refine W_move rfl rfl rfl ?_
              cases hb164 : (decide (r153.1 = r102.1))
              · refine W_move rfl rfl rfl ?_
                refine W_move rfl rfl rfl ?_
                refine W_bin rfl rfl rfl rfl rfl ?_
                refine W_move rfl rfl rfl ?_
                refine W_move rfl rfl rfl ?_
                refine W_bin rfl rfl rfl rfl rfl ?_
                refine W_max rfl rfl rfl rfl ?_
                refine W_field (o := 5) rfl rfl Proofs.Try.runUnderlying23 rfl Proofs.Try.sizeOf3 rfl rfl rfl ?_
                refine W_load rfl rfl Proofs.Try.isAgg3 rfl (own_at (List.mem_cons_self ..) rfl) ?_
                refine W_bin rfl rfl rfl rfl rfl ?_
                refine W_pick rfl rfl rfl rfl ?_
                refine W_pick rfl rfl rfl rfl ?_
                refine W_end ?_
                exact E_keepJ (J159 _ _ _ ⟨rfl, rfl, rfl⟩) (List.Perm.refl _) ⟨rfl, rfl, rfl, rfl, rfl, (by show some (Value.bool (!decide ((max (IntKind.i64.wrap (r153.1 - n141)) (IntKind.i64.wrap (n141 - r153.1))) = p0_g.Ramp))) = some (Value.bool ((((!decide (r153.2 = 0)) || (decide (p0_g.Ramp < (max (IntKind.i64.wrap (r153.1 - n141)) (IntKind.i64.wrap (n141 - r153.1)))))) || (decide ((max (IntKind.i64.wrap (n141 - r102.1)) (IntKind.i64.wrap (r102.1 - n141))) < (max (IntKind.i64.wrap (r153.1 - r102.1)) (IntKind.i64.wrap (r102.1 - r153.1)))))) || ((!decide (r153.1 = r102.1)) && (!decide ((max (IntKind.i64.wrap (r153.1 - n141)) (IntKind.i64.wrap (n141 - r153.1))) = p0_g.Ramp))))); simp only [hb104, hb161, hb162, hb163, hb164, Bool.and_true, Bool.true_and, Bool.false_and, Bool.and_false, Bool.or_true, Bool.true_or, Bool.or_false, Bool.false_or, Bool.not_true, Bool.not_false]), trivial⟩
              · refine W_no rfl rfl rfl ?_
                refine W_no rfl rfl rfl ?_
                refine W_no rfl rfl rfl ?_
                refine W_no rfl rfl rfl ?_
                refine W_no rfl rfl rfl ?_
                refine W_no rfl rfl rfl ?_
                refine W_no rfl rfl rfl ?_
                refine W_no rfl rfl rfl ?_
                refine W_no rfl rfl rfl ?_
                refine W_no rfl rfl rfl ?_
                refine W_pick rfl rfl rfl rfl ?_
                refine W_pick rfl rfl rfl rfl ?_
                refine W_end ?_
                exact E_keepJ (J159 _ _ _ ⟨rfl, rfl, rfl⟩) (List.Perm.refl _) ⟨rfl, rfl, rfl, rfl, rfl, (by show some (Value.bool (false)) = some (Value.bool ((((!decide (r153.2 = 0)) || (decide (p0_g.Ramp < (max (IntKind.i64.wrap (r153.1 - n141)) (IntKind.i64.wrap (n141 - r153.1)))))) || (decide ((max (IntKind.i64.wrap (n141 - r102.1)) (IntKind.i64.wrap (r102.1 - n141))) < (max (IntKind.i64.wrap (r153.1 - r102.1)) (IntKind.i64.wrap (r102.1 - r153.1)))))) || ((!decide (r153.1 = r102.1)) && (!decide ((max (IntKind.i64.wrap (r153.1 - n141)) (IntKind.i64.wrap (n141 - r153.1))) = p0_g.Ramp))))); simp only [hb104, hb161, hb162, hb163, hb164, Bool.and_true, Bool.true_and, Bool.false_and, Bool.and_false, Bool.or_true, Bool.true_or, Bool.or_false, Bool.false_or, Bool.not_true, Bool.not_false]), trivial⟩
            · refine W_no rfl rfl rfl ?_
              refine W_no rfl rfl rfl ?_
              refine W_no rfl rfl rfl ?_
              refine W_no rfl rfl rfl ?_
              refine W_no rfl rfl rfl ?_
              refine W_no rfl rfl rfl ?_
              refine W_no rfl rfl rfl ?_
              refine W_no rfl rfl rfl ?_
              refine W_no rfl rfl rfl ?_
              refine W_no rfl rfl rfl ?_
              refine W_no rfl rfl rfl ?_
              refine W_no rfl rfl rfl ?_
              refine W_no rfl rfl rfl ?_
              refine W_no rfl rfl rfl ?_
              refine W_no rfl rfl rfl ?_
              refine W_pick rfl rfl rfl rfl ?_
              refine W_end ?_
              exact E_keepJ (J159 _ _ _ ⟨rfl, rfl, rfl⟩) (List.Perm.refl _) ⟨rfl, rfl, rfl, rfl, rfl, (by show some (Value.bool (true)) = some (Value.bool ((((!decide (r153.2 = 0)) || (decide (p0_g.Ramp < (max (IntKind.i64.wrap (r153.1 - n141)) (IntKind.i64.wrap (n141 - r153.1)))))) || (decide ((max (IntKind.i64.wrap (n141 - r102.1)) (IntKind.i64.wrap (r102.1 - n141))) < (max (IntKind.i64.wrap (r153.1 - r102.1)) (IntKind.i64.wrap (r102.1 - r153.1)))))) || ((!decide (r153.1 = r102.1)) && (!decide ((max (IntKind.i64.wrap (r153.1 - n141)) (IntKind.i64.wrap (n141 - r153.1))) = p0_g.Ramp))))); simp only [hb104, hb161, hb162, hb163, Bool.and_true, Bool.true_and, Bool.false_and, Bool.and_false, Bool.or_true, Bool.true_or, Bool.or_false, Bool.false_or, Bool.not_true, Bool.not_false]), trivial⟩
          · refine W_no rfl rfl rfl ?_
            refine W_no rfl rfl rfl ?_
            refine W_no rfl rfl rfl ?_
            refine W_no rfl rfl rfl ?_
            refine W_no rfl rfl rfl ?_
            refine W_no rfl rfl rfl ?_
            refine W_no rfl rfl rfl ?_
            refine W_no rfl rfl rfl ?_
            refine W_no rfl rfl rfl ?_
            refine W_no rfl rfl rfl ?_
            refine W_no rfl rfl rfl ?_
            refine W_no rfl rfl rfl ?_
            refine W_no rfl rfl rfl ?_
            refine W_no rfl rfl rfl ?_
            refine W_no rfl rfl rfl ?_
            refine W_pick rfl rfl rfl rfl ?_
            refine W_move rfl rfl rfl ?_
            refine W_no rfl rfl rfl ?_
            refine W_no rfl rfl rfl ?_
            refine W_no rfl rfl rfl ?_
            refine W_no rfl rfl rfl ?_
            refine W_no rfl rfl rfl ?_
            refine W_no rfl rfl rfl ?_
            refine W_no rfl rfl rfl ?_
            refine W_no rfl rfl rfl ?_
            refine W_no rfl rfl rfl ?_
            refine W_no rfl rfl rfl ?_
            refine W_no rfl rfl rfl ?_
            refine W_no rfl rfl rfl ?_
            refine W_no rfl rfl rfl ?_
            refine W_no rfl rfl rfl ?_
            refine W_no rfl rfl rfl ?_
            refine W_pick rfl rfl rfl rfl ?_
            refine W_end ?_
            exact E_keepJ (J159 _ _ _ ⟨rfl, rfl, rfl⟩) (List.Perm.refl _) ⟨rfl, rfl, rfl, rfl, rfl, (by show some (Value.bool (true)) = some (Value.bool ((((!decide (r153.2 = 0)) || (decide (p0_g.Ramp < (max (IntKind.i64.wrap (r153.1 - n141)) (IntKind.i64.wrap (n141 - r153.1)))))) || (decide ((max (IntKind.i64.wrap (n141 - r102.1)) (IntKind.i64.wrap (r102.1 - n141))) < (max (IntKind.i64.wrap (r153.1 - r102.1)) (IntKind.i64.wrap (r102.1 - r153.1)))))) || ((!decide (r153.1 = r102.1)) && (!decide ((max (IntKind.i64.wrap (r153.1 - n141)) (IntKind.i64.wrap (n141 - r153.1))) = p0_g.Ramp))))); simp only [hb104, hb161, hb162, Bool.and_true, Bool.true_and, Bool.false_and, Bool.and_false, Bool.or_true, Bool.true_or, Bool.or_false, Bool.false_or, Bool.not_true, Bool.not_false]), trivial⟩
    · obtain rfl := rngN_f hd150 hb152
      have hm : ((m_gridhallkeep4_governorFact).bind fun r170 => some (r170 && (((decide (p0_g.Ramp = 0)) || (decide (n141 = r102.1))) || (decide ((IntKind.i64.wrap (50 * p0_g.Ramp)) < (IntKind.i64.wrap (p0_g.Most - p0_g.Least))))))) = some r := hm
      refine C_exit (E_exit_then ?_)
      refine E_exit_then ?_
      refine E_exit_hit ?_
      refine E_then ?_
      obtain ⟨r170, hc171, hm⟩ := bind_some hm
      refine C_seq_join (fun H' M' L' => H142 = H' ∧ M = M' ∧ [(6, .bool (r170 && (((decide (p0_g.Ramp = 0)) || (decide (n141 = r102.1))) || (decide ((IntKind.i64.wrap (50 * p0_g.Ramp)) < (IntKind.i64.wrap (p0_g.Most - p0_g.Least)))))))] = L') ?_ (fun J172 => ?_)
      · rintro _ _ _ ⟨rfl, rfl, rfl⟩
        refine C_ret ?_
        obtain rfl := Option.some.inj hm
        exact end1_s rfl rfl hle143 rfl
      · refine C_region ?_
        refine W_call Proofs.Try.call11 rfl rfl rfl (fun w ht => by have h := m_gridhallkeep4_governorFact_c (hm := hc171)  ht; exact h) ?_
        rintro _ _ _ ⟨rfl, rfl, rfl⟩
        refine W_move rfl rfl rfl ?_
        cases hb173 : (r170)
        · refine W_no rfl rfl rfl ?_
          refine W_no rfl rfl rfl ?_
          refine W_no rfl rfl rfl ?_
          refine W_no rfl rfl rfl ?_
          refine W_no rfl rfl rfl ?_
          refine W_no rfl rfl rfl ?_
          refine W_no rfl rfl rfl ?_
          refine W_no rfl rfl rfl ?_
          refine W_no rfl rfl rfl ?_
          refine W_no rfl rfl rfl ?_
          refine W_no rfl rfl rfl ?_
          refine W_no rfl rfl rfl ?_
          refine W_no rfl rfl rfl ?_
          refine W_no rfl rfl rfl ?_
          refine W_no rfl rfl rfl ?_
          refine W_no rfl rfl rfl ?_
          refine W_no rfl rfl rfl ?_
          refine W_no rfl rfl rfl ?_
          refine W_no rfl rfl rfl ?_
          refine W_pick rfl rfl rfl rfl ?_
          refine W_assign rfl rfl rfl ?_
          refine W_end ?_
          refine E_drop (List.Sublist.cons _ (List.Sublist.refl _)) ?_
          exact E_keepJ (J172 _ _ _ ⟨rfl, rfl, rfl⟩) (List.Perm.refl _) ⟨(by show some (Value.bool (false)) = some (Value.bool (r170 && (((decide (p0_g.Ramp = 0)) || (decide (n141 = r102.1))) || (decide ((IntKind.i64.wrap (50 * p0_g.Ramp)) < (IntKind.i64.wrap (p0_g.Most - p0_g.Least))))))); simp only [hb104, hb173, Bool.and_true, Bool.true_and, Bool.false_and, Bool.and_false, Bool.or_true, Bool.true_or, Bool.or_false, Bool.false_or, Bool.not_true, Bool.not_false]), trivial⟩
        · refine W_field (o := 5) rfl rfl Proofs.Try.runUnderlying23 rfl Proofs.Try.sizeOf3 rfl rfl rfl ?_
          refine W_load rfl rfl Proofs.Try.isAgg3 rfl (own_at (List.mem_cons_self ..) rfl) ?_
          refine W_bin rfl rfl rfl rfl rfl ?_
          refine W_move rfl rfl rfl ?_
          cases hb174 : (decide (p0_g.Ramp = 0))
          · refine W_move rfl rfl rfl ?_
            refine W_move rfl rfl rfl ?_
            refine W_bin rfl rfl rfl rfl rfl ?_
            refine W_pick rfl rfl rfl rfl ?_
            refine W_move rfl rfl rfl ?_
            cases hb175 : (decide (n141 = r102.1))
            · refine W_field (o := 5) rfl rfl Proofs.Try.runUnderlying23 rfl Proofs.Try.sizeOf3 rfl rfl rfl ?_
              refine W_load rfl rfl Proofs.Try.isAgg3 rfl (own_at (List.mem_cons_self ..) rfl) ?_
              refine W_bin rfl rfl rfl rfl rfl ?_
              refine W_field (o := 2) rfl rfl Proofs.Try.runUnderlying23 rfl Proofs.Try.sizeOf3 rfl rfl rfl ?_
              refine W_load rfl rfl Proofs.Try.isAgg3 rfl (own_at (List.mem_cons_self ..) rfl) ?_
              refine W_field (o := 1) rfl rfl Proofs.Try.runUnderlying23 rfl Proofs.Try.sizeOf3 rfl rfl rfl ?_
              refine W_load rfl rfl Proofs.Try.isAgg3 rfl (own_at (List.mem_cons_self ..) rfl) ?_
              refine W_bin rfl rfl rfl rfl rfl ?_
              refine W_bin rfl rfl rfl rfl rfl ?_
              refine W_pick rfl rfl rfl rfl ?_
              refine W_pick rfl rfl rfl rfl ?_
              refine W_assign rfl rfl rfl ?_
              refine W_end ?_
              refine E_drop (List.Sublist.cons _ (List.Sublist.refl _)) ?_
              exact E_keepJ (J172 _ _ _ ⟨rfl, rfl, rfl⟩) (List.Perm.refl _) ⟨(by show some (Value.bool (decide ((IntKind.i64.wrap (50 * p0_g.Ramp)) < (IntKind.i64.wrap (p0_g.Most - p0_g.Least))))) = some (Value.bool (r170 && (((decide (p0_g.Ramp = 0)) || (decide (n141 = r102.1))) || (decide ((IntKind.i64.wrap (50 * p0_g.Ramp)) < (IntKind.i64.wrap (p0_g.Most - p0_g.Least))))))); simp only [hb104, hb173, hb174, hb175, Bool.and_true, Bool.true_and, Bool.false_and, Bool.and_false, Bool.or_true, Bool.true_or, Bool.or_false, Bool.false_or, Bool.not_true, Bool.not_false]), trivial⟩
            · refine W_no rfl rfl rfl ?_
              refine W_no rfl rfl rfl ?_
              refine W_no rfl rfl rfl ?_
              refine W_no rfl rfl rfl ?_
              refine W_no rfl rfl rfl ?_
              refine W_no rfl rfl rfl ?_
              refine W_no rfl rfl rfl ?_
              refine W_no rfl rfl rfl ?_
              refine W_no rfl rfl rfl ?_
              refine W_pick rfl rfl rfl rfl ?_
              refine W_pick rfl rfl rfl rfl ?_
              refine W_assign rfl rfl rfl ?_
              refine W_end ?_
              refine E_drop (List.Sublist.cons _ (List.Sublist.refl _)) ?_
              exact E_keepJ (J172 _ _ _ ⟨rfl, rfl, rfl⟩) (List.Perm.refl _) ⟨(by show some (Value.bool (true)) = some (Value.bool (r170 && (((decide (p0_g.Ramp = 0)) || (decide (n141 = r102.1))) || (decide ((IntKind.i64.wrap (50 * p0_g.Ramp)) < (IntKind.i64.wrap (p0_g.Most - p0_g.Least))))))); simp only [hb104, hb173, hb174, hb175, Bool.and_true, Bool.true_and, Bool.false_and, Bool.and_false, Bool.or_true, Bool.true_or, Bool.or_false, Bool.false_or, Bool.not_true, Bool.not_false]), trivial⟩
          · refine W_no rfl rfl rfl ?_
            refine W_no rfl rfl rfl ?_
            refine W_no rfl rfl rfl ?_
            refine W_pick rfl rfl rfl rfl ?_
            refine W_move rfl rfl rfl ?_
            refine W_no rfl rfl rfl ?_
            refine W_no rfl rfl rfl ?_
            refine W_no rfl rfl rfl ?_
            refine W_no rfl rfl rfl ?_
            refine W_no rfl rfl rfl ?_
            refine W_no rfl rfl rfl ?_
            refine W_no rfl rfl rfl ?_
            refine W_no rfl rfl rfl ?_
            refine W_no rfl rfl rfl ?_
            refine W_pick rfl rfl rfl rfl ?_
            refine W_pick rfl rfl rfl rfl ?_
            refine W_assign rfl rfl rfl ?_
            refine W_end ?_
            refine E_drop (List.Sublist.cons _ (List.Sublist.refl _)) ?_
            exact E_keepJ (J172 _ _ _ ⟨rfl, rfl, rfl⟩) (List.Perm.refl _) ⟨(by show some (Value.bool (true)) = some (Value.bool (r170 && (((decide (p0_g.Ramp = 0)) || (decide (n141 = r102.1))) || (decide ((IntKind.i64.wrap (50 * p0_g.Ramp)) < (IntKind.i64.wrap (p0_g.Most - p0_g.Least))))))); simp only [hb104, hb173, hb174, Bool.and_true, Bool.true_and, Bool.false_and, Bool.and_false, Bool.or_true, Bool.true_or, Bool.or_false, Bool.false_or, Bool.not_true, Bool.not_false]), trivial⟩
end Go.Sim
