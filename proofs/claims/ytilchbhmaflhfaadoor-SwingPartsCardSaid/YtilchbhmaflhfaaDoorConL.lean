/-
  Printed by a program: each Go function computes its model.
-/
import Derived.Test.YtilchbhmaflhfaaDoorConL3
namespace Go.Sim
open Go Go.Proofs.Tryd
set_option linter.unusedVariables false
set_option linter.unusedSimpArgs false
set_option maxRecDepth 100000
theorem m_gridhallkeep4_SwingNearer_c {B : Nat} {w0 w : World} [Tabs B w0] {H : Hp} {M : List Res} {p0_x : S_api_SwingIsland} {r : Bool} (hm : m_gridhallkeep4_SwingNearer p0_x = some r) (ht : St B w0 H (M) w) :
  Calls prog 5 [.agg [.int .i64 (p0_x.Inertia), .int .i64 (p0_x.Damping), .int .i64 (p0_x.Supply), .int .i64 (p0_x.Demand), .string (p0_x.Frequency)].toArray].toArray w (Ret B w0 fun H' M' v => H = H' ∧ M = M' ∧ .bool (r) = v) := by
 unfold m_gridhallkeep4_SwingNearer at hm
 refine enter func5 rfl rfl rfl ht ?_
 refine C_seq (C_region ?_)
 refine W_box (cs := [.int .i64 (p0_x.Inertia), .int .i64 (p0_x.Damping), .int .i64 (p0_x.Supply), .int .i64 (p0_x.Demand), .string (p0_x.Frequency)]) rfl rfl rfl rfl (fun b101 => ?_)
 refine W_assign rfl rfl rfl ?_
 refine W_end (E_then (C_seq (C_region ?_)))
 refine W_loadAgg rfl rfl isAgg24 sizeOf24 rfl (own_all (List.mem_cons_self ..)) rfl ?_
 obtain ⟨r102, hc103, hm⟩ := bind_some hm
 refine W_call call8 rfl rfl rfl (fun w ht => by have h := m_swing_Steady_c (hm := hc103)  ht; exact h) ?_
 rintro _ _ _ ⟨rfl, rfl, rfl⟩
 refine W_move rfl rfl rfl ?_
 refine W_extract rfl rfl rfl rfl ?_
 refine W_extract rfl rfl rfl rfl ?_
 refine W_assign rfl rfl rfl ?_
 refine W_assign rfl rfl rfl ?_
 refine W_end (E_then (C_seq (C_region ?_)))
 refine W_loadAgg rfl rfl isAgg24 sizeOf24 rfl (own_all (List.mem_cons_self ..)) rfl ?_
 obtain ⟨r104, hc105, hm⟩ := bind_some hm
 refine W_call call11 rfl rfl rfl (fun w ht => by have h := m_swing_Step_c (hm := hc105)  ht; exact h) ?_
 rintro _ _ _ ⟨rfl, rfl, rfl⟩
 refine W_move rfl rfl rfl ?_
 refine W_extract rfl rfl rfl rfl ?_
 refine W_extract rfl rfl rfl rfl ?_
 refine W_alloc (cs := [.int .i64 (0), .int .i64 (0), .int .i64 (0), .int .i64 (0), .string (⟨#[]⟩)]) rfl rfl zeroValue24 rfl (fun b106 => ?_)
 refine W_store (cs := [.int .i64 (r104.1.Inertia), .int .i64 (r104.1.Damping), .int .i64 (r104.1.Supply), .int .i64 (r104.1.Demand), .string (r104.1.Frequency)]) (out := [.int .i64 (r104.1.Inertia), .int .i64 (r104.1.Damping), .int .i64 (r104.1.Supply), .int .i64 (r104.1.Demand), .string (r104.1.Frequency)]) rfl sizeOf24 rfl rfl rfl rfl rfl (all_cons rfl (all_cons rfl (all_cons rfl (all_cons rfl (all_cons rfl all_nil))))) (over_all rfl) ?_
 refine W_assign rfl rfl rfl ?_
 refine W_end (E_then (C_seq ?_))
 refine C_seq_join (fun H' M' L' => H = H' ∧ .obj b106 (.cells ([.int .i64 (r104.1.Inertia), .int .i64 (r104.1.Damping), .int .i64 (r104.1.Supply), .int .i64 (r104.1.Demand), .string (r104.1.Frequency)] : List Value).toArray 24 (0, 0)) :: .obj b101 (.cells ([.int .i64 (p0_x.Inertia), .int .i64 (p0_x.Damping), .int .i64 (p0_x.Supply), .int .i64 (p0_x.Demand), .string (p0_x.Frequency)] : List Value).toArray 24 (0, 0)) :: M = M' ∧ [(1, .pointer (some ⟨b101, 0, none⟩)), (3, .string (r102.1)), (5, .pointer (some ⟨b106, 0, none⟩)), (30, .bool ((!decide (r102.2 = 0)) || (!decide (r104.2 = 0))))] = L') ?_ (fun J108 => ?_)
 ·rintro _ _ _ ⟨rfl, rfl, rfl⟩
  refine C_cond (b := (!decide (r102.2 = 0)) || (!decide (r104.2 = 0))) rfl (fun hb109 => ?_) (fun hb109 => ?_)
  ·have hm := ite_t' hb109 hm
   refine C_seq (C_region ?_)
   obtain ⟨r110, hc111, hm⟩ := bind_some hm
   refine W_call call9 rfl rfl rfl (fun w ht => by have h := m_gridhallkeep4_swingFact_c (hm := hc111)  ht; exact h) ?_
   rintro _ _ _ ⟨rfl, rfl, rfl⟩
   refine W_assign rfl rfl rfl ?_
   refine W_end (E_then (C_ret (E_ret_then ?_)))
   obtain rfl := Option.some.inj hm
   refine E_drop (List.Sublist.cons _ (List.Sublist.cons _ (List.Sublist.refl _))) ?_
   refine E_weak (Hp.le_refl _) ?_
   exact end1 rfl rfl ⟨rfl, rfl, rfl⟩
  ·have hm := ite_f' hb109 hm
   refine C_skip (E_then (C_seq (C_region ?_)))
   refine W_field (o := 4) rfl rfl runUnderlying24 rfl sizeOf22 rfl rfl rfl ?_
   refine W_load rfl rfl isAgg22 rfl (own_at (List.mem_cons_of_mem _ (List.mem_cons_self ..)) rfl) ?_
   refine W_move rfl rfl rfl ?_
   obtain ⟨r112, hc113, hm⟩ := bind_some hm
   refine W_call call15 rfl rfl rfl (fun w ht => by have h := m_rat_Sub_c (hm := hc113)  ht; exact h) ?_
   rintro _ _ _ ⟨rfl, rfl, rfl⟩
   refine W_move rfl rfl rfl ?_
   refine W_extract rfl rfl rfl rfl ?_
   refine W_extract rfl rfl rfl rfl ?_
   refine W_assign rfl rfl rfl ?_
   refine W_assign rfl rfl rfl ?_
   refine W_end (E_then (C_seq (C_region ?_)))
   refine W_field (o := 4) rfl rfl runUnderlying24 rfl sizeOf22 rfl rfl rfl ?_
   refine W_load rfl rfl isAgg22 rfl (own_at (List.mem_cons_self ..) rfl) ?_
   refine W_move rfl rfl rfl ?_
   obtain ⟨r114, hc115, hm⟩ := bind_some hm
   refine W_call call15 rfl rfl rfl (fun w ht => by have h := m_rat_Sub_c (hm := hc115)  ht; exact h) ?_
   rintro _ _ _ ⟨rfl, rfl, rfl⟩
   refine W_move rfl rfl rfl ?_
   refine W_extract rfl rfl rfl rfl ?_
   refine W_extract rfl rfl rfl rfl ?_
   refine W_assign rfl rfl rfl ?_
   refine W_assign rfl rfl rfl ?_
   refine W_end (E_then (C_seq (C_region ?_)))
   refine W_field (o := 0) rfl rfl runUnderlying24 rfl sizeOf3 rfl rfl rfl ?_
   refine W_load rfl rfl isAgg3 rfl (own_at (List.mem_cons_of_mem _ (List.mem_cons_self ..)) rfl) ?_
   refine W_field (o := 1) rfl rfl runUnderlying24 rfl sizeOf3 rfl rfl rfl ?_
   refine W_load rfl rfl isAgg3 rfl (own_at (List.mem_cons_of_mem _ (List.mem_cons_self ..)) rfl) ?_
   refine W_bin rfl rfl rfl rfl rfl ?_
   refine W_field (o := 0) rfl rfl runUnderlying24 rfl sizeOf3 rfl rfl rfl ?_
   refine W_load rfl rfl isAgg3 rfl (own_at (List.mem_cons_of_mem _ (List.mem_cons_self ..)) rfl) ?_
   obtain ⟨r116, hc117, hm⟩ := bind_some hm
   refine W_call call16 rfl rfl rfl (fun w ht => by have h := m_rat_Of_c (hm := hc117)  ht; exact h) ?_
   rintro _ _ _ ⟨rfl, rfl, rfl⟩
   refine W_move rfl rfl rfl ?_
   refine W_extract rfl rfl rfl rfl ?_
   refine W_extract rfl rfl rfl rfl ?_
   refine W_assign rfl rfl rfl ?_
   refine W_assign rfl rfl rfl ?_
   refine W_end (E_then (C_seq (C_region ?_)))
   refine W_move rfl rfl rfl ?_
   refine W_move rfl rfl rfl ?_
   obtain ⟨r118, hc119, hm⟩ := bind_some hm
   refine W_call call17 rfl rfl rfl (fun w ht => by have h := m_rat_Mul_c (hm := hc119)  ht; exact h) ?_
   rintro _ _ _ ⟨rfl, rfl, rfl⟩
   refine W_move rfl rfl rfl ?_
   refine W_extract rfl rfl rfl rfl ?_
   refine W_extract rfl rfl rfl rfl ?_
   refine W_assign rfl rfl rfl ?_
   refine W_assign rfl rfl rfl ?_
   refine W_end (E_then (C_seq ?_))
   refine C_seq_join (fun H' M' L' => H = H' ∧ M = M' ∧ [(9, .string (r114.1)), (13, .string (r118.1)), (76, .bool ((((!decide (r112.2 = 0)) || (!decide (r114.2 = 0))) || (!decide (r116.2 = 0))) || (!decide (r118.2 = 0))))] = L') ?_ (fun J123 => ?_)
   ·rintro _ _ _ ⟨rfl, rfl, rfl⟩
    refine C_cond (b := (((!decide (r112.2 = 0)) || (!decide (r114.2 = 0))) || (!decide (r116.2 = 0))) || (!decide (r118.2 = 0))) rfl (fun hb124 => ?_) (fun hb124 => ?_)
    ·have hm := ite_t' hb124 hm
     refine C_seq (C_region ?_)
     obtain ⟨r125, hc126, hm⟩ := bind_some hm
     refine W_call call9 rfl rfl rfl (fun w ht => by have h := m_gridhallkeep4_swingFact_c (hm := hc126)  ht; exact h) ?_
     rintro _ _ _ ⟨rfl, rfl, rfl⟩
     refine W_assign rfl rfl rfl ?_
     refine W_end (E_then (C_ret (E_ret_then ?_)))
     obtain rfl := Option.some.inj hm
     refine E_weak (Hp.le_refl _) ?_
     exact end1 rfl rfl ⟨rfl, rfl, rfl⟩
    ·have hm := ite_f' hb124 hm
     refine C_skip (E_then ?_)
     obtain ⟨r130, hc131, hm⟩ := bind_some hm
     refine C_seq_join (fun H' M' L' => H = H' ∧ M = M' ∧ [(2, .bool (r130 && (decide (r114.1 = r118.1))))] = L') ?_ (fun J132 => ?_)
     ·rintro _ _ _ ⟨rfl, rfl, rfl⟩
      refine C_ret ?_
      obtain rfl := Option.some.inj hm
      refine E_weak (Hp.le_refl _) ?_
      exact end1 rfl rfl ⟨rfl, rfl, rfl⟩
     ·refine C_region ?_
      refine W_call call9 rfl rfl rfl (fun w ht => by have h := m_gridhallkeep4_swingFact_c (hm := hc131)  ht; exact h) ?_
      rintro _ _ _ ⟨rfl, rfl, rfl⟩
      refine W_move rfl rfl rfl ?_
      cases hb133 : (r130)
      ·refine W_no rfl rfl rfl ?_
       refine W_no rfl rfl rfl ?_
       refine W_no rfl rfl rfl ?_
       refine W_pick rfl rfl rfl rfl ?_
       refine W_assign rfl rfl rfl ?_
       refine W_end ?_
       exact E_keepJ (J132 _ _ _ ⟨rfl, rfl, rfl⟩) (List.Perm.refl _) ⟨(by show some (Value.bool (false)) = some (Value.bool (r130 && (decide (r114.1 = r118.1)))); first | (simp only [hb109, hb124, hb133, Bool.and_true, Bool.true_and, Bool.false_and, Bool.and_false, Bool.or_true, Bool.true_or, Bool.or_false, Bool.false_or, Bool.not_true, Bool.not_false]; done) | (simp only [hb109, hb124, hb133]; first | done | simp only [Bool.and_true, Bool.true_and, Bool.false_and, Bool.and_false, Bool.or_true, Bool.true_or, Bool.or_false, Bool.false_or, Bool.not_true, Bool.not_false])), trivial⟩
      ·refine W_move rfl rfl rfl ?_
       refine W_move rfl rfl rfl ?_
       refine W_bin rfl rfl rfl rfl rfl ?_
       refine W_pick rfl rfl rfl rfl ?_
       refine W_assign rfl rfl rfl ?_
       refine W_end ?_
       exact E_keepJ (J132 _ _ _ ⟨rfl, rfl, rfl⟩) (List.Perm.refl _) ⟨(by show some (Value.bool (decide (r114.1 = r118.1))) = some (Value.bool (r130 && (decide (r114.1 = r118.1)))); first | (simp only [hb109, hb124, hb133, Bool.and_true, Bool.true_and, Bool.false_and, Bool.and_false, Bool.or_true, Bool.true_or, Bool.or_false, Bool.false_or, Bool.not_true, Bool.not_false]; done) | (simp only [hb109, hb124, hb133]; first | done | simp only [Bool.and_true, Bool.true_and, Bool.false_and, Bool.and_false, Bool.or_true, Bool.true_or, Bool.or_false, Bool.false_or, Bool.not_true, Bool.not_false])), trivial⟩
   ·refine C_region ?_
    refine W_move rfl rfl rfl ?_
    refine W_bin rfl rfl rfl rfl rfl ?_
    refine W_move rfl rfl rfl ?_
    cases hb134 : (decide (r112.2 = 0))
    ·refine W_no rfl rfl rfl ?_
     refine W_no rfl rfl rfl ?_
     refine W_pick rfl rfl rfl rfl ?_
     refine W_move rfl rfl rfl ?_
     refine W_no rfl rfl rfl ?_
     refine W_no rfl rfl rfl ?_
     refine W_pick rfl rfl rfl rfl ?_
     refine W_move rfl rfl rfl ?_
     refine W_no rfl rfl rfl ?_
     refine W_no rfl rfl rfl ?_
     refine W_pick rfl rfl rfl rfl ?_
     refine W_end ?_
     refine E_drop (List.Sublist.cons _ (List.Sublist.cons _ (List.Sublist.refl _))) ?_
     exact E_keepJ (J123 _ _ _ ⟨rfl, rfl, rfl⟩) (List.Perm.refl _) ⟨rfl, rfl, (by show some (Value.bool (true)) = some (Value.bool ((((!decide (r112.2 = 0)) || (!decide (r114.2 = 0))) || (!decide (r116.2 = 0))) || (!decide (r118.2 = 0)))); first | (simp only [hb109, hb134, Bool.and_true, Bool.true_and, Bool.false_and, Bool.and_false, Bool.or_true, Bool.true_or, Bool.or_false, Bool.false_or, Bool.not_true, Bool.not_false]; done) | (simp only [hb109, hb134]; first | done | simp only [Bool.and_true, Bool.true_and, Bool.false_and, Bool.and_false, Bool.or_true, Bool.true_or, Bool.or_false, Bool.false_or, Bool.not_true, Bool.not_false])), trivial⟩
    ·refine W_move rfl rfl rfl ?_
     refine W_bin rfl rfl rfl rfl rfl ?_
     refine W_pick rfl rfl rfl rfl ?_
     refine W_move rfl rfl rfl ?_
     cases hb135 : (decide (r114.2 = 0))
     ·refine W_no rfl rfl rfl ?_
      refine W_no rfl rfl rfl ?_
      refine W_pick rfl rfl rfl rfl ?_
      refine W_move rfl rfl rfl ?_
      refine W_no rfl rfl rfl ?_
      refine W_no rfl rfl rfl ?_
      refine W_pick rfl rfl rfl rfl ?_
      refine W_end ?_
      refine E_drop (List.Sublist.cons _ (List.Sublist.cons _ (List.Sublist.refl _))) ?_
      exact E_keepJ (J123 _ _ _ ⟨rfl, rfl, rfl⟩) (List.Perm.refl _) ⟨rfl, rfl, (by show some (Value.bool (true)) = some (Value.bool ((((!decide (r112.2 = 0)) || (!decide (r114.2 = 0))) || (!decide (r116.2 = 0))) || (!decide (r118.2 = 0)))); first | (simp only [hb109, hb134, hb135, Bool.and_true, Bool.true_and, Bool.false_and, Bool.and_false, Bool.or_true, Bool.true_or, Bool.or_false, Bool.false_or, Bool.not_true, Bool.not_false]; done) | (simp only [hb109, hb134, hb135]; first | done | simp only [Bool.and_true, Bool.true_and, Bool.false_and, Bool.and_false, Bool.or_true, Bool.true_or, Bool.or_false, Bool.false_or, Bool.not_true, Bool.not_false])), trivial⟩
     ·refine W_move rfl rfl rfl ?_
      refine W_bin rfl rfl rfl rfl rfl ?_
      refine W_pick rfl rfl rfl rfl ?_
      refine W_move rfl rfl rfl ?_
      cases hb136 : (decide (r116.2 = 0))
      ·refine W_no rfl rfl rfl ?_
       refine W_no rfl rfl rfl ?_
       refine W_pick rfl rfl rfl rfl ?_
       refine W_end ?_
       refine E_drop (List.Sublist.cons _ (List.Sublist.cons _ (List.Sublist.refl _))) ?_
       exact E_keepJ (J123 _ _ _ ⟨rfl, rfl, rfl⟩) (List.Perm.refl _) ⟨rfl, rfl, (by show some (Value.bool (true)) = some (Value.bool ((((!decide (r112.2 = 0)) || (!decide (r114.2 = 0))) || (!decide (r116.2 = 0))) || (!decide (r118.2 = 0)))); first | (simp only [hb109, hb134, hb135, hb136, Bool.and_true, Bool.true_and, Bool.false_and, Bool.and_false, Bool.or_true, Bool.true_or, Bool.or_false, Bool.false_or, Bool.not_true, Bool.not_false]; done) | (simp only [hb109, hb134, hb135, hb136]; first | done | simp only [Bool.and_true, Bool.true_and, Bool.false_and, Bool.and_false, Bool.or_true, Bool.true_or, Bool.or_false, Bool.false_or, Bool.not_true, Bool.not_false])), trivial⟩
      ·refine W_move rfl rfl rfl ?_
       refine W_bin rfl rfl rfl rfl rfl ?_
       refine W_pick rfl rfl rfl rfl ?_
       refine W_end ?_
       refine E_drop (List.Sublist.cons _ (List.Sublist.cons _ (List.Sublist.refl _))) ?_
       exact E_keepJ (J123 _ _ _ ⟨rfl, rfl, rfl⟩) (List.Perm.refl _) ⟨rfl, rfl, (by show some (Value.bool (!decide (r118.2 = 0))) = some (Value.bool ((((!decide (r112.2 = 0)) || (!decide (r114.2 = 0))) || (!decide (r116.2 = 0))) || (!decide (r118.2 = 0)))); first | (simp only [hb109, hb134, hb135, hb136, Bool.and_true, Bool.true_and, Bool.false_and, Bool.and_false, Bool.or_true, Bool.true_or, Bool.or_false, Bool.false_or, Bool.not_true, Bool.not_false]; done) | (simp only [hb109, hb134, hb135, hb136]; first | done | simp only [Bool.and_true, Bool.true_and, Bool.false_and, Bool.and_false, Bool.or_true, Bool.true_or, Bool.or_false, Bool.false_or, Bool.not_true, Bool.not_false])), trivial⟩
 ·refine C_region ?_
  refine W_move rfl rfl rfl ?_
  refine W_bin rfl rfl rfl rfl rfl ?_
  refine W_move rfl rfl rfl ?_
  cases hb137 : (decide (r102.2 = 0))
  ·refine W_no rfl rfl rfl ?_
   refine W_no rfl rfl rfl ?_
   refine W_pick rfl rfl rfl rfl ?_
   refine W_end ?_
   exact E_keepJ (J108 _ _ _ ⟨rfl, rfl, rfl⟩) (List.Perm.refl _) ⟨rfl, rfl, rfl, (by show some (Value.bool (true)) = some (Value.bool ((!decide (r102.2 = 0)) || (!decide (r104.2 = 0)))); first | (simp only [hb137, Bool.and_true, Bool.true_and, Bool.false_and, Bool.and_false, Bool.or_true, Bool.true_or, Bool.or_false, Bool.false_or, Bool.not_true, Bool.not_false]; done) | (simp only [hb137]; first | done | simp only [Bool.and_true, Bool.true_and, Bool.false_and, Bool.and_false, Bool.or_true, Bool.true_or, Bool.or_false, Bool.false_or, Bool.not_true, Bool.not_false])), trivial⟩
  ·refine W_move rfl rfl rfl ?_
   refine W_bin rfl rfl rfl rfl rfl ?_
   refine W_pick rfl rfl rfl rfl ?_
   refine W_end ?_
   exact E_keepJ (J108 _ _ _ ⟨rfl, rfl, rfl⟩) (List.Perm.refl _) ⟨rfl, rfl, rfl, (by show some (Value.bool (!decide (r104.2 = 0))) = some (Value.bool ((!decide (r102.2 = 0)) || (!decide (r104.2 = 0)))); first | (simp only [hb137, Bool.and_true, Bool.true_and, Bool.false_and, Bool.and_false, Bool.or_true, Bool.true_or, Bool.or_false, Bool.false_or, Bool.not_true, Bool.not_false]; done) | (simp only [hb137]; first | done | simp only [Bool.and_true, Bool.true_and, Bool.false_and, Bool.and_false, Bool.or_true, Bool.true_or, Bool.or_false, Bool.false_or, Bool.not_true, Bool.not_false])), trivial⟩

theorem m_swing_Join_c {B : Nat} {w0 w : World} [Tabs B w0] {H : Hp} {M : List Res} {p0_a : S_api_SwingIsland} {p1_b : S_api_SwingIsland} {r : S_api_SwingIsland × Int} (hm : m_swing_Join p0_a p1_b = some r) (ht : St B w0 H (M) w) :
  Calls prog 18 [.agg [.int .i64 (p0_a.Inertia), .int .i64 (p0_a.Damping), .int .i64 (p0_a.Supply), .int .i64 (p0_a.Demand), .string (p0_a.Frequency)].toArray, .agg [.int .i64 (p1_b.Inertia), .int .i64 (p1_b.Damping), .int .i64 (p1_b.Supply), .int .i64 (p1_b.Demand), .string (p1_b.Frequency)].toArray].toArray w (Ret B w0 fun H' M' v => H = H' ∧ M = M' ∧ .tuple #[.agg [.int .i64 (r.1.Inertia), .int .i64 (r.1.Damping), .int .i64 (r.1.Supply), .int .i64 (r.1.Demand), .string (r.1.Frequency)].toArray, .int .i64 (r.2)] = v) := by
 unfold m_swing_Join at hm
 refine enter func18 rfl rfl rfl ht ?_
 refine C_seq (C_region ?_)
 refine W_box (cs := [.int .i64 (p0_a.Inertia), .int .i64 (p0_a.Damping), .int .i64 (p0_a.Supply), .int .i64 (p0_a.Demand), .string (p0_a.Frequency)]) rfl rfl rfl rfl (fun b101 => ?_)
 refine W_box (cs := [.int .i64 (p1_b.Inertia), .int .i64 (p1_b.Damping), .int .i64 (p1_b.Supply), .int .i64 (p1_b.Demand), .string (p1_b.Frequency)]) rfl rfl rfl rfl (fun b102 => ?_)
 refine W_alloc (cs := [.int .i64 (0), .int .i64 (0), .int .i64 (0), .int .i64 (0), .string (⟨#[]⟩)]) rfl rfl zeroValue24 rfl (fun b103 => ?_)
 refine W_assign rfl rfl rfl ?_
 refine W_end (E_then (C_seq (C_region ?_)))
 refine W_build (css := []) (zs := [.int .i64 (0), .int .i64 (0), .int .i64 (0), .int .i64 (0), .string (⟨#[]⟩)]) (out := [.int .i64 (0), .int .i64 (0), .int .i64 (0), .int .i64 (0), .string (⟨#[]⟩)]) (places := [(0, 1), (1, 1), (2, 1), (3, 1), (4, 1)]) rfl rfl rfl trivial zeroValue24 rfl runUnderlying24 (fun w => by kernel_rfl) rfl ?_
 refine W_alloc (cs := [.int .i64 (0), .int .i64 (0), .int .i64 (0), .int .i64 (0), .string (⟨#[]⟩)]) rfl rfl zeroValue24 rfl (fun b104 => ?_)
 refine W_store (cs := [.int .i64 (0), .int .i64 (0), .int .i64 (0), .int .i64 (0), .string (⟨#[]⟩)]) (out := [.int .i64 (0), .int .i64 (0), .int .i64 (0), .int .i64 (0), .string (⟨#[]⟩)]) rfl sizeOf24 rfl rfl rfl rfl rfl (all_cons rfl (all_cons rfl (all_cons rfl (all_cons rfl (all_cons rfl all_nil))))) (over_all rfl) ?_
 refine W_end (E_then (C_seq (C_seq (C_region ?_))))
 refine W_loadAgg rfl rfl isAgg24 sizeOf24 rfl (own_all (List.mem_cons_of_mem _ (List.mem_cons_of_mem _ (List.mem_cons_of_mem _ (List.mem_cons_self ..))))) rfl ?_
 refine W_loadAgg rfl rfl isAgg24 sizeOf24 rfl (own_all (List.mem_cons_of_mem _ (List.mem_cons_of_mem _ (List.mem_cons_self ..)))) rfl ?_
 refine W_buildSliceO (α := S_api_SwingIsland) (css := [[.int .i64 (p0_a.Inertia), .int .i64 (p0_a.Damping), .int .i64 (p0_a.Supply), .int .i64 (p0_a.Demand), .string (p0_a.Frequency)], [.int .i64 (p1_b.Inertia), .int .i64 (p1_b.Damping), .int .i64 (p1_b.Supply), .int .i64 (p1_b.Demand), .string (p1_b.Frequency)]]) (zs := [.int .i64 (0), .int .i64 (0), .int .i64 (0), .int .i64 (0), .string (⟨#[]⟩), .int .i64 (0), .int .i64 (0), .int .i64 (0), .int .i64 (0), .string (⟨#[]⟩)]) (out := [.int .i64 (p0_a.Inertia), .int .i64 (p0_a.Damping), .int .i64 (p0_a.Supply), .int .i64 (p0_a.Demand), .string (p0_a.Frequency), .int .i64 (p1_b.Inertia), .int .i64 (p1_b.Damping), .int .i64 (p1_b.Supply), .int .i64 (p1_b.Demand), .string (p1_b.Frequency)]) (ys := [p0_a, p1_b]) rfl rfl rfl ⟨rfl, rfl, trivial⟩ runUnderlying59 sizeOf24 rfl zeroValue24 (by kernel_rfl) rfl rfl rfl rfl ⟨[.int .i64 (p0_a.Inertia), .int .i64 (p0_a.Damping), .int .i64 (p0_a.Supply), .int .i64 (p0_a.Demand), .string (p0_a.Frequency)], [.int .i64 (p1_b.Inertia), .int .i64 (p1_b.Damping), .int .i64 (p1_b.Supply), .int .i64 (p1_b.Demand), .string (p1_b.Frequency)], rfl, rfl, ⟨[.int .i64 (p1_b.Inertia), .int .i64 (p1_b.Damping), .int .i64 (p1_b.Supply), .int .i64 (p1_b.Demand), .string (p1_b.Frequency)], [], rfl, rfl, rfl⟩⟩ rfl ?_
 intro v105 xs106 hr107
 refine W_lenO (List.mem_cons_self ..) rfl rfl runUnderlying59 rfl ?_
 refine W_move rfl rfl rfl ?_
 refine W_end (E_then (C_block ?_))
 refine C_rowMax (List.mem_cons_self ..) (fun hmx125 => ?_)
 refine C_keep (L' := [(2, .pointer (some ⟨b101, 0, none⟩)), (3, .pointer (some ⟨b102, 0, none⟩)), (4, .pointer (some ⟨b103, 0, none⟩)), (6, .pointer (some ⟨b104, 0, none⟩)), (16, v105), (17, .int .i64 ((([p0_a, p1_b]).length : Int))), (18, .int .i64 (((0 : Nat) : Int)))]) ⟨rfl, rfl, rfl, rfl, rfl, rfl, rfl, trivial⟩ (List.Perm.refl _) ?_
 refine C_loop (fun n H' M' L' => ∃ (k108 : Nat) (zs127' : List S_api_SwingIsland), ([p0_a, p1_b]).drop k108 = zs127' ∧ zs127'.length = n ∧ forI (fun k y s121 n => m_swing_Join_b1 k y n) (fun _ => if ((decide (1000 < (IntKind.i64.wrap (p0_a.Inertia + p1_b.Inertia)))) || (decide (100000 < (IntKind.i64.wrap (p0_a.Supply + p1_b.Supply))))) || (decide (100000 < (IntKind.i64.wrap (p0_a.Demand + p1_b.Demand)))) then (some ((S_api_SwingIsland.mk 0 0 0 0 (⟨#[]⟩)), 2)) else ((m_swing_momentum p0_a).bind fun r142 => (m_swing_momentum p1_b).bind fun r150 => (m_large_Rat_Add r142 r150).bind fun r158 => (m_large_Whole (IntKind.i64.wrap (p0_a.Inertia + p1_b.Inertia))).bind fun r166 => (m_large_Rat_Div r158 r166).bind fun r174 => (m_swing_text r174).bind fun r182 => if !decide (r182.2 = 0) then (some ((S_api_SwingIsland.mk 0 0 0 0 (⟨#[]⟩)), r182.2)) else (some ((S_api_SwingIsland.mk (IntKind.i64.wrap (p0_a.Inertia + p1_b.Inertia)) (IntKind.i64.wrap (p0_a.Damping + p1_b.Damping)) (IntKind.i64.wrap (p0_a.Supply + p1_b.Supply)) (IntKind.i64.wrap (p0_a.Demand + p1_b.Demand)) r182.1), 0)))) k108 zs127' () = some r ∧ H.le H' ∧ .row v105 24 (Rep.sz S_api_SwingIsland) ([p0_a, p1_b]).length xs106 :: .obj b104 (.cells ([.int .i64 (0), .int .i64 (0), .int .i64 (0), .int .i64 (0), .string (⟨#[]⟩)] : List Value).toArray 24 (0, 0)) :: .obj b103 (.cells ([.int .i64 (0), .int .i64 (0), .int .i64 (0), .int .i64 (0), .string (⟨#[]⟩)] : List Value).toArray 24 (0, 0)) :: .obj b102 (.cells ([.int .i64 (p1_b.Inertia), .int .i64 (p1_b.Damping), .int .i64 (p1_b.Supply), .int .i64 (p1_b.Demand), .string (p1_b.Frequency)] : List Value).toArray 24 (0, 0)) :: .obj b101 (.cells ([.int .i64 (p0_a.Inertia), .int .i64 (p0_a.Damping), .int .i64 (p0_a.Supply), .int .i64 (p0_a.Demand), .string (p0_a.Frequency)] : List Value).toArray 24 (0, 0)) :: M = M' ∧ [(2, .pointer (some ⟨b101, 0, none⟩)), (3, .pointer (some ⟨b102, 0, none⟩)), (4, .pointer (some ⟨b103, 0, none⟩)), (6, .pointer (some ⟨b104, 0, none⟩)), (16, v105), (17, .int .i64 ((([p0_a, p1_b]).length : Int))), (18, .int .i64 ((k108 : Int)))] = L') _ ⟨0, _, rfl, rfl, hm, (Hp.le_refl _), rfl, rfl⟩ ?_
 rintro _ H119 _ _ ⟨k108, zs127', hd129, rfl, hm, hle120, rfl, rfl⟩
 refine C_seq (C_region ?_)
 refine W_bin rfl rfl rfl rfl rfl ?_
 refine W_end (E_then (C_seq ?_))
 refine C_cond (b := decide ((k108 : Int) < (([p0_a, p1_b]).length : Int))) rfl (fun hb131 => ?_) (fun hb131 => ?_)
 ·obtain ⟨y126, zs127, rfl, hy128, hd130⟩ := rng_t hd129 hb131
  have hm : m_swing_Join_b1 k108 y126 (forI (fun k y s121 n => m_swing_Join_b1 k y n) (fun _ => if ((decide (1000 < (IntKind.i64.wrap (p0_a.Inertia + p1_b.Inertia)))) || (decide (100000 < (IntKind.i64.wrap (p0_a.Supply + p1_b.Supply))))) || (decide (100000 < (IntKind.i64.wrap (p0_a.Demand + p1_b.Demand)))) then (some ((S_api_SwingIsland.mk 0 0 0 0 (⟨#[]⟩)), 2)) else ((m_swing_momentum p0_a).bind fun r142 => (m_swing_momentum p1_b).bind fun r150 => (m_large_Rat_Add r142 r150).bind fun r158 => (m_large_Whole (IntKind.i64.wrap (p0_a.Inertia + p1_b.Inertia))).bind fun r166 => (m_large_Rat_Div r158 r166).bind fun r174 => (m_swing_text r174).bind fun r182 => if !decide (r182.2 = 0) then (some ((S_api_SwingIsland.mk 0 0 0 0 (⟨#[]⟩)), r182.2)) else (some ((S_api_SwingIsland.mk (IntKind.i64.wrap (p0_a.Inertia + p1_b.Inertia)) (IntKind.i64.wrap (p0_a.Damping + p1_b.Damping)) (IntKind.i64.wrap (p0_a.Supply + p1_b.Supply)) (IntKind.i64.wrap (p0_a.Demand + p1_b.Demand)) r182.1), 0)))) (k108 + 1) zs127) = some r := hm
  generalize hn123 : forI (fun k y s121 n => m_swing_Join_b1 k y n) (fun _ => if ((decide (1000 < (IntKind.i64.wrap (p0_a.Inertia + p1_b.Inertia)))) || (decide (100000 < (IntKind.i64.wrap (p0_a.Supply + p1_b.Supply))))) || (decide (100000 < (IntKind.i64.wrap (p0_a.Demand + p1_b.Demand)))) then (some ((S_api_SwingIsland.mk 0 0 0 0 (⟨#[]⟩)), 2)) else ((m_swing_momentum p0_a).bind fun r142 => (m_swing_momentum p1_b).bind fun r150 => (m_large_Rat_Add r142 r150).bind fun r158 => (m_large_Whole (IntKind.i64.wrap (p0_a.Inertia + p1_b.Inertia))).bind fun r166 => (m_large_Rat_Div r158 r166).bind fun r174 => (m_swing_text r174).bind fun r182 => if !decide (r182.2 = 0) then (some ((S_api_SwingIsland.mk 0 0 0 0 (⟨#[]⟩)), r182.2)) else (some ((S_api_SwingIsland.mk (IntKind.i64.wrap (p0_a.Inertia + p1_b.Inertia)) (IntKind.i64.wrap (p0_a.Damping + p1_b.Damping)) (IntKind.i64.wrap (p0_a.Supply + p1_b.Supply)) (IntKind.i64.wrap (p0_a.Demand + p1_b.Demand)) r182.1), 0)))) (k108 + 1) zs127 = nx122 at hm
  unfold m_swing_Join_b1 at hm
  refine C_skip (E_then (C_seq (C_block (C_seq (C_region ?_)))))
  refine W_indexO (List.mem_cons_self ..) rfl rfl runUnderlying59 sizeOf24 rfl rfl (Int.natCast_nonneg _) (List.getElem?_eq_some_iff.1 hy128).1 ?_
  obtain ⟨_, rfl, hg132⟩ := (hr107).elem hy128
  refine W_loadAgg (cs := [.int .i64 (y126.Inertia), .int .i64 (y126.Damping), .int .i64 (y126.Supply), .int .i64 (y126.Demand), .string (y126.Frequency)]) rfl rfl isAgg24 sizeOf24 rfl (row_cells (List.mem_cons_self ..) hg132) rfl ?_
  refine W_alloc (cs := [.int .i64 (0), .int .i64 (0), .int .i64 (0), .int .i64 (0), .string (⟨#[]⟩)]) rfl rfl zeroValue24 rfl (fun b133 => ?_)
  refine W_store (cs := [.int .i64 (y126.Inertia), .int .i64 (y126.Damping), .int .i64 (y126.Supply), .int .i64 (y126.Demand), .string (y126.Frequency)]) (out := [.int .i64 (y126.Inertia), .int .i64 (y126.Damping), .int .i64 (y126.Supply), .int .i64 (y126.Demand), .string (y126.Frequency)]) rfl sizeOf24 rfl rfl rfl rfl rfl (all_cons rfl (all_cons rfl (all_cons rfl (all_cons rfl (all_cons rfl all_nil))))) (over_all rfl) ?_
  refine W_end (E_then (C_seq (C_region ?_)))
  refine W_loadAgg rfl rfl isAgg24 sizeOf24 rfl (own_all (List.mem_cons_self ..)) rfl ?_
  obtain ⟨r134, hc135, hm⟩ := bind_some hm
  refine W_call call10 rfl rfl rfl (fun w ht => by have h := m_swing_Check_c (hm := hc135)  ht; exact h) ?_
  rintro _ _ _ ⟨rfl, rfl, rfl⟩
  refine W_assign rfl rfl rfl ?_
  refine W_end (E_then (C_seq (C_region ?_)))
  refine W_move rfl rfl rfl ?_
  refine W_bin rfl rfl rfl rfl rfl ?_
  refine W_end (E_then ?_)
  refine C_cond (b := !decide (r134 = 0)) rfl (fun hb136 => ?_) (fun hb136 => ?_)
  ·have hm := ite_t' hb136 hm
   refine C_seq (C_region ?_)
   refine W_loadAgg rfl rfl isAgg24 sizeOf24 rfl (own_all (List.mem_cons_of_mem _ (List.mem_cons_of_mem _ (List.mem_cons_self ..)))) rfl ?_
   refine W_move rfl rfl rfl ?_
   refine W_perm (List.Perm.trans (List.Perm.cons _ (List.Perm.cons _ (List.Perm.swap _ _ _))) (List.Perm.trans (List.Perm.cons _ (List.Perm.swap _ _ _)) (List.Perm.swap _ _ _))) ?_
   refine W_store (cs := [.int .i64 (0), .int .i64 (0), .int .i64 (0), .int .i64 (0), .string (⟨#[]⟩)]) (out := [.int .i64 (0), .int .i64 (0), .int .i64 (0), .int .i64 (0), .string (⟨#[]⟩)]) rfl sizeOf24 rfl rfl rfl rfl rfl (all_cons rfl (all_cons rfl (all_cons rfl (all_cons rfl (all_cons rfl all_nil))))) (over_all rfl) ?_
   refine W_assign rfl rfl rfl ?_
   refine W_end (E_then (C_ret (E_ret_block (E_ret_then (E_ret_then (E_ret_block (E_ret_then ?_)))))))
   obtain rfl := Option.some.inj hm
   exact endC2 hle120 rfl (ResV.agg rfl isAgg24 sizeOf24 (List.mem_cons_self ..) rfl) (ResV.tmp rfl) (List.Sublist.cons _ (List.Sublist.cons _ (List.Sublist.cons _ (List.Sublist.cons _ (List.Sublist.cons _ (List.Sublist.cons _ (List.Sublist.refl _))))))) (List.Perm.refl _) ⟨rfl, rfl, rfl⟩
  ·have hm := ite_f' hb136 hm
   refine C_skip (E_normal_block (E_then (C_region ?_)))
   refine W_bin rfl rfl rfl rfl rfl ?_
   refine W_move rfl rfl rfl ?_
   refine W_end ?_
   refine E_drop (List.Sublist.cons _ (List.Sublist.refl _)) ?_
   exact E_keepJ (E_back (Nat.lt_succ_self _) ⟨k108 + 1, zs127, hd130, rfl, (by rw [hn123]; exact hm), hle120, rfl, rfl⟩) (List.Perm.refl _) ⟨rfl, rfl, rfl, rfl, rfl, rfl, (congrArg (fun z => some (Value.int .i64 z)) (i64_succ hy128 hmx125)), trivial⟩
 ·obtain rfl := rng_f hd129 hb131
  have hm : (if ((decide (1000 < (IntKind.i64.wrap (p0_a.Inertia + p1_b.Inertia)))) || (decide (100000 < (IntKind.i64.wrap (p0_a.Supply + p1_b.Supply))))) || (decide (100000 < (IntKind.i64.wrap (p0_a.Demand + p1_b.Demand)))) then (some ((S_api_SwingIsland.mk 0 0 0 0 (⟨#[]⟩)), 2)) else ((m_swing_momentum p0_a).bind fun r142 => (m_swing_momentum p1_b).bind fun r150 => (m_large_Rat_Add r142 r150).bind fun r158 => (m_large_Whole (IntKind.i64.wrap (p0_a.Inertia + p1_b.Inertia))).bind fun r166 => (m_large_Rat_Div r158 r166).bind fun r174 => (m_swing_text r174).bind fun r182 => if !decide (r182.2 = 0) then (some ((S_api_SwingIsland.mk 0 0 0 0 (⟨#[]⟩)), r182.2)) else (some ((S_api_SwingIsland.mk (IntKind.i64.wrap (p0_a.Inertia + p1_b.Inertia)) (IntKind.i64.wrap (p0_a.Damping + p1_b.Damping)) (IntKind.i64.wrap (p0_a.Supply + p1_b.Supply)) (IntKind.i64.wrap (p0_a.Demand + p1_b.Demand)) r182.1), 0)))) = some r := hm
  refine C_exit (E_exit_then (E_exit_then (E_exit_hit (E_then (C_seq (C_region ?_))))))
  refine W_field (o := 0) rfl rfl runUnderlying24 rfl sizeOf3 rfl rfl rfl ?_
  refine W_load rfl rfl isAgg3 rfl (own_at (List.mem_cons_of_mem _ (List.mem_cons_of_mem _ (List.mem_cons_of_mem _ (List.mem_cons_of_mem _ (List.mem_cons_self ..))))) rfl) ?_
  refine W_field (o := 0) rfl rfl runUnderlying24 rfl sizeOf3 rfl rfl rfl ?_
  refine W_load rfl rfl isAgg3 rfl (own_at (List.mem_cons_of_mem _ (List.mem_cons_of_mem _ (List.mem_cons_of_mem _ (List.mem_cons_self ..)))) rfl) ?_
  refine W_bin rfl rfl rfl rfl rfl ?_
  refine W_field (o := 1) rfl rfl runUnderlying24 rfl sizeOf3 rfl rfl rfl ?_
  refine W_load rfl rfl isAgg3 rfl (own_at (List.mem_cons_of_mem _ (List.mem_cons_of_mem _ (List.mem_cons_of_mem _ (List.mem_cons_of_mem _ (List.mem_cons_self ..))))) rfl) ?_
  refine W_field (o := 1) rfl rfl runUnderlying24 rfl sizeOf3 rfl rfl rfl ?_
  refine W_load rfl rfl isAgg3 rfl (own_at (List.mem_cons_of_mem _ (List.mem_cons_of_mem _ (List.mem_cons_of_mem _ (List.mem_cons_self ..)))) rfl) ?_
  refine W_bin rfl rfl rfl rfl rfl ?_
  refine W_field (o := 2) rfl rfl runUnderlying24 rfl sizeOf3 rfl rfl rfl ?_
  refine W_load rfl rfl isAgg3 rfl (own_at (List.mem_cons_of_mem _ (List.mem_cons_of_mem _ (List.mem_cons_of_mem _ (List.mem_cons_of_mem _ (List.mem_cons_self ..))))) rfl) ?_
  refine W_field (o := 2) rfl rfl runUnderlying24 rfl sizeOf3 rfl rfl rfl ?_
  refine W_load rfl rfl isAgg3 rfl (own_at (List.mem_cons_of_mem _ (List.mem_cons_of_mem _ (List.mem_cons_of_mem _ (List.mem_cons_self ..)))) rfl) ?_
  refine W_bin rfl rfl rfl rfl rfl ?_
  refine W_field (o := 3) rfl rfl runUnderlying24 rfl sizeOf3 rfl rfl rfl ?_
  refine W_load rfl rfl isAgg3 rfl (own_at (List.mem_cons_of_mem _ (List.mem_cons_of_mem _ (List.mem_cons_of_mem _ (List.mem_cons_of_mem _ (List.mem_cons_self ..))))) rfl) ?_
  refine W_field (o := 3) rfl rfl runUnderlying24 rfl sizeOf3 rfl rfl rfl ?_
  refine W_load rfl rfl isAgg3 rfl (own_at (List.mem_cons_of_mem _ (List.mem_cons_of_mem _ (List.mem_cons_of_mem _ (List.mem_cons_self ..)))) rfl) ?_
  refine W_bin rfl rfl rfl rfl rfl ?_
  refine W_build (css := [[.int .i64 (IntKind.i64.wrap (p0_a.Inertia + p1_b.Inertia))], [.int .i64 (IntKind.i64.wrap (p0_a.Damping + p1_b.Damping))], [.int .i64 (IntKind.i64.wrap (p0_a.Supply + p1_b.Supply))], [.int .i64 (IntKind.i64.wrap (p0_a.Demand + p1_b.Demand))]]) (zs := [.int .i64 (0), .int .i64 (0), .int .i64 (0), .int .i64 (0), .string (⟨#[]⟩)]) (out := [.int .i64 (IntKind.i64.wrap (p0_a.Inertia + p1_b.Inertia)), .int .i64 (IntKind.i64.wrap (p0_a.Damping + p1_b.Damping)), .int .i64 (IntKind.i64.wrap (p0_a.Supply + p1_b.Supply)), .int .i64 (IntKind.i64.wrap (p0_a.Demand + p1_b.Demand)), .string (⟨#[]⟩)]) (places := [(0, 1), (1, 1), (2, 1), (3, 1), (4, 1)]) rfl rfl rfl ⟨rfl, rfl, rfl, rfl, trivial⟩ zeroValue24 rfl runUnderlying24 (fun w => by kernel_rfl) rfl ?_
  refine W_alloc (cs := [.int .i64 (0), .int .i64 (0), .int .i64 (0), .int .i64 (0), .string (⟨#[]⟩)]) rfl rfl zeroValue24 rfl (fun b137 => ?_)
  refine W_store (cs := [.int .i64 (IntKind.i64.wrap (p0_a.Inertia + p1_b.Inertia)), .int .i64 (IntKind.i64.wrap (p0_a.Damping + p1_b.Damping)), .int .i64 (IntKind.i64.wrap (p0_a.Supply + p1_b.Supply)), .int .i64 (IntKind.i64.wrap (p0_a.Demand + p1_b.Demand)), .string (⟨#[]⟩)]) (out := [.int .i64 (IntKind.i64.wrap (p0_a.Inertia + p1_b.Inertia)), .int .i64 (IntKind.i64.wrap (p0_a.Damping + p1_b.Damping)), .int .i64 (IntKind.i64.wrap (p0_a.Supply + p1_b.Supply)), .int .i64 (IntKind.i64.wrap (p0_a.Demand + p1_b.Demand)), .string (⟨#[]⟩)]) rfl sizeOf24 rfl rfl rfl rfl rfl (all_cons rfl (all_cons rfl (all_cons rfl (all_cons rfl (all_cons rfl all_nil))))) (over_all rfl) ?_
  refine W_end (E_then (C_seq ?_))
  refine C_seq_join (fun H' M' L' => H119 = H' ∧ .obj b137 (.cells ([.int .i64 (IntKind.i64.wrap (p0_a.Inertia + p1_b.Inertia)), .int .i64 (IntKind.i64.wrap (p0_a.Damping + p1_b.Damping)), .int .i64 (IntKind.i64.wrap (p0_a.Supply + p1_b.Supply)), .int .i64 (IntKind.i64.wrap (p0_a.Demand + p1_b.Demand)), .string (⟨#[]⟩)] : List Value).toArray 24 (0, 0)) :: .obj b104 (.cells ([.int .i64 (0), .int .i64 (0), .int .i64 (0), .int .i64 (0), .string (⟨#[]⟩)] : List Value).toArray 24 (0, 0)) :: .obj b103 (.cells ([.int .i64 (0), .int .i64 (0), .int .i64 (0), .int .i64 (0), .string (⟨#[]⟩)] : List Value).toArray 24 (0, 0)) :: .obj b102 (.cells ([.int .i64 (p1_b.Inertia), .int .i64 (p1_b.Damping), .int .i64 (p1_b.Supply), .int .i64 (p1_b.Demand), .string (p1_b.Frequency)] : List Value).toArray 24 (0, 0)) :: .obj b101 (.cells ([.int .i64 (p0_a.Inertia), .int .i64 (p0_a.Damping), .int .i64 (p0_a.Supply), .int .i64 (p0_a.Demand), .string (p0_a.Frequency)] : List Value).toArray 24 (0, 0)) :: M = M' ∧ [(2, .pointer (some ⟨b101, 0, none⟩)), (3, .pointer (some ⟨b102, 0, none⟩)), (4, .pointer (some ⟨b103, 0, none⟩)), (6, .pointer (some ⟨b104, 0, none⟩)), (10, .pointer (some ⟨b137, 0, none⟩)), (62, .bool (((decide (1000 < (IntKind.i64.wrap (p0_a.Inertia + p1_b.Inertia)))) || (decide (100000 < (IntKind.i64.wrap (p0_a.Supply + p1_b.Supply))))) || (decide (100000 < (IntKind.i64.wrap (p0_a.Demand + p1_b.Demand))))))] = L') ?_ (fun J140 => ?_)
  ·rintro _ _ _ ⟨rfl, rfl, rfl⟩
   refine C_cond (b := ((decide (1000 < (IntKind.i64.wrap (p0_a.Inertia + p1_b.Inertia)))) || (decide (100000 < (IntKind.i64.wrap (p0_a.Supply + p1_b.Supply))))) || (decide (100000 < (IntKind.i64.wrap (p0_a.Demand + p1_b.Demand))))) rfl (fun hb141 => ?_) (fun hb141 => ?_)
   ·have hm := ite_t' hb141 hm
    refine C_seq (C_region ?_)
    refine W_loadAgg rfl rfl isAgg24 sizeOf24 rfl (own_all (List.mem_cons_of_mem _ (List.mem_cons_self ..))) rfl ?_
    refine W_perm (List.Perm.trans (List.Perm.cons _ (List.Perm.swap _ _ _)) (List.Perm.swap _ _ _)) ?_
    refine W_store (cs := [.int .i64 (0), .int .i64 (0), .int .i64 (0), .int .i64 (0), .string (⟨#[]⟩)]) (out := [.int .i64 (0), .int .i64 (0), .int .i64 (0), .int .i64 (0), .string (⟨#[]⟩)]) rfl sizeOf24 rfl rfl rfl rfl rfl (all_cons rfl (all_cons rfl (all_cons rfl (all_cons rfl (all_cons rfl all_nil))))) (over_all rfl) ?_
    refine W_assign rfl rfl rfl ?_
    refine W_end (E_then (C_ret (E_ret_then ?_)))
    obtain rfl := Option.some.inj hm
    exact endC2 hle120 rfl (ResV.agg rfl isAgg24 sizeOf24 (List.mem_cons_self ..) rfl) (ResV.tmp rfl) (List.Sublist.cons _ (List.Sublist.cons _ (List.Sublist.cons _ (List.Sublist.cons _ (List.Sublist.cons _ (List.Sublist.refl _)))))) (List.Perm.refl _) ⟨rfl, rfl, rfl⟩
   ·have hm := ite_f' hb141 hm
    refine C_skip (E_then (C_seq ?_))
    obtain ⟨r142, hc143, hm⟩ := bind_some hm
    obtain ⟨r150, hc151, hm⟩ := bind_some hm
    obtain ⟨r158, hc159, hm⟩ := bind_some hm
    obtain ⟨r166, hc167, hm⟩ := bind_some hm
    obtain ⟨r174, hc175, hm⟩ := bind_some hm
    obtain ⟨r182, hc183, hm⟩ := bind_some hm
    refine C_region_tok0 14 (phiT [(fun H rs v => [] = rs ∧ .agg [.int .i64 (p0_a.Inertia), .int .i64 (p0_a.Damping), .int .i64 (p0_a.Supply), .int .i64 (p0_a.Demand), .string (p0_a.Frequency)].toArray = v), (fun H rs v => ∃ v184 : Value, ∃ v186 : Value, [] = rs ∧ .agg [.bool (r142.N.minus), v184, .bool (r142.D.minus), v186].toArray = v ∧ RdS H v184 r142.N.words ∧ RdS H v186 r142.D.words), (fun H rs v => [] = rs ∧ .agg [.int .i64 (p1_b.Inertia), .int .i64 (p1_b.Damping), .int .i64 (p1_b.Supply), .int .i64 (p1_b.Demand), .string (p1_b.Frequency)].toArray = v), (fun H rs v => ∃ v190 : Value, ∃ v192 : Value, [] = rs ∧ .agg [.bool (r150.N.minus), v190, .bool (r150.D.minus), v192].toArray = v ∧ RdS H v190 r150.N.words ∧ RdS H v192 r150.D.words), (fun H rs v => ∃ v196 : Value, ∃ v198 : Value, [] = rs ∧ .agg [.bool (r158.N.minus), v196, .bool (r158.D.minus), v198].toArray = v ∧ RdS H v196 r158.N.words ∧ RdS H v198 r158.D.words), (fun H rs v => [] = rs ∧ .pointer (some ⟨b137, 0, none⟩) = v), (fun H rs v => [] = rs ∧ .int .i64 (IntKind.i64.wrap (p0_a.Inertia + p1_b.Inertia)) = v), (fun H rs v => ∃ v202 : Value, ∃ v204 : Value, [] = rs ∧ .agg [.bool (r166.N.minus), v202, .bool (r166.D.minus), v204].toArray = v ∧ RdS H v202 r166.N.words ∧ RdS H v204 r166.D.words), (fun H rs v => ∃ v208 : Value, ∃ v210 : Value, [] = rs ∧ .agg [.bool (r174.N.minus), v208, .bool (r174.D.minus), v210].toArray = v ∧ RdS H v208 r174.N.words ∧ RdS H v210 r174.D.words), (fun H rs v => [] = rs ∧ .tuple #[.string (r182.1), .int .i64 (r182.2)] = v), (fun H rs v => [] = rs ∧ .tuple #[.string (r182.1), .int .i64 (r182.2)] = v), (fun H rs v => [] = rs ∧ .string (r182.1) = v), (fun H rs v => [] = rs ∧ .int .i64 (r182.2) = v), (fun H rs v => [] = rs ∧ .string (r182.1) = v)]) [[], [], [], [], [], [], [], [], [], [], [], [], [], []] [[], [], [], [], [], [], [], [], [], [], [], [], [], []] [] [0, 1, 2, 3, 4, 5, 6, 7, 8, 9, 10, 11, 12, 13] Facts.mixed (by kernel_rfl) (by rfl) (by rfl) (by rfl) (by kernel_rfl) (phiT_mono ⟨eq_monoT _ _, (by rintro H1 H2 rs v hle ⟨v184, v186, rfl, rfl, h185, h187⟩; exact ⟨v184, v186, rfl, rfl, (h185.mono hle), (h187.mono hle)⟩), eq_monoT _ _, (by rintro H1 H2 rs v hle ⟨v190, v192, rfl, rfl, h191, h193⟩; exact ⟨v190, v192, rfl, rfl, (h191.mono hle), (h193.mono hle)⟩), (by rintro H1 H2 rs v hle ⟨v196, v198, rfl, rfl, h197, h199⟩; exact ⟨v196, v198, rfl, rfl, (h197.mono hle), (h199.mono hle)⟩), eq_monoT _ _, eq_monoT _ _, (by rintro H1 H2 rs v hle ⟨v202, v204, rfl, rfl, h203, h205⟩; exact ⟨v202, v204, rfl, rfl, (h203.mono hle), (h205.mono hle)⟩), (by rintro H1 H2 rs v hle ⟨v208, v210, rfl, rfl, h209, h211⟩; exact ⟨v208, v210, rfl, rfl, (h209.mono hle), (h211.mono hle)⟩), eq_monoT _ _, eq_monoT _ _, eq_monoT _ _, eq_monoT _ _, eq_monoT _ _, trivial⟩) ⟨?_, ?_, ?_, ?_, ?_, ?_, ?_, ?_, ?_, ?_, ?_, ?_, ?_, ?_, trivial⟩ ?_
    ·intro HX hX X Rest hR
     intro hU hUp
     refine W_loadAgg rfl rfl isAgg24 sizeOf24 rfl (own_all (hR _ (List.mem_cons_of_mem _ (List.mem_cons_of_mem _ (List.mem_cons_of_mem _ (List.mem_cons_of_mem _ (List.mem_cons_self ..))))))) rfl ?_
     exact W_end (OneT_end [] (Hp.le_refl _) ⟨rfl, rfl⟩)
    ·intro HX hX X Rest hR
     rintro _ _ ⟨rfl, rfl⟩
     intro hU hUp
     refine W_call call27 rfl rfl rfl (fun w ht => by have h := m_swing_momentum_c (hm := hc143)  ht; exact h) ?_
     rintro _ H188 _ ⟨hle189, v184, v186, rfl, rfl, h185, h187⟩
     exact W_end (OneT_end [] hle189 ⟨v184, v186, rfl, rfl, (h185), (h187)⟩)
    ·intro HX hX X Rest hR
     intro hU hUp
     refine W_loadAgg rfl rfl isAgg24 sizeOf24 rfl (own_all (hR _ (List.mem_cons_of_mem _ (List.mem_cons_of_mem _ (List.mem_cons_of_mem _ (List.mem_cons_self ..)))))) rfl ?_
     exact W_end (OneT_end [] (Hp.le_refl _) ⟨rfl, rfl⟩)
    ·intro HX hX X Rest hR
     rintro _ _ ⟨rfl, rfl⟩
     rintro _ _ ⟨v184, v186, rfl, rfl, h185, h187⟩
     intro hU hUp
     refine W_call call27 rfl rfl rfl (fun w ht => by have h := m_swing_momentum_c (hm := hc151)  ht; exact h) ?_
     rintro _ H194 _ ⟨hle195, v190, v192, rfl, rfl, h191, h193⟩
     exact W_end (OneT_end [] hle195 ⟨v190, v192, rfl, rfl, (h191), (h193)⟩)
    ·intro HX hX X Rest hR
     rintro _ _ ⟨v184, v186, rfl, rfl, h185, h187⟩
     rintro _ _ ⟨v190, v192, rfl, rfl, h191, h193⟩
     rintro _ _ ⟨v190, v192, rfl, rfl, h191, h193⟩
     intro hU hUp
     refine W_call call31 rfl rfl rfl (fun w ht => by have h := m_large_Rat_Add_c (hm := hc159) h185 h187 h191 h193 ht; exact h) ?_
     rintro _ H200 _ ⟨hle201, v196, v198, rfl, rfl, h197, h199⟩
     exact W_end (OneT_end [] hle201 ⟨v196, v198, rfl, rfl, (h197), (h199)⟩)
    ·intro HX hX X Rest hR
     intro hU hUp
     refine W_field (o := 0) rfl rfl runUnderlying24 rfl sizeOf3 rfl rfl rfl ?_
     exact W_end (OneT_end [] (Hp.le_refl _) ⟨rfl, rfl⟩)
    ·intro HX hX X Rest hR
     rintro _ _ ⟨rfl, rfl⟩
     intro hU hUp
     refine W_load rfl rfl isAgg3 rfl (own_at (hR _ (List.mem_cons_self ..)) rfl) ?_
     exact W_end (OneT_end [] (Hp.le_refl _) ⟨rfl, rfl⟩)
    ·intro HX hX X Rest hR
     rintro _ _ ⟨rfl, rfl⟩
     rintro _ _ ⟨v196, v198, rfl, rfl, h197, h199⟩
     intro hU hUp
     refine W_call call36 rfl rfl rfl (fun w ht => by have h := m_large_Whole_c (hm := hc167)  ht; exact h) ?_
     rintro _ H206 _ ⟨hle207, v202, v204, rfl, rfl, h203, h205⟩
     exact W_end (OneT_end [] hle207 ⟨v202, v204, rfl, rfl, (h203), (h205)⟩)
    ·intro HX hX X Rest hR
     rintro _ _ ⟨v196, v198, rfl, rfl, h197, h199⟩
     rintro _ _ ⟨v202, v204, rfl, rfl, h203, h205⟩
     rintro _ _ ⟨v202, v204, rfl, rfl, h203, h205⟩
     intro hU hUp
     refine W_call call35 rfl rfl rfl (fun w ht => by have h := m_large_Rat_Div_c (hm := hc175) h197 h199 h203 h205 ht; exact h) ?_
     rintro _ H212 _ ⟨hle213, v208, v210, rfl, rfl, h209, h211⟩
     exact W_end (OneT_end [] hle213 ⟨v208, v210, rfl, rfl, (h209), (h211)⟩)
    ·intro HX hX X Rest hR
     rintro _ _ ⟨v208, v210, rfl, rfl, h209, h211⟩
     rintro _ _ ⟨v208, v210, rfl, rfl, h209, h211⟩
     intro hU hUp
     refine W_call call23 rfl rfl rfl (fun w ht => by have h := m_swing_text_c (hm := hc183) h209 h211 ht; exact h) ?_
     rintro _ _ _ ⟨rfl, rfl, rfl⟩
     exact W_end (OneT_end [] (Hp.le_refl _) ⟨rfl, rfl⟩)
    ·intro HX hX X Rest hR
     rintro _ _ ⟨rfl, rfl⟩
     intro hU hUp
     refine W_move rfl rfl rfl ?_
     exact W_end (OneT_end [] (Hp.le_refl _) ⟨rfl, rfl⟩)
    ·intro HX hX X Rest hR
     rintro _ _ ⟨rfl, rfl⟩
     intro hU hUp
     refine W_extract rfl rfl rfl rfl ?_
     exact W_end (OneT_end [] (Hp.le_refl _) ⟨rfl, rfl⟩)
    ·intro HX hX X Rest hR
     rintro _ _ ⟨rfl, rfl⟩
     intro hU hUp
     refine W_extract rfl rfl rfl rfl ?_
     exact W_end (OneT_end [] (Hp.le_refl _) ⟨rfl, rfl⟩)
    ·intro HX hX X Rest hR
     rintro _ _ ⟨rfl, rfl⟩
     rintro _ _ ⟨rfl, rfl⟩
     rintro _ _ ⟨rfl, rfl⟩
     rintro _ _ ⟨v184, v186, rfl, rfl, h185, h187⟩
     rintro _ _ ⟨rfl, rfl⟩
     rintro _ _ ⟨v190, v192, rfl, rfl, h191, h193⟩
     rintro _ _ ⟨v196, v198, rfl, rfl, h197, h199⟩
     rintro _ _ ⟨rfl, rfl⟩
     rintro _ _ ⟨rfl, rfl⟩
     rintro _ _ ⟨v202, v204, rfl, rfl, h203, h205⟩
     rintro _ _ ⟨v208, v210, rfl, rfl, h209, h211⟩
     rintro _ _ ⟨rfl, rfl⟩
     rintro _ _ ⟨rfl, rfl⟩
     rintro _ _ ⟨rfl, rfl⟩
     intro hU hUp
     refine W_assign rfl rfl rfl ?_
     exact W_end (OneT_end [] (Hp.le_refl _) ⟨rfl, rfl⟩)
    intro H214 hle215
    rintro _ _ ⟨rfl, rfl⟩
    rintro _ _ ⟨v184, v186, rfl, rfl, h185, h187⟩
    rintro _ _ ⟨rfl, rfl⟩
    rintro _ _ ⟨v190, v192, rfl, rfl, h191, h193⟩
    rintro _ _ ⟨v196, v198, rfl, rfl, h197, h199⟩
    rintro _ _ ⟨rfl, rfl⟩
    rintro _ _ ⟨rfl, rfl⟩
    rintro _ _ ⟨v202, v204, rfl, rfl, h203, h205⟩
    rintro _ _ ⟨v208, v210, rfl, rfl, h209, h211⟩
    rintro _ _ ⟨rfl, rfl⟩
    rintro _ _ ⟨rfl, rfl⟩
    rintro _ _ ⟨rfl, rfl⟩
    rintro _ _ ⟨rfl, rfl⟩
    rintro _ _ ⟨rfl, rfl⟩
    refine W_assign rfl rfl rfl ?_
    refine W_end (E_then (C_seq (C_seq (C_region ?_))))
    refine W_move rfl rfl rfl ?_
    refine W_bin rfl rfl rfl rfl rfl ?_
    refine W_end (E_then ?_)
    refine C_cond (b := !decide (r182.2 = 0)) rfl (fun hb216 => ?_) (fun hb216 => ?_)
    ·have hm := ite_t' hb216 hm
     refine C_seq (C_region ?_)
     refine W_loadAgg rfl rfl isAgg24 sizeOf24 rfl (own_all (List.mem_cons_of_mem _ (List.mem_cons_self ..))) rfl ?_
     refine W_move rfl rfl rfl ?_
     refine W_perm (List.Perm.trans (List.Perm.cons _ (List.Perm.swap _ _ _)) (List.Perm.swap _ _ _)) ?_
     refine W_store (cs := [.int .i64 (0), .int .i64 (0), .int .i64 (0), .int .i64 (0), .string (⟨#[]⟩)]) (out := [.int .i64 (0), .int .i64 (0), .int .i64 (0), .int .i64 (0), .string (⟨#[]⟩)]) rfl sizeOf24 rfl rfl rfl rfl rfl (all_cons rfl (all_cons rfl (all_cons rfl (all_cons rfl (all_cons rfl all_nil))))) (over_all rfl) ?_
     refine W_assign rfl rfl rfl ?_
     refine W_end (E_then (C_ret (E_ret_then ?_)))
     obtain rfl := Option.some.inj hm
     exact endC2 (Hp.le_trans hle120 hle215) rfl (ResV.agg rfl isAgg24 sizeOf24 (List.mem_cons_self ..) rfl) (ResV.tmp rfl) (List.Sublist.cons _ (List.Sublist.cons _ (List.Sublist.cons _ (List.Sublist.cons _ (List.Sublist.cons _ (List.Sublist.refl _)))))) (List.Perm.refl _) ⟨rfl, rfl, rfl⟩
    ·have hm := ite_f' hb216 hm
     refine C_skip (E_then (C_seq (C_region ?_)))
     refine W_move rfl rfl rfl ?_
     refine W_field (o := 4) rfl rfl runUnderlying24 rfl sizeOf22 rfl rfl rfl ?_
     refine W_store (cs := [.string (r182.1)]) (out := [.int .i64 (IntKind.i64.wrap (p0_a.Inertia + p1_b.Inertia)), .int .i64 (IntKind.i64.wrap (p0_a.Damping + p1_b.Damping)), .int .i64 (IntKind.i64.wrap (p0_a.Supply + p1_b.Supply)), .int .i64 (IntKind.i64.wrap (p0_a.Demand + p1_b.Demand)), .string (r182.1)]) rfl sizeOf22 rfl rfl rfl rfl rfl (all_cons rfl all_nil) rfl ?_
     refine W_end (E_then (C_seq (C_region ?_)))
     refine W_loadAgg rfl rfl isAgg24 sizeOf24 rfl (own_all (List.mem_cons_self ..)) rfl ?_
     refine W_perm (List.Perm.trans (List.Perm.cons _ (List.Perm.swap _ _ _)) (List.Perm.swap _ _ _)) ?_
     refine W_store (cs := [.int .i64 (IntKind.i64.wrap (p0_a.Inertia + p1_b.Inertia)), .int .i64 (IntKind.i64.wrap (p0_a.Damping + p1_b.Damping)), .int .i64 (IntKind.i64.wrap (p0_a.Supply + p1_b.Supply)), .int .i64 (IntKind.i64.wrap (p0_a.Demand + p1_b.Demand)), .string (r182.1)]) (out := [.int .i64 (IntKind.i64.wrap (p0_a.Inertia + p1_b.Inertia)), .int .i64 (IntKind.i64.wrap (p0_a.Damping + p1_b.Damping)), .int .i64 (IntKind.i64.wrap (p0_a.Supply + p1_b.Supply)), .int .i64 (IntKind.i64.wrap (p0_a.Demand + p1_b.Demand)), .string (r182.1)]) rfl sizeOf24 rfl rfl rfl rfl rfl (all_cons rfl (all_cons rfl (all_cons rfl (all_cons rfl (all_cons rfl all_nil))))) (over_all rfl) ?_
     refine W_assign rfl rfl rfl ?_
     refine W_end (E_then (C_ret ?_))
     obtain rfl := Option.some.inj hm
     exact endC2 (Hp.le_trans hle120 hle215) rfl (ResV.agg rfl isAgg24 sizeOf24 (List.mem_cons_self ..) rfl) (ResV.tmp rfl) (List.Sublist.cons _ (List.Sublist.cons _ (List.Sublist.cons _ (List.Sublist.cons _ (List.Sublist.cons _ (List.Sublist.refl _)))))) (List.Perm.refl _) ⟨rfl, rfl, rfl⟩
  ·refine C_region ?_
   refine W_field (o := 0) rfl rfl runUnderlying24 rfl sizeOf3 rfl rfl rfl ?_
   refine W_load rfl rfl isAgg3 rfl (own_at (List.mem_cons_self ..) rfl) ?_
   refine W_bin rfl rfl rfl rfl rfl ?_
   refine W_move rfl rfl rfl ?_
   cases hb217 : (decide (1000 < (IntKind.i64.wrap (p0_a.Inertia + p1_b.Inertia))))
   ·refine W_field (o := 2) rfl rfl runUnderlying24 rfl sizeOf3 rfl rfl rfl ?_
    refine W_load rfl rfl isAgg3 rfl (own_at (List.mem_cons_self ..) rfl) ?_
    refine W_bin rfl rfl rfl rfl rfl ?_
    refine W_pick rfl rfl rfl rfl ?_
    refine W_move rfl rfl rfl ?_
    cases hb218 : (decide (100000 < (IntKind.i64.wrap (p0_a.Supply + p1_b.Supply))))
    ·refine W_field (o := 3) rfl rfl runUnderlying24 rfl sizeOf3 rfl rfl rfl ?_
     refine W_load rfl rfl isAgg3 rfl (own_at (List.mem_cons_self ..) rfl) ?_
     refine W_bin rfl rfl rfl rfl rfl ?_
     refine W_pick rfl rfl rfl rfl ?_
     refine W_end ?_
     refine E_drop (List.Sublist.cons_cons _ (List.Sublist.cons _ (List.Sublist.refl _))) ?_
     exact E_keepJ (J140 _ _ _ ⟨rfl, rfl, rfl⟩) (List.Perm.refl _) ⟨rfl, rfl, rfl, rfl, rfl, (by show some (Value.bool (decide (100000 < (IntKind.i64.wrap (p0_a.Demand + p1_b.Demand))))) = some (Value.bool (((decide (1000 < (IntKind.i64.wrap (p0_a.Inertia + p1_b.Inertia)))) || (decide (100000 < (IntKind.i64.wrap (p0_a.Supply + p1_b.Supply))))) || (decide (100000 < (IntKind.i64.wrap (p0_a.Demand + p1_b.Demand)))))); first | (simp only [hb217, hb218, Bool.and_true, Bool.true_and, Bool.false_and, Bool.and_false, Bool.or_true, Bool.true_or, Bool.or_false, Bool.false_or, Bool.not_true, Bool.not_false]; done) | (simp only [hb217, hb218]; first | done | simp only [Bool.and_true, Bool.true_and, Bool.false_and, Bool.and_false, Bool.or_true, Bool.true_or, Bool.or_false, Bool.false_or, Bool.not_true, Bool.not_false])), trivial⟩
    ·refine W_no rfl rfl rfl ?_
     refine W_no rfl rfl rfl ?_
     refine W_no rfl rfl rfl ?_
     refine W_pick rfl rfl rfl rfl ?_
     refine W_end ?_
     refine E_drop (List.Sublist.cons_cons _ (List.Sublist.cons _ (List.Sublist.refl _))) ?_
     exact E_keepJ (J140 _ _ _ ⟨rfl, rfl, rfl⟩) (List.Perm.refl _) ⟨rfl, rfl, rfl, rfl, rfl, (by show some (Value.bool (true)) = some (Value.bool (((decide (1000 < (IntKind.i64.wrap (p0_a.Inertia + p1_b.Inertia)))) || (decide (100000 < (IntKind.i64.wrap (p0_a.Supply + p1_b.Supply))))) || (decide (100000 < (IntKind.i64.wrap (p0_a.Demand + p1_b.Demand)))))); first | (simp only [hb217, hb218, Bool.and_true, Bool.true_and, Bool.false_and, Bool.and_false, Bool.or_true, Bool.true_or, Bool.or_false, Bool.false_or, Bool.not_true, Bool.not_false]; done) | (simp only [hb217, hb218]; first | done | simp only [Bool.and_true, Bool.true_and, Bool.false_and, Bool.and_false, Bool.or_true, Bool.true_or, Bool.or_false, Bool.false_or, Bool.not_true, Bool.not_false])), trivial⟩
   ·refine W_no rfl rfl rfl ?_
    refine W_no rfl rfl rfl ?_
    refine W_no rfl rfl rfl ?_
    refine W_pick rfl rfl rfl rfl ?_
    refine W_move rfl rfl rfl ?_
    refine W_no rfl rfl rfl ?_
    refine W_no rfl rfl rfl ?_
    refine W_no rfl rfl rfl ?_
    refine W_pick rfl rfl rfl rfl ?_
    refine W_end ?_
    refine E_drop (List.Sublist.cons_cons _ (List.Sublist.cons _ (List.Sublist.refl _))) ?_
    exact E_keepJ (J140 _ _ _ ⟨rfl, rfl, rfl⟩) (List.Perm.refl _) ⟨rfl, rfl, rfl, rfl, rfl, (by show some (Value.bool (true)) = some (Value.bool (((decide (1000 < (IntKind.i64.wrap (p0_a.Inertia + p1_b.Inertia)))) || (decide (100000 < (IntKind.i64.wrap (p0_a.Supply + p1_b.Supply))))) || (decide (100000 < (IntKind.i64.wrap (p0_a.Demand + p1_b.Demand)))))); first | (simp only [hb217, Bool.and_true, Bool.true_and, Bool.false_and, Bool.and_false, Bool.or_true, Bool.true_or, Bool.or_false, Bool.false_or, Bool.not_true, Bool.not_false]; done) | (simp only [hb217]; first | done | simp only [Bool.and_true, Bool.true_and, Bool.false_and, Bool.and_false, Bool.or_true, Bool.true_or, Bool.or_false, Bool.false_or, Bool.not_true, Bool.not_false])), trivial⟩

theorem m_gridhallkeep4_SwingJoins_c {B : Nat} {w0 w : World} [Tabs B w0] {H : Hp} {M : List Res} {p0_a : S_api_SwingIsland} {p1_b : S_api_SwingIsland} {r : Bool} (hm : m_gridhallkeep4_SwingJoins p0_a p1_b = some r) (ht : St B w0 H (M) w) :
  Calls prog 6 [.agg [.int .i64 (p0_a.Inertia), .int .i64 (p0_a.Damping), .int .i64 (p0_a.Supply), .int .i64 (p0_a.Demand), .string (p0_a.Frequency)].toArray, .agg [.int .i64 (p1_b.Inertia), .int .i64 (p1_b.Damping), .int .i64 (p1_b.Supply), .int .i64 (p1_b.Demand), .string (p1_b.Frequency)].toArray].toArray w (Ret B w0 fun H' M' v => H = H' ∧ M = M' ∧ .bool (r) = v) := by
 unfold m_gridhallkeep4_SwingJoins at hm
 refine enter func6 rfl rfl rfl ht ?_
 refine C_seq (C_region ?_)
 refine W_box (cs := [.int .i64 (p0_a.Inertia), .int .i64 (p0_a.Damping), .int .i64 (p0_a.Supply), .int .i64 (p0_a.Demand), .string (p0_a.Frequency)]) rfl rfl rfl rfl (fun b101 => ?_)
 refine W_box (cs := [.int .i64 (p1_b.Inertia), .int .i64 (p1_b.Damping), .int .i64 (p1_b.Supply), .int .i64 (p1_b.Demand), .string (p1_b.Frequency)]) rfl rfl rfl rfl (fun b102 => ?_)
 refine W_assign rfl rfl rfl ?_
 refine W_end (E_then (C_seq (C_region ?_)))
 refine W_loadAgg rfl rfl isAgg24 sizeOf24 rfl (own_all (List.mem_cons_of_mem _ (List.mem_cons_self ..))) rfl ?_
 refine W_loadAgg rfl rfl isAgg24 sizeOf24 rfl (own_all (List.mem_cons_self ..)) rfl ?_
 obtain ⟨r103, hc104, hm⟩ := bind_some hm
 refine W_call call18 rfl rfl rfl (fun w ht => by have h := m_swing_Join_c (hm := hc104)  ht; exact h) ?_
 rintro _ _ _ ⟨rfl, rfl, rfl⟩
 refine W_move rfl rfl rfl ?_
 refine W_extract rfl rfl rfl rfl ?_
 refine W_extract rfl rfl rfl rfl ?_
 refine W_alloc (cs := [.int .i64 (0), .int .i64 (0), .int .i64 (0), .int .i64 (0), .string (⟨#[]⟩)]) rfl rfl zeroValue24 rfl (fun b105 => ?_)
 refine W_store (cs := [.int .i64 (r103.1.Inertia), .int .i64 (r103.1.Damping), .int .i64 (r103.1.Supply), .int .i64 (r103.1.Demand), .string (r103.1.Frequency)]) (out := [.int .i64 (r103.1.Inertia), .int .i64 (r103.1.Damping), .int .i64 (r103.1.Supply), .int .i64 (r103.1.Demand), .string (r103.1.Frequency)]) rfl sizeOf24 rfl rfl rfl rfl rfl (all_cons rfl (all_cons rfl (all_cons rfl (all_cons rfl (all_cons rfl all_nil))))) (over_all rfl) ?_
 refine W_assign rfl rfl rfl ?_
 refine W_end (E_then (C_seq (C_region ?_)))
 refine W_loadAgg rfl rfl isAgg24 sizeOf24 rfl (own_all (List.mem_cons_of_mem _ (List.mem_cons_self ..))) rfl ?_
 refine W_loadAgg rfl rfl isAgg24 sizeOf24 rfl (own_all (List.mem_cons_of_mem _ (List.mem_cons_of_mem _ (List.mem_cons_self ..)))) rfl ?_
 obtain ⟨r106, hc107, hm⟩ := bind_some hm
 refine W_call call18 rfl rfl rfl (fun w ht => by have h := m_swing_Join_c (hm := hc107)  ht; exact h) ?_
 rintro _ _ _ ⟨rfl, rfl, rfl⟩
 refine W_move rfl rfl rfl ?_
 refine W_extract rfl rfl rfl rfl ?_
 refine W_extract rfl rfl rfl rfl ?_
 refine W_alloc (cs := [.int .i64 (0), .int .i64 (0), .int .i64 (0), .int .i64 (0), .string (⟨#[]⟩)]) rfl rfl zeroValue24 rfl (fun b108 => ?_)
 refine W_store (cs := [.int .i64 (r106.1.Inertia), .int .i64 (r106.1.Damping), .int .i64 (r106.1.Supply), .int .i64 (r106.1.Demand), .string (r106.1.Frequency)]) (out := [.int .i64 (r106.1.Inertia), .int .i64 (r106.1.Damping), .int .i64 (r106.1.Supply), .int .i64 (r106.1.Demand), .string (r106.1.Frequency)]) rfl sizeOf24 rfl rfl rfl rfl rfl (all_cons rfl (all_cons rfl (all_cons rfl (all_cons rfl (all_cons rfl all_nil))))) (over_all rfl) ?_
 refine W_assign rfl rfl rfl ?_
 refine W_end (E_then (C_seq (C_seq (C_region ?_))))
 refine W_move rfl rfl rfl ?_
 refine W_bin rfl rfl rfl rfl rfl ?_
 refine W_end (E_then ?_)
 refine C_cond (b := !decide (r103.2 = 0)) rfl (fun hb109 => ?_) (fun hb109 => ?_)
 ·have hm := ite_t' hb109 hm
  obtain ⟨r114, hc115, hm⟩ := bind_some hm
  refine C_seq_join (fun H' M' L' => H = H' ∧ M = M' ∧ [(4, .bool ((r114 && (decide (r103.1.Inertia = 0) && (decide (r103.1.Damping = 0) && (decide (r103.1.Supply = 0) && (decide (r103.1.Demand = 0) && (decide (r103.1.Frequency = (⟨#[]⟩)) && true)))))) && (decide (r106.1.Inertia = 0) && (decide (r106.1.Damping = 0) && (decide (r106.1.Supply = 0) && (decide (r106.1.Demand = 0) && (decide (r106.1.Frequency = (⟨#[]⟩)) && true)))))))] = L') ?_ (fun J116 => ?_)
  ·rintro _ _ _ ⟨rfl, rfl, rfl⟩
   refine C_ret (E_ret_then ?_)
   obtain rfl := Option.some.inj hm
   refine E_weak (Hp.le_refl _) ?_
   exact end1 rfl rfl ⟨rfl, rfl, rfl⟩
  ·refine C_region ?_
   refine W_call call9 rfl rfl rfl (fun w ht => by have h := m_gridhallkeep4_swingFact_c (hm := hc115)  ht; exact h) ?_
   rintro _ _ _ ⟨rfl, rfl, rfl⟩
   refine W_move rfl rfl rfl ?_
   cases hb117 : (r114)
   ·refine W_no rfl rfl rfl ?_
    refine W_no rfl rfl rfl ?_
    refine W_no rfl rfl rfl ?_
    refine W_pick rfl rfl rfl rfl ?_
    refine W_move rfl rfl rfl ?_
    refine W_no rfl rfl rfl ?_
    refine W_no rfl rfl rfl ?_
    refine W_no rfl rfl rfl ?_
    refine W_pick rfl rfl rfl rfl ?_
    refine W_assign rfl rfl rfl ?_
    refine W_end ?_
    refine E_drop (List.Sublist.cons _ (List.Sublist.cons _ (List.Sublist.cons _ (List.Sublist.cons _ (List.Sublist.refl _))))) ?_
    exact E_keepJ (J116 _ _ _ ⟨rfl, rfl, rfl⟩) (List.Perm.refl _) ⟨(by show some (Value.bool (false)) = some (Value.bool ((r114 && (decide (r103.1.Inertia = 0) && (decide (r103.1.Damping = 0) && (decide (r103.1.Supply = 0) && (decide (r103.1.Demand = 0) && (decide (r103.1.Frequency = (⟨#[]⟩)) && true)))))) && (decide (r106.1.Inertia = 0) && (decide (r106.1.Damping = 0) && (decide (r106.1.Supply = 0) && (decide (r106.1.Demand = 0) && (decide (r106.1.Frequency = (⟨#[]⟩)) && true))))))); first | (simp only [hb109, hb117, Bool.and_true, Bool.true_and, Bool.false_and, Bool.and_false, Bool.or_true, Bool.true_or, Bool.or_false, Bool.false_or, Bool.not_true, Bool.not_false]; done) | (simp only [hb109, hb117]; first | done | simp only [Bool.and_true, Bool.true_and, Bool.false_and, Bool.and_false, Bool.or_true, Bool.true_or, Bool.or_false, Bool.false_or, Bool.not_true, Bool.not_false])), trivial⟩
   ·refine W_loadAgg rfl rfl isAgg24 sizeOf24 rfl (own_all (List.mem_cons_of_mem _ (List.mem_cons_self ..))) rfl ?_
    refine W_build (css := []) (zs := [.int .i64 (0), .int .i64 (0), .int .i64 (0), .int .i64 (0), .string (⟨#[]⟩)]) (out := [.int .i64 (0), .int .i64 (0), .int .i64 (0), .int .i64 (0), .string (⟨#[]⟩)]) (places := [(0, 1), (1, 1), (2, 1), (3, 1), (4, 1)]) rfl rfl rfl trivial zeroValue24 rfl runUnderlying24 (fun w => by kernel_rfl) rfl ?_
    refine W_eqAgg (b := decide (r103.1.Inertia = 0) && (decide (r103.1.Damping = 0) && (decide (r103.1.Supply = 0) && (decide (r103.1.Demand = 0) && (decide (r103.1.Frequency = (⟨#[]⟩)) && true))))) rfl rfl (by kernel_rfl) rfl rfl (fun w => run_equal_struct (bs := [decide (r103.1.Inertia = 0), decide (r103.1.Damping = 0), decide (r103.1.Supply = 0), decide (r103.1.Demand = 0), decide (r103.1.Frequency = (⟨#[]⟩))]) runUnderlying24 (by kernel_rfl) ⟨(by decide), (fldEq_int isAgg3 runUnderlying3 rfl rfl), (by decide), (fldEq_int isAgg3 runUnderlying3 rfl rfl), (by decide), (fldEq_int isAgg3 runUnderlying3 rfl rfl), (by decide), (fldEq_int isAgg3 runUnderlying3 rfl rfl), (by decide), (fldEq_str isAgg22 runUnderlying22 rfl rfl), trivial⟩) ?_
    refine W_pick rfl rfl rfl rfl ?_
    refine W_move rfl rfl rfl ?_
    cases hb118 : (decide (r103.1.Inertia = 0) && (decide (r103.1.Damping = 0) && (decide (r103.1.Supply = 0) && (decide (r103.1.Demand = 0) && (decide (r103.1.Frequency = (⟨#[]⟩)) && true)))))
    ·refine W_no rfl rfl rfl ?_
     refine W_no rfl rfl rfl ?_
     refine W_no rfl rfl rfl ?_
     refine W_pick rfl rfl rfl rfl ?_
     refine W_assign rfl rfl rfl ?_
     refine W_end ?_
     refine E_drop (List.Sublist.cons _ (List.Sublist.cons _ (List.Sublist.cons _ (List.Sublist.cons _ (List.Sublist.refl _))))) ?_
     exact E_keepJ (J116 _ _ _ ⟨rfl, rfl, rfl⟩) (List.Perm.refl _) ⟨(by show some (Value.bool (false)) = some (Value.bool ((r114 && (decide (r103.1.Inertia = 0) && (decide (r103.1.Damping = 0) && (decide (r103.1.Supply = 0) && (decide (r103.1.Demand = 0) && (decide (r103.1.Frequency = (⟨#[]⟩)) && true)))))) && (decide (r106.1.Inertia = 0) && (decide (r106.1.Damping = 0) && (decide (r106.1.Supply = 0) && (decide (r106.1.Demand = 0) && (decide (r106.1.Frequency = (⟨#[]⟩)) && true))))))); first | (simp only [hb109, hb117, hb118, Bool.and_true, Bool.true_and, Bool.false_and, Bool.and_false, Bool.or_true, Bool.true_or, Bool.or_false, Bool.false_or, Bool.not_true, Bool.not_false]; done) | (simp only [hb109, hb117, hb118]; first | done | simp only [Bool.and_true, Bool.true_and, Bool.false_and, Bool.and_false, Bool.or_true, Bool.true_or, Bool.or_false, Bool.false_or, Bool.not_true, Bool.not_false])), trivial⟩
    ·refine W_loadAgg rfl rfl isAgg24 sizeOf24 rfl (own_all (List.mem_cons_self ..)) rfl ?_
     refine W_build (css := []) (zs := [.int .i64 (0), .int .i64 (0), .int .i64 (0), .int .i64 (0), .string (⟨#[]⟩)]) (out := [.int .i64 (0), .int .i64 (0), .int .i64 (0), .int .i64 (0), .string (⟨#[]⟩)]) (places := [(0, 1), (1, 1), (2, 1), (3, 1), (4, 1)]) rfl rfl rfl trivial zeroValue24 rfl runUnderlying24 (fun w => by kernel_rfl) rfl ?_
     refine W_eqAgg (b := decide (r106.1.Inertia = 0) && (decide (r106.1.Damping = 0) && (decide (r106.1.Supply = 0) && (decide (r106.1.Demand = 0) && (decide (r106.1.Frequency = (⟨#[]⟩)) && true))))) rfl rfl (by kernel_rfl) rfl rfl (fun w => run_equal_struct (bs := [decide (r106.1.Inertia = 0), decide (r106.1.Damping = 0), decide (r106.1.Supply = 0), decide (r106.1.Demand = 0), decide (r106.1.Frequency = (⟨#[]⟩))]) runUnderlying24 (by kernel_rfl) ⟨(by decide), (fldEq_int isAgg3 runUnderlying3 rfl rfl), (by decide), (fldEq_int isAgg3 runUnderlying3 rfl rfl), (by decide), (fldEq_int isAgg3 runUnderlying3 rfl rfl), (by decide), (fldEq_int isAgg3 runUnderlying3 rfl rfl), (by decide), (fldEq_str isAgg22 runUnderlying22 rfl rfl), trivial⟩) ?_
     refine W_pick rfl rfl rfl rfl ?_
     refine W_assign rfl rfl rfl ?_
     refine W_end ?_
     refine E_drop (List.Sublist.cons _ (List.Sublist.cons _ (List.Sublist.cons _ (List.Sublist.cons _ (List.Sublist.refl _))))) ?_
     exact E_keepJ (J116 _ _ _ ⟨rfl, rfl, rfl⟩) (List.Perm.refl _) ⟨(by show some (Value.bool (decide (r106.1.Inertia = 0) && (decide (r106.1.Damping = 0) && (decide (r106.1.Supply = 0) && (decide (r106.1.Demand = 0) && (decide (r106.1.Frequency = (⟨#[]⟩)) && true)))))) = some (Value.bool ((r114 && (decide (r103.1.Inertia = 0) && (decide (r103.1.Damping = 0) && (decide (r103.1.Supply = 0) && (decide (r103.1.Demand = 0) && (decide (r103.1.Frequency = (⟨#[]⟩)) && true)))))) && (decide (r106.1.Inertia = 0) && (decide (r106.1.Damping = 0) && (decide (r106.1.Supply = 0) && (decide (r106.1.Demand = 0) && (decide (r106.1.Frequency = (⟨#[]⟩)) && true))))))); first | (simp only [hb109, hb117, hb118, Bool.and_true, Bool.true_and, Bool.false_and, Bool.and_false, Bool.or_true, Bool.true_or, Bool.or_false, Bool.false_or, Bool.not_true, Bool.not_false]; done) | (simp only [hb109, hb117, hb118]; first | done | simp only [Bool.and_true, Bool.true_and, Bool.false_and, Bool.and_false, Bool.or_true, Bool.true_or, Bool.or_false, Bool.false_or, Bool.not_true, Bool.not_false])), trivial⟩
 ·have hm := ite_f' hb109 hm
  refine C_skip (E_then (C_seq (C_region ?_)))
  refine W_loadAgg rfl rfl isAgg24 sizeOf24 rfl (own_all (List.mem_cons_of_mem _ (List.mem_cons_of_mem _ (List.mem_cons_of_mem _ (List.mem_cons_self ..))))) rfl ?_
  obtain ⟨r119, hc120, hm⟩ := bind_some hm
  refine W_call call12 rfl rfl rfl (fun w ht => by have h := m_swing_Momentum_c (hm := hc120)  ht; exact h) ?_
  rintro _ _ _ ⟨rfl, rfl, rfl⟩
  refine W_move rfl rfl rfl ?_
  refine W_extract rfl rfl rfl rfl ?_
  refine W_extract rfl rfl rfl rfl ?_
  refine W_assign rfl rfl rfl ?_
  refine W_assign rfl rfl rfl ?_
  refine W_end (E_then (C_seq (C_region ?_)))
  refine W_loadAgg rfl rfl isAgg24 sizeOf24 rfl (own_all (List.mem_cons_of_mem _ (List.mem_cons_of_mem _ (List.mem_cons_self ..)))) rfl ?_
  obtain ⟨r121, hc122, hm⟩ := bind_some hm
  refine W_call call12 rfl rfl rfl (fun w ht => by have h := m_swing_Momentum_c (hm := hc122)  ht; exact h) ?_
  rintro _ _ _ ⟨rfl, rfl, rfl⟩
  refine W_move rfl rfl rfl ?_
  refine W_extract rfl rfl rfl rfl ?_
  refine W_extract rfl rfl rfl rfl ?_
  refine W_assign rfl rfl rfl ?_
  refine W_assign rfl rfl rfl ?_
  refine W_end (E_then (C_seq (C_region ?_)))
  refine W_move rfl rfl rfl ?_
  refine W_move rfl rfl rfl ?_
  obtain ⟨r123, hc124, hm⟩ := bind_some hm
  refine W_call call14 rfl rfl rfl (fun w ht => by have h := m_rat_Add_c (hm := hc124)  ht; exact h) ?_
  rintro _ _ _ ⟨rfl, rfl, rfl⟩
  refine W_move rfl rfl rfl ?_
  refine W_extract rfl rfl rfl rfl ?_
  refine W_extract rfl rfl rfl rfl ?_
  refine W_assign rfl rfl rfl ?_
  refine W_assign rfl rfl rfl ?_
  refine W_end (E_then (C_seq (C_region ?_)))
  refine W_loadAgg rfl rfl isAgg24 sizeOf24 rfl (own_all (List.mem_cons_of_mem _ (List.mem_cons_self ..))) rfl ?_
  obtain ⟨r125, hc126, hm⟩ := bind_some hm
  refine W_call call12 rfl rfl rfl (fun w ht => by have h := m_swing_Momentum_c (hm := hc126)  ht; exact h) ?_
  rintro _ _ _ ⟨rfl, rfl, rfl⟩
  refine W_move rfl rfl rfl ?_
  refine W_extract rfl rfl rfl rfl ?_
  refine W_extract rfl rfl rfl rfl ?_
  refine W_assign rfl rfl rfl ?_
  refine W_assign rfl rfl rfl ?_
  refine W_end (E_then (C_seq ?_))
  refine C_seq_join (fun H' M' L' => H = H' ∧ .obj b108 (.cells ([.int .i64 (r106.1.Inertia), .int .i64 (r106.1.Damping), .int .i64 (r106.1.Supply), .int .i64 (r106.1.Demand), .string (r106.1.Frequency)] : List Value).toArray 24 (0, 0)) :: .obj b105 (.cells ([.int .i64 (r103.1.Inertia), .int .i64 (r103.1.Damping), .int .i64 (r103.1.Supply), .int .i64 (r103.1.Demand), .string (r103.1.Frequency)] : List Value).toArray 24 (0, 0)) :: M = M' ∧ [(5, .pointer (some ⟨b105, 0, none⟩)), (7, .pointer (some ⟨b108, 0, none⟩)), (8, .int .i64 (r106.2)), (13, .string (r123.1)), (15, .string (r125.1)), (76, .bool ((((!decide (r119.2 = 0)) || (!decide (r121.2 = 0))) || (!decide (r123.2 = 0))) || (!decide (r125.2 = 0))))] = L') ?_ (fun J130 => ?_)
  ·rintro _ _ _ ⟨rfl, rfl, rfl⟩
   refine C_cond (b := (((!decide (r119.2 = 0)) || (!decide (r121.2 = 0))) || (!decide (r123.2 = 0))) || (!decide (r125.2 = 0))) rfl (fun hb131 => ?_) (fun hb131 => ?_)
   ·have hm := ite_t' hb131 hm
    refine C_seq (C_region ?_)
    obtain ⟨r132, hc133, hm⟩ := bind_some hm
    refine W_call call9 rfl rfl rfl (fun w ht => by have h := m_gridhallkeep4_swingFact_c (hm := hc133)  ht; exact h) ?_
    rintro _ _ _ ⟨rfl, rfl, rfl⟩
    refine W_assign rfl rfl rfl ?_
    refine W_end (E_then (C_ret (E_ret_then ?_)))
    obtain rfl := Option.some.inj hm
    refine E_drop (List.Sublist.cons _ (List.Sublist.cons _ (List.Sublist.refl _))) ?_
    refine E_weak (Hp.le_refl _) ?_
    exact end1 rfl rfl ⟨rfl, rfl, rfl⟩
   ·have hm := ite_f' hb131 hm
    refine C_skip (E_then ?_)
    obtain ⟨r139, hc140, hm⟩ := bind_some hm
    refine C_seq_join (fun H' M' L' => H = H' ∧ M = M' ∧ [(4, .bool (((r139 && (decide (r106.2 = 0))) && (decide (r103.1.Inertia = r106.1.Inertia) && (decide (r103.1.Damping = r106.1.Damping) && (decide (r103.1.Supply = r106.1.Supply) && (decide (r103.1.Demand = r106.1.Demand) && (decide (r103.1.Frequency = r106.1.Frequency) && true)))))) && (decide (r123.1 = r125.1))))] = L') ?_ (fun J141 => ?_)
    ·rintro _ _ _ ⟨rfl, rfl, rfl⟩
     refine C_ret ?_
     obtain rfl := Option.some.inj hm
     refine E_weak (Hp.le_refl _) ?_
     exact end1 rfl rfl ⟨rfl, rfl, rfl⟩
    ·refine C_region ?_
     refine W_call call9 rfl rfl rfl (fun w ht => by have h := m_gridhallkeep4_swingFact_c (hm := hc140)  ht; exact h) ?_
     rintro _ _ _ ⟨rfl, rfl, rfl⟩
     refine W_move rfl rfl rfl ?_
     cases hb142 : (r139)
     ·refine W_no rfl rfl rfl ?_
      refine W_no rfl rfl rfl ?_
      refine W_pick rfl rfl rfl rfl ?_
      refine W_move rfl rfl rfl ?_
      refine W_no rfl rfl rfl ?_
      refine W_no rfl rfl rfl ?_
      refine W_no rfl rfl rfl ?_
      refine W_pick rfl rfl rfl rfl ?_
      refine W_move rfl rfl rfl ?_
      refine W_no rfl rfl rfl ?_
      refine W_no rfl rfl rfl ?_
      refine W_no rfl rfl rfl ?_
      refine W_pick rfl rfl rfl rfl ?_
      refine W_assign rfl rfl rfl ?_
      refine W_end ?_
      refine E_drop (List.Sublist.cons _ (List.Sublist.cons _ (List.Sublist.refl _))) ?_
      exact E_keepJ (J141 _ _ _ ⟨rfl, rfl, rfl⟩) (List.Perm.refl _) ⟨(by show some (Value.bool (false)) = some (Value.bool (((r139 && (decide (r106.2 = 0))) && (decide (r103.1.Inertia = r106.1.Inertia) && (decide (r103.1.Damping = r106.1.Damping) && (decide (r103.1.Supply = r106.1.Supply) && (decide (r103.1.Demand = r106.1.Demand) && (decide (r103.1.Frequency = r106.1.Frequency) && true)))))) && (decide (r123.1 = r125.1)))); first | (simp only [hb109, hb131, hb142, Bool.and_true, Bool.true_and, Bool.false_and, Bool.and_false, Bool.or_true, Bool.true_or, Bool.or_false, Bool.false_or, Bool.not_true, Bool.not_false]; done) | (simp only [hb109, hb131, hb142]; first | done | simp only [Bool.and_true, Bool.true_and, Bool.false_and, Bool.and_false, Bool.or_true, Bool.true_or, Bool.or_false, Bool.false_or, Bool.not_true, Bool.not_false])), trivial⟩
     ·refine W_move rfl rfl rfl ?_
      refine W_bin rfl rfl rfl rfl rfl ?_
      refine W_pick rfl rfl rfl rfl ?_
      refine W_move rfl rfl rfl ?_
      cases hb143 : (decide (r106.2 = 0))
      ·refine W_no rfl rfl rfl ?_
       refine W_no rfl rfl rfl ?_
       refine W_no rfl rfl rfl ?_
       refine W_pick rfl rfl rfl rfl ?_
       refine W_move rfl rfl rfl ?_
       refine W_no rfl rfl rfl ?_
       refine W_no rfl rfl rfl ?_
       refine W_no rfl rfl rfl ?_
       refine W_pick rfl rfl rfl rfl ?_
       refine W_assign rfl rfl rfl ?_
       refine W_end ?_
       refine E_drop (List.Sublist.cons _ (List.Sublist.cons _ (List.Sublist.refl _))) ?_
       exact E_keepJ (J141 _ _ _ ⟨rfl, rfl, rfl⟩) (List.Perm.refl _) ⟨(by show some (Value.bool (false)) = some (Value.bool (((r139 && (decide (r106.2 = 0))) && (decide (r103.1.Inertia = r106.1.Inertia) && (decide (r103.1.Damping = r106.1.Damping) && (decide (r103.1.Supply = r106.1.Supply) && (decide (r103.1.Demand = r106.1.Demand) && (decide (r103.1.Frequency = r106.1.Frequency) && true)))))) && (decide (r123.1 = r125.1)))); first | (simp only [hb109, hb131, hb142, hb143, Bool.and_true, Bool.true_and, Bool.false_and, Bool.and_false, Bool.or_true, Bool.true_or, Bool.or_false, Bool.false_or, Bool.not_true, Bool.not_false]; done) | (simp only [hb109, hb131, hb142, hb143]; first | done | simp only [Bool.and_true, Bool.true_and, Bool.false_and, Bool.and_false, Bool.or_true, Bool.true_or, Bool.or_false, Bool.false_or, Bool.not_true, Bool.not_false])), trivial⟩
      ·refine W_loadAgg rfl rfl isAgg24 sizeOf24 rfl (own_all (List.mem_cons_of_mem _ (List.mem_cons_self ..))) rfl ?_
       refine W_loadAgg rfl rfl isAgg24 sizeOf24 rfl (own_all (List.mem_cons_self ..)) rfl ?_
       refine W_eqAgg (b := decide (r103.1.Inertia = r106.1.Inertia) && (decide (r103.1.Damping = r106.1.Damping) && (decide (r103.1.Supply = r106.1.Supply) && (decide (r103.1.Demand = r106.1.Demand) && (decide (r103.1.Frequency = r106.1.Frequency) && true))))) rfl rfl (by kernel_rfl) rfl rfl (fun w => run_equal_struct (bs := [decide (r103.1.Inertia = r106.1.Inertia), decide (r103.1.Damping = r106.1.Damping), decide (r103.1.Supply = r106.1.Supply), decide (r103.1.Demand = r106.1.Demand), decide (r103.1.Frequency = r106.1.Frequency)]) runUnderlying24 (by kernel_rfl) ⟨(by decide), (fldEq_int isAgg3 runUnderlying3 rfl rfl), (by decide), (fldEq_int isAgg3 runUnderlying3 rfl rfl), (by decide), (fldEq_int isAgg3 runUnderlying3 rfl rfl), (by decide), (fldEq_int isAgg3 runUnderlying3 rfl rfl), (by decide), (fldEq_str isAgg22 runUnderlying22 rfl rfl), trivial⟩) ?_
       refine W_pick rfl rfl rfl rfl ?_
       refine W_move rfl rfl rfl ?_
       cases hb144 : (decide (r103.1.Inertia = r106.1.Inertia) && (decide (r103.1.Damping = r106.1.Damping) && (decide (r103.1.Supply = r106.1.Supply) && (decide (r103.1.Demand = r106.1.Demand) && (decide (r103.1.Frequency = r106.1.Frequency) && true)))))
       ·refine W_no rfl rfl rfl ?_
        refine W_no rfl rfl rfl ?_
        refine W_no rfl rfl rfl ?_
        refine W_pick rfl rfl rfl rfl ?_
        refine W_assign rfl rfl rfl ?_
        refine W_end ?_
        refine E_drop (List.Sublist.cons _ (List.Sublist.cons _ (List.Sublist.refl _))) ?_
        exact E_keepJ (J141 _ _ _ ⟨rfl, rfl, rfl⟩) (List.Perm.refl _) ⟨(by show some (Value.bool (false)) = some (Value.bool (((r139 && (decide (r106.2 = 0))) && (decide (r103.1.Inertia = r106.1.Inertia) && (decide (r103.1.Damping = r106.1.Damping) && (decide (r103.1.Supply = r106.1.Supply) && (decide (r103.1.Demand = r106.1.Demand) && (decide (r103.1.Frequency = r106.1.Frequency) && true)))))) && (decide (r123.1 = r125.1)))); first | (simp only [hb109, hb131, hb142, hb143, hb144, Bool.and_true, Bool.true_and, Bool.false_and, Bool.and_false, Bool.or_true, Bool.true_or, Bool.or_false, Bool.false_or, Bool.not_true, Bool.not_false]; done) | (simp only [hb109, hb131, hb142, hb143, hb144]; first | done | simp only [Bool.and_true, Bool.true_and, Bool.false_and, Bool.and_false, Bool.or_true, Bool.true_or, Bool.or_false, Bool.false_or, Bool.not_true, Bool.not_false])), trivial⟩
       ·refine W_move rfl rfl rfl ?_
        refine W_move rfl rfl rfl ?_
        refine W_bin rfl rfl rfl rfl rfl ?_
        refine W_pick rfl rfl rfl rfl ?_
        refine W_assign rfl rfl rfl ?_
        refine W_end ?_
        refine E_drop (List.Sublist.cons _ (List.Sublist.cons _ (List.Sublist.refl _))) ?_
        exact E_keepJ (J141 _ _ _ ⟨rfl, rfl, rfl⟩) (List.Perm.refl _) ⟨(by show some (Value.bool (decide (r123.1 = r125.1))) = some (Value.bool (((r139 && (decide (r106.2 = 0))) && (decide (r103.1.Inertia = r106.1.Inertia) && (decide (r103.1.Damping = r106.1.Damping) && (decide (r103.1.Supply = r106.1.Supply) && (decide (r103.1.Demand = r106.1.Demand) && (decide (r103.1.Frequency = r106.1.Frequency) && true)))))) && (decide (r123.1 = r125.1)))); first | (simp only [hb109, hb131, hb142, hb143, hb144, Bool.and_true, Bool.true_and, Bool.false_and, Bool.and_false, Bool.or_true, Bool.true_or, Bool.or_false, Bool.false_or, Bool.not_true, Bool.not_false]; done) | (simp only [hb109, hb131, hb142, hb143, hb144]; first | done | simp only [Bool.and_true, Bool.true_and, Bool.false_and, Bool.and_false, Bool.or_true, Bool.true_or, Bool.or_false, Bool.false_or, Bool.not_true, Bool.not_false])), trivial⟩
  ·refine C_region ?_
   refine W_move rfl rfl rfl ?_
   refine W_bin rfl rfl rfl rfl rfl ?_
   refine W_move rfl rfl rfl ?_
   cases hb145 : (decide (r119.2 = 0))
   ·refine W_no rfl rfl rfl ?_
    refine W_no rfl rfl rfl ?_
    refine W_pick rfl rfl rfl rfl ?_
    refine W_move rfl rfl rfl ?_
    refine W_no rfl rfl rfl ?_
    refine W_no rfl rfl rfl ?_
    refine W_pick rfl rfl rfl rfl ?_
    refine W_move rfl rfl rfl ?_
    refine W_no rfl rfl rfl ?_
    refine W_no rfl rfl rfl ?_
    refine W_pick rfl rfl rfl rfl ?_
    refine W_end ?_
    refine E_drop (List.Sublist.cons_cons _ (List.Sublist.cons_cons _ (List.Sublist.cons _ (List.Sublist.cons _ (List.Sublist.refl _))))) ?_
    exact E_keepJ (J130 _ _ _ ⟨rfl, rfl, rfl⟩) (List.Perm.refl _) ⟨rfl, rfl, rfl, rfl, rfl, (by show some (Value.bool (true)) = some (Value.bool ((((!decide (r119.2 = 0)) || (!decide (r121.2 = 0))) || (!decide (r123.2 = 0))) || (!decide (r125.2 = 0)))); first | (simp only [hb109, hb145, Bool.and_true, Bool.true_and, Bool.false_and, Bool.and_false, Bool.or_true, Bool.true_or, Bool.or_false, Bool.false_or, Bool.not_true, Bool.not_false]; done) | (simp only [hb109, hb145]; first | done | simp only [Bool.and_true, Bool.true_and, Bool.false_and, Bool.and_false, Bool.or_true, Bool.true_or, Bool.or_false, Bool.false_or, Bool.not_true, Bool.not_false])), trivial⟩
   ·refine W_move rfl rfl rfl ?_
    refine W_bin rfl rfl rfl rfl rfl ?_
    refine W_pick rfl rfl rfl rfl ?_
    refine W_move rfl rfl rfl ?_
    cases hb146 : (decide (r121.2 = 0))
    ·refine W_no rfl rfl rfl ?_
     refine W_no rfl rfl rfl ?_
     refine W_pick rfl rfl rfl rfl ?_
     refine W_move rfl rfl rfl ?_
     refine W_no rfl rfl rfl ?_
     refine W_no rfl rfl rfl ?_
     refine W_pick rfl rfl rfl rfl ?_
     refine W_end ?_
     refine E_drop (List.Sublist.cons_cons _ (List.Sublist.cons_cons _ (List.Sublist.cons _ (List.Sublist.cons _ (List.Sublist.refl _))))) ?_
     exact E_keepJ (J130 _ _ _ ⟨rfl, rfl, rfl⟩) (List.Perm.refl _) ⟨rfl, rfl, rfl, rfl, rfl, (by show some (Value.bool (true)) = some (Value.bool ((((!decide (r119.2 = 0)) || (!decide (r121.2 = 0))) || (!decide (r123.2 = 0))) || (!decide (r125.2 = 0)))); first | (simp only [hb109, hb145, hb146, Bool.and_true, Bool.true_and, Bool.false_and, Bool.and_false, Bool.or_true, Bool.true_or, Bool.or_false, Bool.false_or, Bool.not_true, Bool.not_false]; done) | (simp only [hb109, hb145, hb146]; first | done | simp only [Bool.and_true, Bool.true_and, Bool.false_and, Bool.and_false, Bool.or_true, Bool.true_or, Bool.or_false, Bool.false_or, Bool.not_true, Bool.not_false])), trivial⟩
    ·refine W_move rfl rfl rfl ?_
     refine W_bin rfl rfl rfl rfl rfl ?_
     refine W_pick rfl rfl rfl rfl ?_
     refine W_move rfl rfl rfl ?_
     cases hb147 : (decide (r123.2 = 0))
     ·refine W_no rfl rfl rfl ?_
      refine W_no rfl rfl rfl ?_
      refine W_pick rfl rfl rfl rfl ?_
      refine W_end ?_
      refine E_drop (List.Sublist.cons_cons _ (List.Sublist.cons_cons _ (List.Sublist.cons _ (List.Sublist.cons _ (List.Sublist.refl _))))) ?_
      exact E_keepJ (J130 _ _ _ ⟨rfl, rfl, rfl⟩) (List.Perm.refl _) ⟨rfl, rfl, rfl, rfl, rfl, (by show some (Value.bool (true)) = some (Value.bool ((((!decide (r119.2 = 0)) || (!decide (r121.2 = 0))) || (!decide (r123.2 = 0))) || (!decide (r125.2 = 0)))); first | (simp only [hb109, hb145, hb146, hb147, Bool.and_true, Bool.true_and, Bool.false_and, Bool.and_false, Bool.or_true, Bool.true_or, Bool.or_false, Bool.false_or, Bool.not_true, Bool.not_false]; done) | (simp only [hb109, hb145, hb146, hb147]; first | done | simp only [Bool.and_true, Bool.true_and, Bool.false_and, Bool.and_false, Bool.or_true, Bool.true_or, Bool.or_false, Bool.false_or, Bool.not_true, Bool.not_false])), trivial⟩
     ·refine W_move rfl rfl rfl ?_
      refine W_bin rfl rfl rfl rfl rfl ?_
      refine W_pick rfl rfl rfl rfl ?_
      refine W_end ?_
      refine E_drop (List.Sublist.cons_cons _ (List.Sublist.cons_cons _ (List.Sublist.cons _ (List.Sublist.cons _ (List.Sublist.refl _))))) ?_
      exact E_keepJ (J130 _ _ _ ⟨rfl, rfl, rfl⟩) (List.Perm.refl _) ⟨rfl, rfl, rfl, rfl, rfl, (by show some (Value.bool (!decide (r125.2 = 0))) = some (Value.bool ((((!decide (r119.2 = 0)) || (!decide (r121.2 = 0))) || (!decide (r123.2 = 0))) || (!decide (r125.2 = 0)))); first | (simp only [hb109, hb145, hb146, hb147, Bool.and_true, Bool.true_and, Bool.false_and, Bool.and_false, Bool.or_true, Bool.true_or, Bool.or_false, Bool.false_or, Bool.not_true, Bool.not_false]; done) | (simp only [hb109, hb145, hb146, hb147]; first | done | simp only [Bool.and_true, Bool.true_and, Bool.false_and, Bool.and_false, Bool.or_true, Bool.true_or, Bool.or_false, Bool.false_or, Bool.not_true, Bool.not_false])), trivial⟩

theorem m_gridhallref4_Cut_c {B : Nat} {w0 w : World} [Tabs B w0] {H : Hp} {M : List Res} {p0_n : Int} {p1_low : Int} {p2_high : Int} {r : Int} (hm : m_gridhallref4_Cut p0_n p1_low p2_high = some r) (ht : St B w0 H (M) w) :
  Calls prog 19 [.int .i64 (p0_n), .int .i64 (p1_low), .int .i64 (p2_high)].toArray w (Ret B w0 fun H' M' v => H = H' ∧ M = M' ∧ .int .i64 (r) = v) := by
 unfold m_gridhallref4_Cut at hm
 refine enter func19 rfl rfl rfl ht ?_
 refine C_seq (C_region ?_)
 refine W_assign rfl rfl rfl ?_
 refine W_end (E_then (C_seq (C_region ?_)))
 refine W_move rfl rfl rfl ?_
 refine W_move rfl rfl rfl ?_
 refine W_bin rfl rfl rfl rfl rfl ?_
 refine W_bin rfl rfl rfl rfl rfl ?_
 refine W_assign rfl rfl rfl ?_
 refine W_end (E_then (C_seq (C_region ?_)))
 refine W_move rfl rfl rfl ?_
 refine W_move rfl rfl rfl ?_
 obtain ⟨hq101, hm⟩ := need_some hm
 refine W_rem rfl rfl rfl rfl hq101 ?_
 refine W_assign rfl rfl rfl ?_
 refine W_end (E_then ?_)
 refine C_seq_join (fun H' M' L' => ∃ n103 : Int, m_gridhallref4_Cut_b1 p1_low n103 = some r ∧ H = H' ∧ M = M' ∧ [(0, .int .i64 (n103)), (1, .int .i64 (p1_low))] = L') ?_ (fun J104 => ?_)
 ·rintro _ _ _ ⟨n103, hm, rfl, rfl, rfl⟩
  unfold m_gridhallref4_Cut_b1 at hm
  refine C_seq (C_region ?_)
  refine W_move rfl rfl rfl ?_
  refine W_move rfl rfl rfl ?_
  refine W_bin rfl rfl rfl rfl rfl ?_
  refine W_assign rfl rfl rfl ?_
  refine W_end (E_then (C_ret ?_))
  obtain rfl := Option.some.inj hm
  refine E_weak (Hp.le_refl _) ?_
  exact end1 rfl rfl ⟨rfl, rfl, rfl⟩
 ·refine C_seq (C_region ?_)
  refine W_move rfl rfl rfl ?_
  refine W_bin rfl rfl rfl rfl rfl ?_
  refine W_end (E_then ?_)
  refine C_cond (b := decide ((Int.tmod p0_n (IntKind.i64.wrap ((IntKind.i64.wrap (p2_high - p1_low)) + 1))) < 0)) rfl (fun hb105 => ?_) (fun hb105 => ?_)
  ·have hm := ite_t' hb105 hm
   refine C_region ?_
   refine W_move rfl rfl rfl ?_
   refine W_move rfl rfl rfl ?_
   refine W_bin rfl rfl rfl rfl rfl ?_
   refine W_assign rfl rfl rfl ?_
   refine W_end ?_
   exact E_keepJ (J104 _ _ _ ⟨IntKind.i64.wrap ((Int.tmod p0_n (IntKind.i64.wrap ((IntKind.i64.wrap (p2_high - p1_low)) + 1))) + (IntKind.i64.wrap ((IntKind.i64.wrap (p2_high - p1_low)) + 1))), hm, rfl, rfl, rfl⟩) (List.Perm.refl _) ⟨rfl, rfl, trivial⟩
  ·have hm := ite_f' hb105 hm
   refine C_skip ?_
   exact E_keepJ (J104 _ _ _ ⟨Int.tmod p0_n (IntKind.i64.wrap ((IntKind.i64.wrap (p2_high - p1_low)) + 1)), hm, rfl, rfl, rfl⟩) (List.Perm.refl _) ⟨rfl, rfl, trivial⟩

theorem grow37_c {B : Nat} {w0 w : World} {H : Hp} {M : List Res} {n : Int} (hz : 0 ≤ n ∧ n * 16 ≤ 281474976710656) (ht : St B w0 H M w) :
  Calls prog 37 [.slice none 0 0, .int .i64 n].toArray w (Ret B w0 fun H' M' v => H = H' ∧ ∃ (v' : Value) (xs' : List Value), .row v' 22 (Rep.sz ByteArray) ([] : List ByteArray).length xs' :: M = M' ∧ v' = v ∧ RwF v' xs' ([] : List ByteArray) ∧ n ≤ Value.cap' v') := by
 refine enter func37 rfl rfl rfl ht ?_
 have hn : IntKind.i64.wrap (n - IntKind.i64.wrap (((0 : Nat) : Int) - ((0 : Nat) : Int))) = n := by
  rw [show IntKind.i64.wrap (((0 : Nat) : Int) - ((0 : Nat) : Int)) = 0 from rfl, Int.sub_zero, i64_of (by omega) (by omega)]
 refine C_seq (C_region ?_)
 refine W_assign rfl rfl rfl ?_
 refine W_end (E_then (C_seq (C_seq (C_region ?_))))
 refine W_move rfl rfl rfl ?_
 refine W_bin rfl rfl rfl rfl rfl ?_
 refine W_end (E_then ?_)
 refine C_cond (b := decide (n < 0)) rfl (fun hb => absurd (of_decide_eq_true hb) (by omega)) (fun _ => ?_)
 refine C_skip (E_then ?_)
 refine C_seq_join (fun H1 M1 L1 => ∃ (v' : Value) (xs' : List Value), H = H1 ∧ .row v' 22 (Rep.sz ByteArray) ([] : List ByteArray).length xs' :: M = M1 ∧ [(0, v')] = L1 ∧ Rw H v' xs' ([] : List ByteArray) ∧ n ≤ Value.cap' v') ?_ (fun J => ?_)
 ·rintro _ _ _ ⟨v', xs', rfl, rfl, rfl, h, hc⟩
  refine C_seq (C_region ?_)
  refine W_move rfl rfl rfl ?_
  refine W_assign rfl rfl rfl ?_
  refine W_end (E_then (C_ret ?_))
  exact end1 rfl rfl ⟨rfl, v', xs', rfl, rfl, h.toF, hc⟩
 ·refine C_seq (C_region ?_)
  refine W_move rfl rfl rfl ?_
  refine W_move rfl rfl rfl ?_
  refine W_capS rfl rfl runUnderlying38 rfl ?_
  refine W_move rfl rfl rfl ?_
  refine W_lenS rfl rfl runUnderlying38 rfl ?_
  refine W_bin rfl rfl rfl rfl rfl ?_
  refine W_bin rfl rfl rfl rfl rfl ?_
  refine W_assign rfl rfl rfl ?_
  refine W_end (E_then ?_)
  rw [hn]
  refine C_seq (C_region ?_)
  refine W_move rfl rfl rfl ?_
  refine W_bin rfl rfl rfl rfl rfl ?_
  refine W_end (E_then ?_)
  refine C_cond (b := decide (0 < n)) rfl (fun hb => ?_) (fun hb => ?_)
  ·refine C_region ?_
   refine W_move rfl rfl rfl ?_
   refine W_move rfl rfl rfl ?_
   refine W_capS rfl rfl runUnderlying38 rfl ?_
   refine W_sliceNil rfl rfl runUnderlying38 sizeOf22 rfl rfl ?_
   refine W_move rfl rfl rfl ?_
   refine W_growNil (α := ByteArray) (ze := (⟨#[]⟩)) (bytes := 16) rfl rfl underlying38 underlying3 ⟨_, rfl, rfl, rfl, rfl⟩ rfl rfl rfl rfl rfl rfl (of_decide_eq_true hb) hz.2 ?_
   intro v1 xs1 l1 h1 hl1 hc1
   refine W_move rfl rfl rfl ?_
   refine W_lenS rfl rfl runUnderlying38 rfl ?_
   refine W_sliceOC (α := ByteArray) (l := 0) (h := 0) rfl rfl runUnderlying38 sizeOf22 rfl rfl h1 (by omega) (by omega) (fun m hmm => (.inr ⟨_, _, _, rfl, rfl, by omega, by omega, rfl⟩)) (.inl ⟨rfl, rfl⟩) ?_
   intro v2 xs2 h2 hc2
   refine W_assign rfl rfl rfl ?_
   refine W_end ?_
   exact E_keepJ (J _ _ _ ⟨v2, xs2, rfl, rfl, rfl, h2, by rw [hc2, Nat.sub_zero]; exact hc1⟩) (List.Perm.refl _) ⟨rfl, trivial⟩
  ·refine C_skip ?_
   refine E_nilRow 22 (Rep.sz ByteArray) ?_
   exact E_keepJ (J _ _ _ ⟨.slice none 0 0, [], rfl, rfl, rfl, Rw.nil, by have := of_decide_eq_false hb; simp only [Value.cap']; omega⟩) (List.Perm.refl _) ⟨rfl, trivial⟩

theorem m_slices_Concat_api_Rat_api_Rat_c {B : Nat} {w0 w : World} [Tabs B w0] {H : Hp} {M : List Res} {slices : (List (List ByteArray))} {v0 : Value} {r : (List ByteArray)} (hm : m_slices_Concat_api_Rat_api_Rat slices = some r) (h0 : RdS H v0 slices) (ht : St B w0 H (M) w) :
  Calls prog 22 [v0].toArray w (Ret B w0 fun H' M' v => H = H' ∧ ∃ qv0 : Value, ∃ qxs0 : List Value, .row qv0 22 (Rep.sz ByteArray) r.length qxs0 :: M = M' ∧ qv0 = v ∧ RwF qv0 qxs0 r) := by
 unfold m_slices_Concat_api_Rat_api_Rat at hm
 refine enter func22 rfl rfl rfl ht ?_
 refine C_seq (C_region ?_)
 refine W_assign rfl rfl rfl ?_
 refine W_end (E_then (C_seq (C_region ?_)))
 refine W_assign rfl rfl rfl ?_
 refine W_end (E_then (C_seq (C_seq (C_region ?_))))
 refine W_move rfl rfl rfl ?_
 refine W_lenR rfl rfl runUnderlying61 rfl h0 ?_
 refine W_move rfl rfl rfl ?_
 refine W_end (E_then (C_block ?_))
 refine C_keep (L' := [(0, v0), (3, .int .i64 (0)), (9, v0), (10, .int .i64 ((slices.length : Int))), (11, .int .i64 (((0 : Nat) : Int)))]) ⟨rfl, rfl, rfl, rfl, rfl, trivial⟩ (List.Perm.refl _) ?_
 refine C_loop (fun n H' M' L' => ∃ (k101 : Nat) (zs120' : List (List ByteArray)), ∃ n112 : Int, (slices).drop k101 = zs120' ∧ zs120'.length = n ∧ forI (fun k y s115 n => m_slices_Concat_api_Rat_api_Rat_b1 k y s115 n) (fun s115 => need (0 ≤ s115 ∧ s115 * 16 ≤ 281474976710656) (forI (fun k y s170 n => m_slices_Concat_api_Rat_api_Rat_b2 s115 k y s170 n) (fun s170 => some s170) 0 slices ([] : List ByteArray))) k101 zs120' n112 = some r ∧ H.le H' ∧ M = M' ∧ [(0, v0), (3, .int .i64 (n112)), (9, v0), (10, .int .i64 ((slices.length : Int))), (11, .int .i64 ((k101 : Int)))] = L') _ ⟨0, _, 0, rfl, rfl, hm, (Hp.le_refl _), rfl, rfl⟩ ?_
 rintro _ H113 _ _ ⟨k101, zs120', n112, hd122, rfl, hm, hle114, rfl, rfl⟩
 refine C_seq (C_region ?_)
 refine W_bin rfl rfl rfl rfl rfl ?_
 refine W_end (E_then (C_seq ?_))
 refine C_cond (b := decide ((k101 : Int) < (slices.length : Int))) rfl (fun hb124 => ?_) (fun hb124 => ?_)
 ·obtain ⟨y119, zs120, rfl, hy121, hd123⟩ := rng_t hd122 hb124
  have hm : m_slices_Concat_api_Rat_api_Rat_b1 k101 y119 n112 (forI (fun k y s115 n => m_slices_Concat_api_Rat_api_Rat_b1 k y s115 n) (fun s115 => need (0 ≤ s115 ∧ s115 * 16 ≤ 281474976710656) (forI (fun k y s170 n => m_slices_Concat_api_Rat_api_Rat_b2 s115 k y s170 n) (fun s170 => some s170) 0 slices ([] : List ByteArray))) (k101 + 1) zs120) = some r := hm
  generalize hn117 : forI (fun k y s115 n => m_slices_Concat_api_Rat_api_Rat_b1 k y s115 n) (fun s115 => need (0 ≤ s115 ∧ s115 * 16 ≤ 281474976710656) (forI (fun k y s170 n => m_slices_Concat_api_Rat_api_Rat_b2 s115 k y s170 n) (fun s170 => some s170) 0 slices ([] : List ByteArray))) (k101 + 1) zs120 = nx116 at hm
  unfold m_slices_Concat_api_Rat_api_Rat_b1 at hm
  refine C_skip (E_then (C_seq (C_block (C_seq (C_region ?_)))))
  obtain ⟨_, ⟨v126, rfl, h127⟩, hc125⟩ := (h0).elem hy121
  refine W_indexS rfl rfl runUnderlying61 sizeOf38 rfl (h0.mono hle114) rfl (Int.natCast_nonneg _) hy121 ?_
  refine W_load rfl rfl isAgg38 rfl (HCells.one (hc125.mono hle114) 0 rfl).at ?_
  refine W_assign rfl rfl rfl ?_
  refine W_end (E_then (C_seq (C_region ?_)))
  refine W_move rfl rfl rfl ?_
  refine W_move rfl rfl rfl ?_
  refine W_lenR rfl rfl runUnderlying38 rfl (h127.mono hle114) ?_
  refine W_bin rfl rfl rfl rfl rfl ?_
  refine W_assign rfl rfl rfl ?_
  refine W_end (E_then (C_seq (C_region ?_)))
  refine W_move rfl rfl rfl ?_
  refine W_bin rfl rfl rfl rfl rfl ?_
  refine W_end (E_then ?_)
  refine C_cond (b := decide ((IntKind.i64.wrap (n112 + (y119.length : Int))) < 0)) rfl (fun hb128 => ?_) (fun hb128 => ?_)
  ·have hm := ite_t' hb128 hm
   cases hm
  ·have hm := ite_f' hb128 hm
   refine C_skip (E_normal_block (E_then (C_region ?_)))
   refine W_bin rfl rfl rfl rfl rfl ?_
   refine W_move rfl rfl rfl ?_
   refine W_end ?_
   exact E_keepJ (E_back (Nat.lt_succ_self _) ⟨k101 + 1, zs120, IntKind.i64.wrap (n112 + (y119.length : Int)), hd123, rfl, (by rw [hn117]; exact hm), hle114, rfl, rfl⟩) (List.Perm.refl _) ⟨rfl, rfl, rfl, rfl, (congrArg (fun z => some (Value.int .i64 z)) (i64_succ hy121 ((h0.mono hle114)).lenMax)), trivial⟩
 ·obtain rfl := rng_f hd122 hb124
  have hm : (need (0 ≤ n112 ∧ n112 * 16 ≤ 281474976710656) (forI (fun k y s170 n => m_slices_Concat_api_Rat_api_Rat_b2 n112 k y s170 n) (fun s170 => some s170) 0 slices ([] : List ByteArray))) = some r := hm
  refine C_exit (E_exit_then (E_exit_then (E_exit_hit (E_then (C_seq (C_region ?_))))))
  refine W_move rfl rfl rfl ?_
  obtain ⟨hz129, hm⟩ := need_some hm
  refine W_call call37 rfl rfl rfl (fun w ht => by have h := grow37_c hz129 ht; exact h) ?_
  rintro _ _ _ ⟨rfl, v131, xs132, rfl, rfl, hr133, hcap130⟩
  have hr133 := hr133 H113
  refine W_assign rfl rfl rfl ?_
  refine W_end (E_then (C_seq (C_seq (C_region ?_))))
  refine W_move rfl rfl rfl ?_
  refine W_lenR rfl rfl runUnderlying61 rfl (h0.mono hle114) ?_
  refine W_move rfl rfl rfl ?_
  refine W_end (E_then (C_block ?_))
  refine C_keep (L' := [(6, v131), (25, v0), (26, .int .i64 ((slices.length : Int))), (27, .int .i64 (((0 : Nat) : Int)))]) ⟨rfl, rfl, rfl, rfl, trivial⟩ (List.Perm.refl _) ?_
  refine C_loop (fun n H' M' L' => ∃ (k134 : Nat) (zs175' : List (List ByteArray)), ∃ l165 : List ByteArray, ∃ v163 : Value, ∃ xs164 : List Value, (slices).drop k134 = zs175' ∧ zs175'.length = n ∧ forI (fun k y s170 n => m_slices_Concat_api_Rat_api_Rat_b2 n112 k y s170 n) (fun s170 => some s170) k134 zs175' l165 = some r ∧ Rw H' v163 xs164 l165 ∧ n112 ≤ (Value.cap' v163 : Int) ∧ H113.le H' ∧ .row v163 22 (Rep.sz ByteArray) l165.length xs164 :: M = M' ∧ [(6, v163), (25, v0), (26, .int .i64 ((slices.length : Int))), (27, .int .i64 ((k134 : Int)))] = L') _ ⟨0, _, ([] : List ByteArray), v131, xs132, rfl, rfl, hm, hr133, hcap130, (Hp.le_refl _), rfl, rfl⟩ ?_
  rintro _ H168 _ _ ⟨k134, zs175', l165, v163, xs164, hd177, rfl, hm, hr166, hcap167, hle169, rfl, rfl⟩
  refine C_seq (C_region ?_)
  refine W_bin rfl rfl rfl rfl rfl ?_
  refine W_end (E_then (C_seq ?_))
  refine C_cond (b := decide ((k134 : Int) < (slices.length : Int))) rfl (fun hb179 => ?_) (fun hb179 => ?_)
  ·obtain ⟨y174, zs175, rfl, hy176, hd178⟩ := rng_t hd177 hb179
   have hm : m_slices_Concat_api_Rat_api_Rat_b2 n112 k134 y174 l165 (forI (fun k y s170 n => m_slices_Concat_api_Rat_api_Rat_b2 n112 k y s170 n) (fun s170 => some s170) (k134 + 1) zs175) = some r := hm
   generalize hn172 : forI (fun k y s170 n => m_slices_Concat_api_Rat_api_Rat_b2 n112 k y s170 n) (fun s170 => some s170) (k134 + 1) zs175 = nx171 at hm
   unfold m_slices_Concat_api_Rat_api_Rat_b2 at hm
   refine C_skip (E_then (C_seq (C_block (C_seq (C_region ?_)))))
   obtain ⟨_, ⟨v181, rfl, h182⟩, hc180⟩ := (h0).elem hy176
   refine W_indexS rfl rfl runUnderlying61 sizeOf38 rfl ((h0.mono hle114).mono hle169) rfl (Int.natCast_nonneg _) hy176 ?_
   refine W_load rfl rfl isAgg38 rfl (HCells.one ((hc180.mono hle114).mono hle169) 0 rfl).at ?_
   refine W_assign rfl rfl rfl ?_
   refine W_end (E_then (C_region ?_))
   refine W_move rfl rfl rfl ?_
   refine W_move rfl rfl rfl ?_
   obtain ⟨hz183, hm⟩ := need_some hm
   refine W_appendC (α := ByteArray) (l := l165) (ys := y174) rfl rfl underlying38 ⟨_, rfl, rfl, rfl, rfl⟩ rfl rfl rfl rfl hr166 ((h182.mono hle114).mono hle169) (by have h1_ := hz183; have h2_ := hcap167; omega) ?_
   intro v186 xs187 hr188 hc184
   have hcap185 : n112 ≤ (Value.cap' v186 : Int) := by rw [hc184]; exact hcap167
   refine W_assign rfl rfl rfl ?_
   refine W_end (E_normal_block (E_then (C_region ?_)))
   refine W_bin rfl rfl rfl rfl rfl ?_
   refine W_move rfl rfl rfl ?_
   refine W_end ?_
   exact E_keepJ (E_back (Nat.lt_succ_self _) ⟨k134 + 1, zs175, (l165 ++ y174), v186, xs187, hd178, rfl, (by rw [hn172]; exact hm), hr188, hcap185, hle169, rfl, rfl⟩) (List.Perm.refl _) ⟨rfl, rfl, rfl, (congrArg (fun z => some (Value.int .i64 z)) (i64_succ hy176 (((h0.mono hle114).mono hle169)).lenMax)), trivial⟩
  ·obtain rfl := rng_f hd177 hb179
   have hm : (some l165) = some r := hm
   refine C_exit (E_exit_then (E_exit_then (E_exit_hit (E_then (C_seq (C_region ?_))))))
   refine W_move rfl rfl rfl ?_
   refine W_assign rfl rfl rfl ?_
   refine W_end (E_then (C_ret ?_))
   obtain rfl := Option.some.inj hm
   refine E_weak (Hp.le_trans hle114 hle169) ?_
   exact end1 rfl rfl ⟨rfl, v163, xs164, rfl, rfl, (hr166).toF⟩

theorem m_slices_Equal_api_Rat_api_Rat_c {B : Nat} {w0 w : World} [Tabs B w0] {H : Hp} {M : List Res} {p0_s1 : (List ByteArray)} {p1_s2 : (List ByteArray)} {v0 : Value} {v1 : Value} {r : Bool} (hm : m_slices_Equal_api_Rat_api_Rat p0_s1 p1_s2 = some r) (h0 : RdS H v0 p0_s1) (h1 : RdS H v1 p1_s2) (ht : St B w0 H (M) w) :
  Calls prog 21 [v0, v1].toArray w (Ret B w0 fun H' M' v => H = H' ∧ M = M' ∧ .bool (r) = v) := by
 unfold m_slices_Equal_api_Rat_api_Rat at hm
 refine enter func21 rfl rfl rfl ht ?_
 refine C_seq (C_region ?_)
 refine W_assign rfl rfl rfl ?_
 refine W_end (E_then (C_seq (C_seq (C_region ?_))))
 refine W_move rfl rfl rfl ?_
 refine W_lenR rfl rfl runUnderlying38 rfl h0 ?_
 refine W_move rfl rfl rfl ?_
 refine W_lenR rfl rfl runUnderlying38 rfl h1 ?_
 refine W_bin rfl rfl rfl rfl rfl ?_
 refine W_end (E_then ?_)
 refine C_cond (b := !decide ((p0_s1.length : Int) = (p1_s2.length : Int))) rfl (fun hb101 => ?_) (fun hb101 => ?_)
 ·have hm := ite_t' hb101 hm
  refine C_seq (C_region ?_)
  refine W_assign rfl rfl rfl ?_
  refine W_end (E_then (C_ret (E_ret_then ?_)))
  obtain rfl := Option.some.inj hm
  refine E_weak (Hp.le_refl _) ?_
  exact end1 rfl rfl ⟨rfl, rfl, rfl⟩
 ·have hm := ite_f' hb101 hm
  refine C_skip (E_then (C_seq (C_seq (C_region ?_))))
  refine W_move rfl rfl rfl ?_
  refine W_lenR rfl rfl runUnderlying38 rfl h0 ?_
  refine W_move rfl rfl rfl ?_
  refine W_end (E_then (C_block ?_))
  refine C_keep (L' := [(0, v0), (1, v1), (12, .int .i64 ((p0_s1.length : Int))), (13, .int .i64 (((0 : Nat) : Int)))]) ⟨rfl, rfl, rfl, rfl, trivial⟩ (List.Perm.refl _) ?_
  refine C_loop (fun n H' M' L' => ∃ (k102 : Nat) (zs136' : Nat), k102 + zs136' = ((p0_s1.length : Int) : Int).toNat ∧ zs136' = n ∧ forN (fun k s131 n => m_slices_Equal_api_Rat_api_Rat_b1 p0_s1 p1_s2 k n) (fun _ => some true) zs136' k102 () = some r ∧ H.le H' ∧ M = M' ∧ [(0, v0), (1, v1), (12, .int .i64 ((p0_s1.length : Int))), (13, .int .i64 ((k102 : Int)))] = L') _ ⟨0, _, Nat.zero_add _, rfl, hm, (Hp.le_refl _), rfl, rfl⟩ ?_
  rintro _ H129 _ _ ⟨k102, zs136', hd138, rfl, hm, hle130, rfl, rfl⟩
  refine C_seq (C_region ?_)
  refine W_bin rfl rfl rfl rfl rfl ?_
  refine W_end (E_then (C_seq ?_))
  refine C_cond (b := decide ((k102 : Int) < (p0_s1.length : Int))) rfl (fun hb140 => ?_) (fun hb140 => ?_)
  ·obtain ⟨zs136, rfl, hd139, hy137⟩ := rngN_t hd138 hb140
   have hm : m_slices_Equal_api_Rat_api_Rat_b1 p0_s1 p1_s2 k102 (forN (fun k s131 n => m_slices_Equal_api_Rat_api_Rat_b1 p0_s1 p1_s2 k n) (fun _ => some true) zs136 (k102 + 1)) = some r := hm
   generalize hn133 : forN (fun k s131 n => m_slices_Equal_api_Rat_api_Rat_b1 p0_s1 p1_s2 k n) (fun _ => some true) zs136 (k102 + 1) = nx132 at hm
   unfold m_slices_Equal_api_Rat_api_Rat_b1 at hm
   refine C_skip (E_then (C_seq (C_block (C_seq (C_region ?_)))))
   refine W_move rfl rfl rfl ?_
   refine W_assign rfl rfl rfl ?_
   refine W_end (E_then (C_seq ?_))
   obtain ⟨y141, h142, he143, hm⟩ := idx_some hm
   obtain ⟨_, rfl, hc144⟩ := (h0).elem he143
   obtain ⟨y145, h146, he147, hm⟩ := idx_some hm
   obtain ⟨_, rfl, hc148⟩ := (h1).elem he147
   refine C_region_tok0 8 (phiT [(fun H rs v => [] = rs ∧ v0 = v), (fun H rs v => [] = rs ∧ .int .i64 ((k102 : Int)) = v), (fun H rs v => [] = rs ∧ .pointer (some ((Value.base (v0)).add (((k102 : Int) : Int).toNat * 1))) = v), (fun H rs v => [] = rs ∧ .string (y141) = v), (fun H rs v => [] = rs ∧ v1 = v), (fun H rs v => [] = rs ∧ .int .i64 ((k102 : Int)) = v), (fun H rs v => [] = rs ∧ .pointer (some ((Value.base (v1)).add (((k102 : Int) : Int).toNat * 1))) = v), (fun H rs v => [] = rs ∧ .string (y145) = v)]) [[], [], [], [], [], [], [], []] [[], [], [], [], [], [], [], []] [] [0, 1, 2, 3, 4, 5, 6, 7] Facts.mixed (by kernel_rfl) (by rfl) (by rfl) (by rfl) (by kernel_rfl) (phiT_mono ⟨eq_monoT _ _, eq_monoT _ _, eq_monoT _ _, eq_monoT _ _, eq_monoT _ _, eq_monoT _ _, eq_monoT _ _, eq_monoT _ _, trivial⟩) ⟨?_, ?_, ?_, ?_, ?_, ?_, ?_, ?_, trivial⟩ ?_
   ·intro HX hX X Rest hR
    intro hU hUp
    refine W_move rfl rfl rfl ?_
    exact W_end (OneT_end [] (Hp.le_refl _) ⟨rfl, rfl⟩)
   ·intro HX hX X Rest hR
    intro hU hUp
    refine W_move rfl rfl rfl ?_
    exact W_end (OneT_end [] (Hp.le_refl _) ⟨rfl, rfl⟩)
   ·intro HX hX X Rest hR
    rintro _ _ ⟨rfl, rfl⟩
    rintro _ _ ⟨rfl, rfl⟩
    intro hU hUp
    refine W_indexS rfl rfl runUnderlying38 sizeOf22 rfl ((h0.mono hle130).mono hX) rfl h142 he143 ?_
    exact W_end (OneT_end [] (Hp.le_refl _) ⟨rfl, rfl⟩)
   ·intro HX hX X Rest hR
    rintro _ _ ⟨rfl, rfl⟩
    intro hU hUp
    refine W_load rfl rfl isAgg22 rfl (HCells.one ((hc144.mono hle130).mono hX) 0 rfl).at ?_
    exact W_end (OneT_end [] (Hp.le_refl _) ⟨rfl, rfl⟩)
   ·intro HX hX X Rest hR
    intro hU hUp
    refine W_move rfl rfl rfl ?_
    exact W_end (OneT_end [] (Hp.le_refl _) ⟨rfl, rfl⟩)
   ·intro HX hX X Rest hR
    intro hU hUp
    refine W_move rfl rfl rfl ?_
    exact W_end (OneT_end [] (Hp.le_refl _) ⟨rfl, rfl⟩)
   ·intro HX hX X Rest hR
    rintro _ _ ⟨rfl, rfl⟩
    rintro _ _ ⟨rfl, rfl⟩
    intro hU hUp
    refine W_indexS rfl rfl runUnderlying38 sizeOf22 rfl ((h1.mono hle130).mono hX) rfl h146 he147 ?_
    exact W_end (OneT_end [] (Hp.le_refl _) ⟨rfl, rfl⟩)
   ·intro HX hX X Rest hR
    rintro _ _ ⟨rfl, rfl⟩
    intro hU hUp
    refine W_load rfl rfl isAgg22 rfl (HCells.one ((hc148.mono hle130).mono hX) 0 rfl).at ?_
    exact W_end (OneT_end [] (Hp.le_refl _) ⟨rfl, rfl⟩)
   intro H149 hle150
   rintro _ _ ⟨rfl, rfl⟩
   rintro _ _ ⟨rfl, rfl⟩
   rintro _ _ ⟨rfl, rfl⟩
   rintro _ _ ⟨rfl, rfl⟩
   rintro _ _ ⟨rfl, rfl⟩
   rintro _ _ ⟨rfl, rfl⟩
   rintro _ _ ⟨rfl, rfl⟩
   rintro _ _ ⟨rfl, rfl⟩
   refine W_bin rfl rfl rfl rfl rfl ?_
   refine W_end (E_then ?_)
   refine C_cond (b := !decide (y141 = y145)) rfl (fun hb151 => ?_) (fun hb151 => ?_)
   ·have hm := ite_t' hb151 hm
    refine C_seq (C_region ?_)
    refine W_assign rfl rfl rfl ?_
    refine W_end (E_then (C_ret (E_ret_block (E_ret_then (E_ret_then (E_ret_block (E_ret_then ?_)))))))
    obtain rfl := Option.some.inj hm
    refine E_weak (Hp.le_trans hle130 hle150) ?_
    exact end1 rfl rfl ⟨rfl, rfl, rfl⟩
   ·have hm := ite_f' hb151 hm
    refine C_skip (E_normal_block (E_then (C_region ?_)))
    refine W_bin rfl rfl rfl rfl rfl ?_
    refine W_move rfl rfl rfl ?_
    refine W_end ?_
    exact E_keepJ (E_back (Nat.lt_succ_self _) ⟨k102 + 1, zs136, hd139, rfl, (by rw [hn133]; exact hm), (Hp.le_trans hle130 hle150), rfl, rfl⟩) (List.Perm.refl _) ⟨rfl, rfl, rfl, (congrArg (fun z => some (Value.int .i64 z)) (i64_succN hy137 (toNat_max (len_max (h0).lenMax)))), trivial⟩
  ·obtain rfl := rngN_f hd138 hb140
   have hm : (some true) = some r := hm
   refine C_exit (E_exit_then (E_exit_then (E_exit_hit (E_then (C_seq (C_region ?_))))))
   refine W_assign rfl rfl rfl ?_
   refine W_end (E_then (C_ret ?_))
   obtain rfl := Option.some.inj hm
   refine E_weak hle130 ?_
   exact end1 rfl rfl ⟨rfl, rfl, rfl⟩

theorem m_gridhallkeep4_SwingParts_c {B : Nat} {w0 w : World} [Tabs B w0] {H : Hp} {M : List Res} {p0_x : S_api_SwingIsland} {p1_m : Int} {p2_n : Int} {r : Bool} (hm : m_gridhallkeep4_SwingParts p0_x p1_m p2_n = some r) (ht : St B w0 H (M) w) :
  Calls prog 7 [.agg [.int .i64 (p0_x.Inertia), .int .i64 (p0_x.Damping), .int .i64 (p0_x.Supply), .int .i64 (p0_x.Demand), .string (p0_x.Frequency)].toArray, .int .i64 (p1_m), .int .i64 (p2_n)].toArray w (Ret B w0 fun H' M' v => H = H' ∧ M = M' ∧ .bool (r) = v) := by
 unfold m_gridhallkeep4_SwingParts at hm
 refine enter func7 rfl rfl rfl ht ?_
 refine C_seq (C_region ?_)
 refine W_box (cs := [.int .i64 (p0_x.Inertia), .int .i64 (p0_x.Damping), .int .i64 (p0_x.Supply), .int .i64 (p0_x.Demand), .string (p0_x.Frequency)]) rfl rfl rfl rfl (fun b101 => ?_)
 refine W_assign rfl rfl rfl ?_
 refine W_end (E_then (C_seq (C_region ?_)))
 refine W_move rfl rfl rfl ?_
 obtain ⟨r102, hc103, hm⟩ := bind_some hm
 refine W_call call19 rfl rfl rfl (fun w ht => by have h := m_gridhallref4_Cut_c (hm := hc103)  ht; exact h) ?_
 rintro _ _ _ ⟨rfl, rfl, rfl⟩
 refine W_move rfl rfl rfl ?_
 obtain ⟨r104, hc105, hm⟩ := bind_some hm
 refine W_call call19 rfl rfl rfl (fun w ht => by have h := m_gridhallref4_Cut_c (hm := hc105)  ht; exact h) ?_
 rintro _ _ _ ⟨rfl, rfl, rfl⟩
 refine W_assign rfl rfl rfl ?_
 refine W_assign rfl rfl rfl ?_
 refine W_end (E_then (C_seq (C_region ?_)))
 refine W_loadAgg rfl rfl isAgg24 sizeOf24 rfl (own_all (List.mem_cons_self ..)) rfl ?_
 refine W_move rfl rfl rfl ?_
 refine W_move rfl rfl rfl ?_
 refine W_bin rfl rfl rfl rfl rfl ?_
 obtain ⟨r106, hc107, hm⟩ := bind_some hm
 refine W_call call20 rfl rfl rfl (fun w ht => by have h := m_swing_Run_c (hm := hc107)  ht; exact h) ?_
 rintro _ _ _ ⟨rfl, v108, xs109, rfl, rfl, h110⟩
 have h110 := h110 H
 refine W_move rfl rfl rfl ?_
 refine W_extract rfl rfl rfl rfl ?_
 refine W_extract rfl rfl rfl rfl ?_
 refine W_assign rfl rfl rfl ?_
 refine W_assign rfl rfl rfl ?_
 refine W_end (E_then (C_seq (C_seq (C_region ?_))))
 refine W_move rfl rfl rfl ?_
 refine W_bin rfl rfl rfl rfl rfl ?_
 refine W_end (E_then ?_)
 refine C_cond (b := !decide (r106.2 = 0)) rfl (fun hb111 => ?_) (fun hb111 => ?_)
 ·have hm := ite_t' hb111 hm
  obtain ⟨r115, hc116, hm⟩ := bind_some hm
  refine C_seq_join (fun H' M' L' => H = H' ∧ M = M' ∧ [(6, .bool (r115 && (decide ((r106.1.length : Int) = 0))))] = L') ?_ (fun J117 => ?_)
  ·rintro _ _ _ ⟨rfl, rfl, rfl⟩
   refine C_ret (E_ret_then ?_)
   obtain rfl := Option.some.inj hm
   refine E_weak (Hp.le_refl _) ?_
   exact end1 rfl rfl ⟨rfl, rfl, rfl⟩
  ·refine C_region ?_
   refine W_call call9 rfl rfl rfl (fun w ht => by have h := m_gridhallkeep4_swingFact_c (hm := hc116)  ht; exact h) ?_
   rintro _ _ _ ⟨rfl, rfl, rfl⟩
   refine W_move rfl rfl rfl ?_
   cases hb118 : (r115)
   ·refine W_no rfl rfl rfl ?_
    refine W_no rfl rfl rfl ?_
    refine W_no rfl rfl rfl ?_
    refine W_pick rfl rfl rfl rfl ?_
    refine W_assign rfl rfl rfl ?_
    refine W_end ?_
    refine E_drop (List.Sublist.cons _ (List.Sublist.cons _ (List.Sublist.refl _))) ?_
    exact E_keepJ (J117 _ _ _ ⟨rfl, rfl, rfl⟩) (List.Perm.refl _) ⟨(by show some (Value.bool (false)) = some (Value.bool (r115 && (decide ((r106.1.length : Int) = 0)))); first | (simp only [hb111, hb118, Bool.and_true, Bool.true_and, Bool.false_and, Bool.and_false, Bool.or_true, Bool.true_or, Bool.or_false, Bool.false_or, Bool.not_true, Bool.not_false]; done) | (simp only [hb111, hb118]; first | done | simp only [Bool.and_true, Bool.true_and, Bool.false_and, Bool.and_false, Bool.or_true, Bool.true_or, Bool.or_false, Bool.false_or, Bool.not_true, Bool.not_false])), trivial⟩
   ·refine W_move rfl rfl rfl ?_
    refine W_lenO (List.mem_cons_self ..) rfl rfl runUnderlying38 rfl ?_
    refine W_bin rfl rfl rfl rfl rfl ?_
    refine W_pick rfl rfl rfl rfl ?_
    refine W_assign rfl rfl rfl ?_
    refine W_end ?_
    refine E_drop (List.Sublist.cons _ (List.Sublist.cons _ (List.Sublist.refl _))) ?_
    exact E_keepJ (J117 _ _ _ ⟨rfl, rfl, rfl⟩) (List.Perm.refl _) ⟨(by show some (Value.bool (decide ((r106.1.length : Int) = 0))) = some (Value.bool (r115 && (decide ((r106.1.length : Int) = 0)))); first | (simp only [hb111, hb118, Bool.and_true, Bool.true_and, Bool.false_and, Bool.and_false, Bool.or_true, Bool.true_or, Bool.or_false, Bool.false_or, Bool.not_true, Bool.not_false]; done) | (simp only [hb111, hb118]; first | done | simp only [Bool.and_true, Bool.true_and, Bool.false_and, Bool.and_false, Bool.or_true, Bool.true_or, Bool.or_false, Bool.false_or, Bool.not_true, Bool.not_false])), trivial⟩
 ·have hm := ite_f' hb111 hm
  refine C_skip (E_then (C_seq (C_region ?_)))
  refine W_loadAgg rfl rfl isAgg24 sizeOf24 rfl (own_all (List.mem_cons_of_mem _ (List.mem_cons_self ..))) rfl ?_
  refine W_move rfl rfl rfl ?_
  obtain ⟨r119, hc120, hm⟩ := bind_some hm
  refine W_call call20 rfl rfl rfl (fun w ht => by have h := m_swing_Run_c (hm := hc120)  ht; exact h) ?_
  rintro _ _ _ ⟨rfl, v121, xs122, rfl, rfl, h123⟩
  have h123 := h123 H
  refine W_move rfl rfl rfl ?_
  refine W_extract rfl rfl rfl rfl ?_
  refine W_extract rfl rfl rfl rfl ?_
  refine W_assign rfl rfl rfl ?_
  refine W_assign rfl rfl rfl ?_
  refine W_end (E_then (C_seq ?_))
  refine C_seq_join (fun H' M' L' => H = H' ∧ .row v121 22 (Rep.sz ByteArray) r119.1.length xs122 :: .row v108 22 (Rep.sz ByteArray) r106.1.length xs109 :: .obj b101 (.cells ([.int .i64 (p0_x.Inertia), .int .i64 (p0_x.Damping), .int .i64 (p0_x.Supply), .int .i64 (p0_x.Demand), .string (p0_x.Frequency)] : List Value).toArray 24 (0, 0)) :: M = M' ∧ [(1, .int .i64 (r102)), (2, .int .i64 (r104)), (3, .pointer (some ⟨b101, 0, none⟩)), (7, v108), (9, v121), (54, .bool (((!decide (r119.2 = 0)) || (!decide ((r119.1.length : Int) = r102))) || (!decide ((r106.1.length : Int) = (IntKind.i64.wrap (r102 + r104))))))] = L') ?_ (fun J126 => ?_)
  ·rintro _ _ _ ⟨rfl, rfl, rfl⟩
   refine C_cond (b := ((!decide (r119.2 = 0)) || (!decide ((r119.1.length : Int) = r102))) || (!decide ((r106.1.length : Int) = (IntKind.i64.wrap (r102 + r104))))) rfl (fun hb127 => ?_) (fun hb127 => ?_)
   ·have hm := ite_t' hb127 hm
    refine C_seq (C_region ?_)
    refine W_assign rfl rfl rfl ?_
    refine W_end (E_then (C_ret (E_ret_then ?_)))
    obtain rfl := Option.some.inj hm
    refine E_drop (List.Sublist.cons _ (List.Sublist.cons _ (List.Sublist.cons _ (List.Sublist.refl _)))) ?_
    refine E_weak (Hp.le_refl _) ?_
    exact end1 rfl rfl ⟨rfl, rfl, rfl⟩
   ·have hm := ite_f' hb127 hm
    refine C_skip (E_then (C_seq (C_region ?_)))
    refine W_move rfl rfl rfl ?_
    refine W_move rfl rfl rfl ?_
    refine W_bin rfl rfl rfl rfl rfl ?_
    obtain ⟨y128, h129, he130, hm⟩ := idx_some hm
    refine W_indexO (List.mem_cons_self ..) rfl rfl runUnderlying38 sizeOf22 rfl rfl h129 (List.getElem?_eq_some_iff.1 he130).1 ?_
    obtain ⟨_, rfl, hg131⟩ := (h123).elem he130
    refine W_load rfl rfl isAgg22 rfl (row_one0 (List.mem_cons_self ..) hg131 rfl) ?_
    refine W_field (o := 4) rfl rfl runUnderlying24 rfl sizeOf22 rfl rfl rfl ?_
    refine W_perm (List.Perm.trans (List.Perm.cons _ (List.Perm.swap _ _ _)) (List.Perm.swap _ _ _)) ?_
    refine W_store (cs := [.string (y128)]) (out := [.int .i64 (p0_x.Inertia), .int .i64 (p0_x.Damping), .int .i64 (p0_x.Supply), .int .i64 (p0_x.Demand), .string (y128)]) rfl sizeOf22 rfl rfl rfl rfl rfl (all_cons rfl all_nil) rfl ?_
    refine W_end (E_then (C_seq (C_region ?_)))
    refine W_loadAgg rfl rfl isAgg24 sizeOf24 rfl (own_all (List.mem_cons_self ..)) rfl ?_
    refine W_move rfl rfl rfl ?_
    obtain ⟨r132, hc133, hm⟩ := bind_some hm
    refine W_call call20 rfl rfl rfl (fun w ht => by have h := m_swing_Run_c (hm := hc133)  ht; exact h) ?_
    rintro _ _ _ ⟨rfl, v134, xs135, rfl, rfl, h136⟩
    have h136 := h136 H
    refine W_move rfl rfl rfl ?_
    refine W_extract rfl rfl rfl rfl ?_
    refine W_extract rfl rfl rfl rfl ?_
    refine W_assign rfl rfl rfl ?_
    refine W_assign rfl rfl rfl ?_
    refine W_end (E_then (C_seq (C_region ?_)))
    obtain ⟨r137, hc138, hm⟩ := bind_some hm
    refine W_call call9 rfl rfl rfl (fun w ht => by have h := m_gridhallkeep4_swingFact_c (hm := hc138)  ht; exact h) ?_
    rintro _ _ _ ⟨rfl, rfl, rfl⟩
    refine W_move rfl rfl rfl ?_
    cases hb139 : (r137)
    ·have hm := ite_f' hb139 hm
     refine W_no rfl rfl rfl ?_
     refine W_no rfl rfl rfl ?_
     refine W_pick rfl rfl rfl rfl ?_
     refine W_move rfl rfl rfl ?_
     refine W_no rfl rfl rfl ?_
     refine W_no rfl rfl rfl ?_
     refine W_no rfl rfl rfl ?_
     refine W_no rfl rfl rfl ?_
     refine W_no rfl rfl rfl ?_
     refine W_no rfl rfl rfl ?_
     refine W_pick rfl rfl rfl rfl ?_
     refine W_assign rfl rfl rfl ?_
     refine W_end (E_then (C_ret ?_))
     obtain rfl := Option.some.inj hm
     refine E_drop (List.Sublist.cons _ (List.Sublist.cons _ (List.Sublist.cons _ (List.Sublist.cons _ (List.Sublist.refl _))))) ?_
     refine E_weak (Hp.le_refl _) ?_
     exact end1 rfl rfl ⟨rfl, rfl, rfl⟩
    ·have hm := ite_t' hb139 hm
     refine W_move rfl rfl rfl ?_
     refine W_bin rfl rfl rfl rfl rfl ?_
     refine W_pick rfl rfl rfl rfl ?_
     refine W_move rfl rfl rfl ?_
     cases hb140 : (decide (r132.2 = 0))
     ·have hm := ite_f' hb140 hm
      refine W_no rfl rfl rfl ?_
      refine W_no rfl rfl rfl ?_
      refine W_no rfl rfl rfl ?_
      refine W_no rfl rfl rfl ?_
      refine W_no rfl rfl rfl ?_
      refine W_no rfl rfl rfl ?_
      refine W_pick rfl rfl rfl rfl ?_
      refine W_assign rfl rfl rfl ?_
      refine W_end (E_then (C_ret ?_))
      obtain rfl := Option.some.inj hm
      refine E_drop (List.Sublist.cons _ (List.Sublist.cons _ (List.Sublist.cons _ (List.Sublist.cons _ (List.Sublist.refl _))))) ?_
      refine E_weak (Hp.le_refl _) ?_
      exact end1 rfl rfl ⟨rfl, rfl, rfl⟩
     ·have hm := ite_t' hb140 hm
      refine W_move rfl rfl rfl ?_
      refine W_move rfl rfl rfl ?_
      refine W_move rfl rfl rfl ?_
      refine W_perm (List.Perm.trans (List.Perm.cons _ (List.Perm.swap _ _ _)) (List.Perm.swap _ _ _)) ?_
      refine W_freeze (h123).rd rfl (fun H141 hle142 h143 => ?_)
      refine W_freeze ((h136.mono hle142)).rd rfl (fun H144 hle145 h146 => ?_)
      refine W_buildSliceO (α := (List ByteArray)) (css := [[v121], [v134]]) (zs := [.slice none 0 0, .slice none 0 0]) (out := [v121, v134]) (ys := [r119.1, r132.1]) rfl rfl rfl ⟨(RdS.cells (h143.mono hle145)), (RdS.cells h146), trivial⟩ runUnderlying61 sizeOf38 rfl zeroValue38 (by kernel_rfl) rfl rfl rfl rfl ⟨[v121], [v134], rfl, ⟨v121, rfl, (h143.mono hle145)⟩, ⟨[v134], [], rfl, ⟨v134, rfl, h146⟩, rfl⟩⟩ rfl ?_
      intro v147 xs148 hr149
      obtain ⟨r150, hc151, hm⟩ := bind_some hm
      refine W_call call22 rfl rfl rfl (fun w ht => by obtain ⟨H0_, hl0_, ht0_, hr0_, bk0_⟩ := ht.lendRow hr149 rfl; have h := m_slices_Concat_api_Rat_api_Rat_c (hm := hc151) hr0_ ht0_; exact lend_back bk0_ (h)) ?_
      rintro _ _ _ ⟨rfl, ⟨_, rfl, v152, xs153, rfl, rfl, h154⟩⟩
      have h154 := h154 H144
      refine W_perm (List.Perm.trans (List.Perm.cons _ (List.Perm.cons _ (List.Perm.swap _ _ _))) (List.Perm.trans (List.Perm.cons _ (List.Perm.swap _ _ _)) (List.Perm.trans (List.Perm.swap _ _ _) (List.Perm.cons _ (List.Perm.swap _ _ _))))) ?_
      obtain ⟨r155, hc156, hm⟩ := bind_some hm
      refine W_call call21 rfl rfl rfl (fun w ht => by obtain ⟨H0_, hl0_, ht0_, hr0_, bk0_⟩ := ht.lendRow ((h110.mono hle142).mono hle145) rfl; obtain ⟨H1_, hl1_, ht1_, hr1_, bk1_⟩ := ht0_.lendRow (h154.mono hl0_) rfl; have h := m_slices_Equal_api_Rat_api_Rat_c (hm := hc156) (hr0_.mono hl1_) hr1_ ht1_; exact lend_back bk0_ (lend_back bk1_ (h))) ?_
      rintro _ _ _ ⟨rfl, ⟨_, rfl, ⟨_, rfl, rfl, rfl⟩⟩⟩
      refine W_pick rfl rfl rfl rfl ?_
      refine W_assign rfl rfl rfl ?_
      refine W_end (E_then (C_ret ?_))
      obtain rfl := Option.some.inj hm
      refine E_drop (List.Sublist.cons _ (List.Sublist.cons _ (List.Sublist.cons _ (List.Sublist.cons _ (List.Sublist.refl _))))) ?_
      refine E_weak (Hp.le_trans hle142 hle145) ?_
      exact end1 rfl rfl ⟨rfl, rfl, rfl⟩
  ·refine C_region ?_
   refine W_move rfl rfl rfl ?_
   refine W_bin rfl rfl rfl rfl rfl ?_
   refine W_move rfl rfl rfl ?_
   cases hb157 : (decide (r119.2 = 0))
   ·refine W_no rfl rfl rfl ?_
    refine W_no rfl rfl rfl ?_
    refine W_no rfl rfl rfl ?_
    refine W_no rfl rfl rfl ?_
    refine W_pick rfl rfl rfl rfl ?_
    refine W_move rfl rfl rfl ?_
    refine W_no rfl rfl rfl ?_
    refine W_no rfl rfl rfl ?_
    refine W_no rfl rfl rfl ?_
    refine W_no rfl rfl rfl ?_
    refine W_no rfl rfl rfl ?_
    refine W_no rfl rfl rfl ?_
    refine W_pick rfl rfl rfl rfl ?_
    refine W_end ?_
    exact E_keepJ (J126 _ _ _ ⟨rfl, rfl, rfl⟩) (List.Perm.refl _) ⟨rfl, rfl, rfl, rfl, rfl, (by show some (Value.bool (true)) = some (Value.bool (((!decide (r119.2 = 0)) || (!decide ((r119.1.length : Int) = r102))) || (!decide ((r106.1.length : Int) = (IntKind.i64.wrap (r102 + r104)))))); first | (simp only [hb111, hb157, Bool.and_true, Bool.true_and, Bool.false_and, Bool.and_false, Bool.or_true, Bool.true_or, Bool.or_false, Bool.false_or, Bool.not_true, Bool.not_false]; done) | (simp only [hb111, hb157]; first | done | simp only [Bool.and_true, Bool.true_and, Bool.false_and, Bool.and_false, Bool.or_true, Bool.true_or, Bool.or_false, Bool.false_or, Bool.not_true, Bool.not_false])), trivial⟩
   ·refine W_move rfl rfl rfl ?_
    refine W_lenO (List.mem_cons_self ..) rfl rfl runUnderlying38 rfl ?_
    refine W_move rfl rfl rfl ?_
    refine W_bin rfl rfl rfl rfl rfl ?_
    refine W_pick rfl rfl rfl rfl ?_
    refine W_move rfl rfl rfl ?_
    cases hb158 : (decide ((r119.1.length : Int) = r102))
    ·refine W_no rfl rfl rfl ?_
     refine W_no rfl rfl rfl ?_
     refine W_no rfl rfl rfl ?_
     refine W_no rfl rfl rfl ?_
     refine W_no rfl rfl rfl ?_
     refine W_no rfl rfl rfl ?_
     refine W_pick rfl rfl rfl rfl ?_
     refine W_end ?_
     exact E_keepJ (J126 _ _ _ ⟨rfl, rfl, rfl⟩) (List.Perm.refl _) ⟨rfl, rfl, rfl, rfl, rfl, (by show some (Value.bool (true)) = some (Value.bool (((!decide (r119.2 = 0)) || (!decide ((r119.1.length : Int) = r102))) || (!decide ((r106.1.length : Int) = (IntKind.i64.wrap (r102 + r104)))))); first | (simp only [hb111, hb157, hb158, Bool.and_true, Bool.true_and, Bool.false_and, Bool.and_false, Bool.or_true, Bool.true_or, Bool.or_false, Bool.false_or, Bool.not_true, Bool.not_false]; done) | (simp only [hb111, hb157, hb158]; first | done | simp only [Bool.and_true, Bool.true_and, Bool.false_and, Bool.and_false, Bool.or_true, Bool.true_or, Bool.or_false, Bool.false_or, Bool.not_true, Bool.not_false])), trivial⟩
    ·refine W_move rfl rfl rfl ?_
     refine W_lenO (List.mem_cons_of_mem _ (List.mem_cons_self ..)) rfl rfl runUnderlying38 rfl ?_
     refine W_move rfl rfl rfl ?_
     refine W_move rfl rfl rfl ?_
     refine W_bin rfl rfl rfl rfl rfl ?_
     refine W_bin rfl rfl rfl rfl rfl ?_
     refine W_pick rfl rfl rfl rfl ?_
     refine W_end ?_
     exact E_keepJ (J126 _ _ _ ⟨rfl, rfl, rfl⟩) (List.Perm.refl _) ⟨rfl, rfl, rfl, rfl, rfl, (by show some (Value.bool (!decide ((r106.1.length : Int) = (IntKind.i64.wrap (r102 + r104))))) = some (Value.bool (((!decide (r119.2 = 0)) || (!decide ((r119.1.length : Int) = r102))) || (!decide ((r106.1.length : Int) = (IntKind.i64.wrap (r102 + r104)))))); first | (simp only [hb111, hb157, hb158, Bool.and_true, Bool.true_and, Bool.false_and, Bool.and_false, Bool.or_true, Bool.true_or, Bool.or_false, Bool.false_or, Bool.not_true, Bool.not_false]; done) | (simp only [hb111, hb157, hb158]; first | done | simp only [Bool.and_true, Bool.true_and, Bool.false_and, Bool.and_false, Bool.or_true, Bool.true_or, Bool.or_false, Bool.false_or, Bool.not_true, Bool.not_false])), trivial⟩
end Go.Sim
