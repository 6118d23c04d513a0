/-
  Printed by a program: each Go function computes its model.
-/
import Derived.Test.YtogalpcheddenaaConU1
namespace Go.Sim
open Go
set_option linter.unusedVariables false
set_option linter.unusedSimpArgs false
set_option maxRecDepth 100000
theorem m_gridhallkeep4_UpkeepCrews_c {B : Nat} {w0 w : World} {H : Hp} {M : List Res} {p0_t : S_api_UpkeepTask} {v0 : Value} {v1 : Value} {r : Bool} (hm : m_gridhallkeep4_UpkeepCrews p0_t = some r) (h0 : RdS H v0 p0_t.Jobs) (h1 : RdS H v1 p0_t.Apart) (ht : St B w0 H (M) w) :
    Calls Proofs.Try.prog 3 [.agg [v0, v1, .int .i64 (p0_t.Crews)].toArray].toArray w (Ret B w0 fun H' M' v => H = H' ∧ M = M' ∧ .bool (r) = v) := by
  unfold m_gridhallkeep4_UpkeepCrews at hm
  refine enter Proofs.Try.func3 rfl rfl rfl ht ?_
  refine C_seq ?_
  refine C_region ?_
  refine W_box (cs := [v0, v1, .int .i64 (p0_t.Crews)]) rfl rfl rfl rfl (fun b101 => ?_)
  refine W_assign rfl rfl rfl ?_
  refine W_end ?_
  refine E_then ?_
  refine C_seq ?_
  refine C_region ?_
  refine W_loadAgg rfl rfl Proofs.Try.isAgg25 Proofs.Try.sizeOf25 rfl (own_all (List.mem_cons_self ..)) rfl ?_
  obtain ⟨r102, hc103, hm⟩ := bind_some hm
  refine W_call Proofs.Try.call7 rfl rfl rfl (fun w ht => by have h := m_gridhallkeep4_small_c (hm := hc103) h0 h1 ht; exact h) ?_
  rintro _ H109 _ ⟨hle110, v104, xs105, v107, rfl, rfl, h106, h108⟩
  refine W_perm (List.Perm.swap _ _ _) ?_
  refine W_store (cs := [v104, v107, .int .i64 (r102.Crews)]) (out := [v104, v107, .int .i64 (r102.Crews)]) rfl Proofs.Try.sizeOf25 rfl rfl rfl rfl rfl (all_cons (Rw.one h106) (all_cons (RdS.one1 h108) (all_cons rfl all_nil))) (over_all rfl) ?_
  refine W_end ?_
  refine E_then ?_
  refine C_seq ?_
  refine C_region ?_
  refine W_loadAgg rfl rfl Proofs.Try.isAgg25 Proofs.Try.sizeOf25 rfl (own_all (List.mem_cons_self ..)) rfl ?_
  refine W_perm (List.Perm.swap _ _ _) ?_
  refine W_freeze (h106).rd rfl (fun H111 hle112 h113 => ?_)
  obtain ⟨r114, hc115, hm⟩ := bind_some hm
  refine W_call Proofs.Try.call8 rfl rfl rfl (fun w ht => by have h := m_upkeep_Best_c (hm := hc115) h113 (h108.mono hle112) ht; exact h) ?_
  rintro _ H118 _ ⟨hle119, v116, rfl, rfl, h117⟩
  refine W_move rfl rfl rfl ?_
  refine W_extract rfl rfl rfl rfl ?_
  refine W_extract rfl rfl rfl rfl ?_
  refine W_extract rfl rfl rfl rfl ?_
  refine W_assign rfl rfl rfl ?_
  refine W_assign rfl rfl rfl ?_
  refine W_assign rfl rfl rfl ?_
  refine W_end ?_
  refine E_then ?_
  refine C_seq ?_
  refine C_seq ?_
  refine C_region ?_
  refine W_move rfl rfl rfl ?_
  refine W_bin rfl rfl rfl rfl rfl ?_
  refine W_end ?_
  refine E_then ?_
  refine C_cond (b := !decide (r114.2.2 = 0)) rfl (fun hb120 => ?_) (fun hb120 => ?_)
  · have hm := ite_t' hb120 hm
    obtain ⟨r124, hc125, hm⟩ := bind_some hm
    refine C_seq_join (fun H' M' L' => H118 = H' ∧ M = M' ∧ [(2, .bool (r124 && (decide (r114.2.1 = 0))))] = L') ?_ (fun J126 => ?_)
    · rintro _ _ _ ⟨rfl, rfl, rfl⟩
      refine C_ret ?_
      refine E_ret_then ?_
      obtain rfl := Option.some.inj hm
      refine E_weak (Hp.le_trans (Hp.le_trans hle110 hle112) hle119) ?_
      exact end1 rfl rfl ⟨rfl, rfl, rfl⟩
    · refine C_region ?_
      refine W_call Proofs.Try.call9 rfl rfl rfl (fun w ht => by have h := m_gridhallkeep4_upkeepFact_c (hm := hc125)  ht; exact h) ?_
      rintro _ _ _ ⟨rfl, rfl, rfl⟩
      refine W_move rfl rfl rfl ?_
      cases hb127 : (r124)
      · refine W_no rfl rfl rfl ?_
        refine W_no rfl rfl rfl ?_
        refine W_pick rfl rfl rfl rfl ?_
        refine W_assign rfl rfl rfl ?_
        refine W_end ?_
        refine E_drop (List.Sublist.cons _ (List.Sublist.refl _)) ?_
        exact E_keepJ (J126 _ _ _ ⟨rfl, rfl, rfl⟩) (List.Perm.refl _) ⟨(by show some (Value.bool (false)) = some (Value.bool (r124 && (decide (r114.2.1 = 0)))); simp only [hb120, hb127, Bool.and_true, Bool.true_and, Bool.false_and, Bool.and_false, Bool.or_true, Bool.true_or, Bool.or_false, Bool.false_or, Bool.not_true, Bool.not_false]), trivial⟩
      · refine W_move rfl rfl rfl ?_
        refine W_bin rfl rfl rfl rfl rfl ?_
        refine W_pick rfl rfl rfl rfl ?_
        refine W_assign rfl rfl rfl ?_
        refine W_end ?_
        refine E_drop (List.Sublist.cons _ (List.Sublist.refl _)) ?_
        exact E_keepJ (J126 _ _ _ ⟨rfl, rfl, rfl⟩) (List.Perm.refl _) ⟨(by show some (Value.bool (decide (r114.2.1 = 0))) = some (Value.bool (r124 && (decide (r114.2.1 = 0)))); simp only [hb120, hb127, Bool.and_true, Bool.true_and, Bool.false_and, Bool.and_false, Bool.or_true, Bool.true_or, Bool.or_false, Bool.false_or, Bool.not_true, Bool.not_false]), trivial⟩
  · have hm := ite_f' hb120 hm
    refine C_skip ?_
    refine E_then ?_
    refine C_seq ?_
    refine C_region_tok0 5 (phiT [(fun H rs v => [] = rs ∧ .agg [v104, v107, .int .i64 (r102.Crews)].toArray = v), (fun H rs v => [] = rs ∧ .agg [v104, v107, .int .i64 (r102.Crews)].toArray = v), (fun H rs v => ∃ b130 : Nat, [.obj b130 (.cells [.slice none 0 0, .slice none 0 0, .int .i64 (0)].toArray 25 (0, 0))] = rs ∧ .pointer (some ⟨b130, 0, none⟩) = v), (fun H rs v => ∃ b131 : Nat, [.obj b131 (.cells [.slice none 0 0, .slice none 0 0, .int .i64 (0)].toArray 25 (0, 0))] = rs ∧ .pointer (some ⟨b131, 0, none⟩) = v), (fun H rs v => ∃ b130 : Nat, [.obj b130 (.cells [v104, v107, .int .i64 (r102.Crews)].toArray 25 (0, 0))] = rs ∧ .pointer (some ⟨b130, 0, none⟩) = v)]) [[], [], [], [], [2]] [[], [], [], [], []] [] [0, 1, 3, 4] Facts.mixed (by kernel_rfl) rfl rfl rfl (by kernel_rfl) (phiT_mono ⟨eq_monoT _ _, eq_monoT _ _, (by rintro H1 H2 rs v hle ⟨b130, rfl, rfl⟩; exact ⟨b130, rfl, rfl⟩), (by rintro H1 H2 rs v hle ⟨b131, rfl, rfl⟩; exact ⟨b131, rfl, rfl⟩), (by rintro H1 H2 rs v hle ⟨b130, rfl, hv_⟩; exact ⟨b130, rfl, hv_⟩), trivial⟩) ⟨?_, ?_, ?_, ?_, ?_, trivial⟩ ?_
    · intro HX hX X Rest hR
      intro hU
      refine W_loadAgg rfl rfl Proofs.Try.isAgg25 Proofs.Try.sizeOf25 rfl (own_all (hR _ (List.mem_cons_self ..))) rfl ?_
      exact W_end (OneT_end [] (Hp.le_refl _) ⟨rfl, rfl⟩)
    · intro HX hX X Rest hR
      intro hU
      refine W_loadAgg rfl rfl Proofs.Try.isAgg25 Proofs.Try.sizeOf25 rfl (own_all (hR _ (List.mem_cons_self ..))) rfl ?_
      exact W_end (OneT_end [] (Hp.le_refl _) ⟨rfl, rfl⟩)
    · intro HX hX X Rest hR
      intro hU
      refine W_alloc (cs := [.slice none 0 0, .slice none 0 0, .int .i64 (0)]) rfl rfl Proofs.Try.zeroValue25 rfl (fun b130 => ?_)
      exact W_end (OneT_end [.obj b130 (.cells [.slice none 0 0, .slice none 0 0, .int .i64 (0)].toArray 25 (0, 0))] (Hp.le_refl _) ⟨b130, rfl, rfl⟩)
    · intro HX hX X Rest hR
      intro hU
      refine W_alloc (cs := [.slice none 0 0, .slice none 0 0, .int .i64 (0)]) rfl rfl Proofs.Try.zeroValue25 rfl (fun b131 => ?_)
      exact W_end (OneT_end [.obj b131 (.cells [.slice none 0 0, .slice none 0 0, .int .i64 (0)].toArray 25 (0, 0))] (Hp.le_refl _) ⟨b131, rfl, rfl⟩)
    · intro HX hX X Rest hR
      rintro _ _ ⟨b130, rfl, rfl⟩
      rintro _ _ ⟨rfl, rfl⟩
      rintro _ _ ⟨rfl, rfl⟩
      rintro _ _ ⟨b130, rfl, rfl⟩
      rintro _ _ ⟨b131, rfl, rfl⟩
      intro hU
      refine W_as (M' := .obj b130 (.cells [.slice none 0 0, .slice none 0 0, .int .i64 (0)].toArray 25 (0, 0)) :: Rest) rfl ?_
      refine W_store (cs := [v104, v107, .int .i64 (r102.Crews)]) (out := [v104, v107, .int .i64 (r102.Crews)]) rfl Proofs.Try.sizeOf25 rfl rfl rfl rfl rfl (all_cons (RdS.one1 ((h113.mono hle119).mono hX)) (all_cons (RdS.one1 (((h108.mono hle112).mono hle119).mono hX)) (all_cons rfl all_nil))) (over_all rfl) ?_
      exact W_end (OneT_endL rfl [.obj b130 (.cells [v104, v107, .int .i64 (r102.Crews)].toArray 25 (0, 0))] (Hp.le_refl _) ⟨b130, rfl, rfl⟩)
    intro H132 hle133
    rintro _ _ ⟨rfl, rfl⟩
    rintro _ _ ⟨rfl, rfl⟩
    rintro _ _ ⟨b130, rfl, rfl⟩
    rintro _ _ ⟨b131, rfl, rfl⟩
    rintro _ _ hv_ ⟨b130_, rfl, hp_⟩
    obtain rfl : b130 = b130_ := by have e := (hp_.trans (hv_ _ rfl)).symm; cases e; rfl
    refine W_as (M' := .obj b131 (.cells [.slice none 0 0, .slice none 0 0, .int .i64 (0)].toArray 25 (0, 0)) :: .obj b130 (.cells [v104, v107, .int .i64 (r102.Crews)].toArray 25 (0, 0)) :: .obj b101 (.cells [v104, v107, .int .i64 (r102.Crews)].toArray 25 (0, 0)) :: M) rfl ?_
    refine W_store (cs := [v104, v107, .int .i64 (r102.Crews)]) (out := [v104, v107, .int .i64 (r102.Crews)]) rfl Proofs.Try.sizeOf25 rfl rfl rfl rfl rfl (all_cons (RdS.one1 ((h113.mono hle119).mono hle133)) (all_cons (RdS.one1 (((h108.mono hle112).mono hle119).mono hle133)) (all_cons rfl all_nil))) (over_all rfl) ?_
    refine W_end ?_
    refine E_then ?_
    refine C_seq ?_
    refine C_region ?_
    refine W_field (o := 2) rfl rfl Proofs.Try.runUnderlying25 rfl Proofs.Try.sizeOf3 rfl rfl rfl ?_
    refine W_load rfl rfl Proofs.Try.isAgg3 rfl (own_at (List.mem_cons_of_mem _ (List.mem_cons_of_mem _ (List.mem_cons_self ..))) rfl) ?_
    refine W_bin rfl rfl rfl rfl rfl ?_
    refine W_min rfl rfl rfl rfl ?_
    refine W_field (o := 2) rfl rfl Proofs.Try.runUnderlying25 rfl Proofs.Try.sizeOf3 rfl rfl rfl ?_
    refine W_perm (List.Perm.swap _ _ _) ?_
    refine W_store (cs := [.int .i64 (min (IntKind.i64.wrap (r102.Crews + 1)) 6)]) (out := [v104, v107, .int .i64 (min (IntKind.i64.wrap (r102.Crews + 1)) 6)]) rfl Proofs.Try.sizeOf3 rfl rfl rfl rfl rfl (all_cons rfl all_nil) rfl ?_
    refine W_end ?_
    refine E_then ?_
    refine C_seq ?_
    refine C_region ?_
    refine W_field (o := 1) rfl rfl Proofs.Try.runUnderlying25 rfl Proofs.Try.sizeOf23 rfl rfl rfl ?_
    refine W_load rfl rfl Proofs.Try.isAgg23 rfl (own_at (List.mem_cons_of_mem _ (List.mem_cons_of_mem _ (List.mem_cons_self ..))) rfl) ?_
    refine W_field (o := 1) rfl rfl Proofs.Try.runUnderlying25 rfl Proofs.Try.sizeOf23 rfl rfl rfl ?_
    refine W_load rfl rfl Proofs.Try.isAgg23 rfl (own_at (List.mem_cons_of_mem _ (List.mem_cons_of_mem _ (List.mem_cons_self ..))) rfl) ?_
    refine W_lenR rfl rfl Proofs.Try.runUnderlying23 rfl (((h108.mono hle112).mono hle119).mono hle133) ?_
    refine W_bin rfl rfl rfl rfl rfl ?_
    refine W_max rfl rfl rfl rfl ?_
    obtain ⟨hz134, hm⟩ := need_some hm
    refine W_sliceR (α := S_A2_Int) (l := 0) (h := (max 0 (IntKind.i64.wrap ((r102.Apart.length : Int) - 1)) : Int).toNat) (xs := r102.Apart) rfl rfl Proofs.Try.runUnderlying23 Proofs.Try.sizeOf59 rfl (((h108.mono hle112).mono hle119).mono hle133) (by omega) (by omega) (.inl rfl) (fun cap hcap => by rw [if_pos rfl]; exact (.inl ⟨rfl, rfl⟩)) (fun m hmm => (.inr ⟨_, _, _, rfl, rfl, by omega, by omega, rfl⟩)) (.inl ⟨rfl, rfl⟩) ?_
    intro v135 h136 hc137
    refine W_field (o := 1) rfl rfl Proofs.Try.runUnderlying25 rfl Proofs.Try.sizeOf23 rfl rfl rfl ?_
    refine W_perm (List.Perm.swap _ _ _) ?_
    refine W_store (cs := [v135]) (out := [v104, v135, .int .i64 (r102.Crews)]) rfl Proofs.Try.sizeOf23 rfl rfl (RdS.cells h136) rfl rfl (all_cons (RdS.one1 h136) all_nil) rfl ?_
    refine W_end ?_
    refine E_then ?_
    refine C_seq ?_
    refine C_region ?_
    refine W_loadAgg rfl rfl Proofs.Try.isAgg25 Proofs.Try.sizeOf25 rfl (own_all (List.mem_cons_of_mem _ (List.mem_cons_self ..))) rfl ?_
    obtain ⟨r138, hc139, hm⟩ := bind_some hm
    refine W_call Proofs.Try.call8 rfl rfl rfl (fun w ht => by have h := m_upkeep_Best_c (hm := hc139) ((h113.mono hle119).mono hle133) (((h108.mono hle112).mono hle119).mono hle133) ht; exact h) ?_
    rintro _ H142 _ ⟨hle143, v140, rfl, rfl, h141⟩
    refine W_move rfl rfl rfl ?_
    refine W_extract rfl rfl rfl rfl ?_
    refine W_extract rfl rfl rfl rfl ?_
    refine W_extract rfl rfl rfl rfl ?_
    refine W_assign rfl rfl rfl ?_
    refine W_assign rfl rfl rfl ?_
    refine W_assign rfl rfl rfl ?_
    refine W_end ?_
    refine E_then ?_
    refine C_seq ?_
    refine C_region ?_
    refine W_loadAgg rfl rfl Proofs.Try.isAgg25 Proofs.Try.sizeOf25 rfl (own_all (List.mem_cons_self ..)) rfl ?_
    obtain ⟨r144, hc145, hm⟩ := bind_some hm
    refine W_call Proofs.Try.call8 rfl rfl rfl (fun w ht => by have h := m_upkeep_Best_c (hm := hc145) (((h113.mono hle119).mono hle133).mono hle143) (h136.mono hle143) ht; exact h) ?_
    rintro _ H148 _ ⟨hle149, v146, rfl, rfl, h147⟩
    refine W_move rfl rfl rfl ?_
    refine W_extract rfl rfl rfl rfl ?_
    refine W_extract rfl rfl rfl rfl ?_
    refine W_extract rfl rfl rfl rfl ?_
    refine W_assign rfl rfl rfl ?_
    refine W_assign rfl rfl rfl ?_
    refine W_assign rfl rfl rfl ?_
    refine W_end ?_
    refine E_then ?_
    obtain ⟨r156, hc157, hm⟩ := bind_some hm
    refine C_seq_join (fun H' M' L' => H148 = H' ∧ M = M' ∧ [(2, .bool ((((r156 && (decide (r138.2.2 = 0))) && (decide (r144.2.2 = 0))) && (decide (r138.2.1 ≤ r114.2.1))) && (decide (r144.2.1 ≤ r114.2.1))))] = L') ?_ (fun J158 => ?_)
    · rintro _ _ _ ⟨rfl, rfl, rfl⟩
      refine C_ret ?_
      obtain rfl := Option.some.inj hm
      refine E_weak (Hp.le_trans (Hp.le_trans (Hp.le_trans (Hp.le_trans (Hp.le_trans hle110 hle112) hle119) hle133) hle143) hle149) ?_
      exact end1 rfl rfl ⟨rfl, rfl, rfl⟩
    · refine C_region ?_
      refine W_call Proofs.Try.call9 rfl rfl rfl (fun w ht => by have h := m_gridhallkeep4_upkeepFact_c (hm := hc157)  ht; exact h) ?_
      rintro _ _ _ ⟨rfl, rfl, rfl⟩
      refine W_move rfl rfl rfl ?_
      cases hb159 : (r156)
      · refine W_no rfl rfl rfl ?_
        refine W_no rfl rfl rfl ?_
        refine W_pick rfl rfl rfl rfl ?_
        refine W_move rfl rfl rfl ?_
        refine W_no rfl rfl rfl ?_
        refine W_no rfl rfl rfl ?_
        refine W_pick rfl rfl rfl rfl ?_
        refine W_move rfl rfl rfl ?_
        refine W_no rfl rfl rfl ?_
        refine W_no rfl rfl rfl ?_
        refine W_no rfl rfl rfl ?_
        refine W_pick rfl rfl rfl rfl ?_
        refine W_move rfl rfl rfl ?_
        refine W_no rfl rfl rfl ?_
        refine W_no rfl rfl rfl ?_
        refine W_no rfl rfl rfl ?_
        refine W_pick rfl rfl rfl rfl ?_
        refine W_assign rfl rfl rfl ?_
        refine W_end ?_
        refine E_drop (List.Sublist.cons _ (List.Sublist.cons _ (List.Sublist.cons _ (List.Sublist.refl _)))) ?_
        exact E_keepJ (J158 _ _ _ ⟨rfl, rfl, rfl⟩) (List.Perm.refl _) ⟨(by show some (Value.bool (false)) = some (Value.bool ((((r156 && (decide (r138.2.2 = 0))) && (decide (r144.2.2 = 0))) && (decide (r138.2.1 ≤ r114.2.1))) && (decide (r144.2.1 ≤ r114.2.1)))); simp only [hb120, hb159, Bool.and_true, Bool.true_and, Bool.false_and, Bool.and_false, Bool.or_true, Bool.true_or, Bool.or_false, Bool.false_or, Bool.not_true, Bool.not_false]), trivial⟩
      · refine W_move rfl rfl rfl ?_
        refine W_bin rfl rfl rfl rfl rfl ?_
        refine W_pick rfl rfl rfl rfl ?_
        refine W_move rfl rfl rfl ?_
        cases hb160 : (decide (r138.2.2 = 0))
        · refine W_no rfl rfl rfl ?_
          refine W_no rfl rfl rfl ?_
          refine W_pick rfl rfl rfl rfl ?_
          refine W_move rfl rfl rfl ?_
          refine W_no rfl rfl rfl ?_
          refine W_no rfl rfl rfl ?_
          refine W_no rfl rfl rfl ?_
          refine W_pick rfl rfl rfl rfl ?_
          refine W_move rfl rfl rfl ?_
          refine W_no rfl rfl rfl ?_
          refine W_no rfl rfl rfl ?_
          refine W_no rfl rfl rfl ?_
          refine W_pick rfl rfl rfl rfl ?_
          refine W_assign rfl rfl rfl ?_
          refine W_end ?_
          refine E_drop (List.Sublist.cons _ (List.Sublist.cons _ (List.Sublist.cons _ (List.Sublist.refl _)))) ?_
          exact E_keepJ (J158 _ _ _ ⟨rfl, rfl, rfl⟩) (List.Perm.refl _) ⟨(by show some (Value.bool (false)) = some (Value.bool ((((r156 && (decide (r138.2.2 = 0))) && (decide (r144.2.2 = 0))) && (decide (r138.2.1 ≤ r114.2.1))) && (decide (r144.2.1 ≤ r114.2.1)))); simp only [hb120, hb159, hb160, Bool.and_true, Bool.true_and, Bool.false_and, Bool.and_false, Bool.or_true, Bool.true_or, Bool.or_false, Bool.false_or, Bool.not_true, Bool.not_false]), trivial⟩
        · refine W_move rfl rfl rfl ?_
          refine W_bin rfl rfl rfl rfl rfl ?_
          refine W_pick rfl rfl rfl rfl ?_
          refine W_move rfl rfl rfl ?_
          cases hb161 : (decide (r144.2.2 = 0))
          · refine W_no rfl rfl rfl ?_
            refine W_no rfl rfl rfl ?_
            refine W_no rfl rfl rfl ?_
            refine W_pick rfl rfl rfl rfl ?_
            refine W_move rfl rfl rfl ?_
            refine W_no rfl rfl rfl ?_
            refine W_no rfl rfl rfl ?_
            refine W_no rfl rfl rfl ?_
            refine W_pick rfl rfl rfl rfl ?_
            refine W_assign rfl rfl rfl ?_
            refine W_end ?_
            refine E_drop (List.Sublist.cons _ (List.Sublist.cons _ (List.Sublist.cons _ (List.Sublist.refl _)))) ?_
            exact E_keepJ (J158 _ _ _ ⟨rfl, rfl, rfl⟩) (List.Perm.refl _) ⟨(by show some (Value.bool (false)) = some (Value.bool ((((r156 && (decide (r138.2.2 = 0))) && (decide (r144.2.2 = 0))) && (decide (r138.2.1 ≤ r114.2.1))) && (decide (r144.2.1 ≤ r114.2.1)))); simp only [hb120, hb159, hb160, hb161, Bool.and_true, Bool.true_and, Bool.false_and, Bool.and_false, Bool.or_true, Bool.true_or, Bool.or_false, Bool.false_or, Bool.not_true, Bool.not_false]), trivial⟩
          · refine W_move rfl rfl rfl ?_
            refine W_move rfl rfl rfl ?_
            refine W_bin rfl rfl rfl rfl rfl ?_
            refine W_pick rfl rfl rfl rfl ?_
            refine W_move rfl rfl rfl ?_
            cases hb162 : (decide (r138.2.1 ≤ r114.2.1))
            · refine W_no rfl rfl rfl ?_
              refine W_no rfl rfl rfl ?_
              refine W_no rfl rfl rfl ?_
              refine W_pick rfl rfl rfl rfl ?_
              refine W_assign rfl rfl rfl ?_
              refine W_end ?_
              refine E_drop (List.Sublist.cons _ (List.Sublist.cons _ (List.Sublist.cons _ (List.Sublist.refl _)))) ?_
              exact E_keepJ (J158 _ _ _ ⟨rfl, rfl, rfl⟩) (List.Perm.refl _) ⟨(by show some (Value.bool (false)) = some (Value.bool ((((r156 && (decide (r138.2.2 = 0))) && (decide (r144.2.2 = 0))) && (decide (r138.2.1 ≤ r114.2.1))) && (decide (r144.2.1 ≤ r114.2.1)))); simp only [hb120, hb159, hb160, hb161, hb162, Bool.and_true, Bool.true_and, Bool.false_and, Bool.and_false, Bool.or_true, Bool.true_or, Bool.or_false, Bool.false_or, Bool.not_true, Bool.not_false]), trivial⟩
            · refine W_move rfl rfl rfl ?_
              refine W_move rfl rfl rfl ?_
              refine W_bin rfl rfl rfl rfl rfl ?_
              refine W_pick rfl rfl rfl rfl ?_
              refine W_assign rfl rfl rfl ?_
              refine W_end ?_
              refine E_drop (List.Sublist.cons _ (List.Sublist.cons _ (List.Sublist.cons _ (List.Sublist.refl _)))) ?_
              exact E_keepJ (J158 _ _ _ ⟨rfl, rfl, rfl⟩) (List.Perm.refl _) ⟨(by show some (Value.bool (decide (r144.2.1 ≤ r114.2.1))) = some (Value.bool ((((r156 && (decide (r138.2.2 = 0))) && (decide (r144.2.2 = 0))) && (decide (r138.2.1 ≤ r114.2.1))) && (decide (r144.2.1 ≤ r114.2.1)))); simp only [hb120, hb159, hb160, hb161, hb162, Bool.and_true, Bool.true_and, Bool.false_and, Bool.and_false, Bool.or_true, Bool.true_or, Bool.or_false, Bool.false_or, Bool.not_true, Bool.not_false]), trivial⟩

theorem m_gridhallkeep4_UpkeepAlone_c {B : Nat} {w0 w : World} {H : Hp} {M : List Res} {p0_t : S_api_UpkeepTask} {v0 : Value} {v1 : Value} {r : Bool} (hm : m_gridhallkeep4_UpkeepAlone p0_t = some r) (h0 : RdS H v0 p0_t.Jobs) (h1 : RdS H v1 p0_t.Apart) (ht : St B w0 H (M) w) :
    Calls Proofs.Try.prog 4 [.agg [v0, v1, .int .i64 (p0_t.Crews)].toArray].toArray w (Ret B w0 fun H' M' v => H = H' ∧ M = M' ∧ .bool (r) = v) := by
  unfold m_gridhallkeep4_UpkeepAlone at hm
  refine enter Proofs.Try.func4 rfl rfl rfl ht ?_
  refine C_seq ?_
  refine C_region ?_
  refine W_box (cs := [v0, v1, .int .i64 (p0_t.Crews)]) rfl rfl rfl rfl (fun b101 => ?_)
  refine W_assign rfl rfl rfl ?_
  refine W_end ?_
  refine E_then ?_
  refine C_seq ?_
  refine C_region ?_
  refine W_loadAgg rfl rfl Proofs.Try.isAgg25 Proofs.Try.sizeOf25 rfl (own_all (List.mem_cons_self ..)) rfl ?_
  obtain ⟨r102, hc103, hm⟩ := bind_some hm
  refine W_call Proofs.Try.call7 rfl rfl rfl (fun w ht => by have h := m_gridhallkeep4_small_c (hm := hc103) h0 h1 ht; exact h) ?_
  rintro _ H109 _ ⟨hle110, v104, xs105, v107, rfl, rfl, h106, h108⟩
  refine W_perm (List.Perm.swap _ _ _) ?_
  refine W_store (cs := [v104, v107, .int .i64 (r102.Crews)]) (out := [v104, v107, .int .i64 (r102.Crews)]) rfl Proofs.Try.sizeOf25 rfl rfl rfl rfl rfl (all_cons (Rw.one h106) (all_cons (RdS.one1 h108) (all_cons rfl all_nil))) (over_all rfl) ?_
  refine W_end ?_
  refine E_then ?_
  refine C_seq ?_
  refine C_region ?_
  refine W_field (o := 1) rfl rfl Proofs.Try.runUnderlying25 rfl Proofs.Try.sizeOf23 rfl rfl rfl ?_
  refine W_store (cs := [.slice none 0 0]) (out := [v104, .slice none 0 0, .int .i64 (r102.Crews)]) rfl Proofs.Try.sizeOf23 rfl rfl rfl rfl rfl (all_cons rfl all_nil) rfl ?_
  refine W_end ?_
  refine E_then ?_
  refine C_seq ?_
  refine C_region ?_
  refine W_loadAgg rfl rfl Proofs.Try.isAgg25 Proofs.Try.sizeOf25 rfl (own_all (List.mem_cons_self ..)) rfl ?_
  refine W_perm (List.Perm.swap _ _ _) ?_
  refine W_freeze (h106).rd rfl (fun H111 hle112 h113 => ?_)
  obtain ⟨r114, hc115, hm⟩ := bind_some hm
  refine W_call Proofs.Try.call8 rfl rfl rfl (fun w ht => by have h := m_upkeep_Best_c (hm := hc115) h113 RdS.nil ht; exact h) ?_
  rintro _ H118 _ ⟨hle119, v116, rfl, rfl, h117⟩
  refine W_move rfl rfl rfl ?_
  refine W_extract rfl rfl rfl rfl ?_
  refine W_extract rfl rfl rfl rfl ?_
  refine W_extract rfl rfl rfl rfl ?_
  refine W_assign rfl rfl rfl ?_
  refine W_assign rfl rfl rfl ?_
  refine W_assign rfl rfl rfl ?_
  refine W_end ?_
  refine E_then ?_
  refine C_seq ?_
  refine C_seq_join (fun H' M' L' => H118 = H' ∧ .obj b101 (.cells [v104, .slice none 0 0, .int .i64 (r102.Crews)].toArray 25 (0, 0)) :: M = M' ∧ [(1, .pointer (some ⟨b101, 0, none⟩)), (4, .int .i64 (r114.2.1)), (25, .bool ((!decide (r114.2.2 = 0)) || (decide ((r102.Jobs.length : Int) = 0))))] = L') ?_ (fun J121 => ?_)
  · rintro _ _ _ ⟨rfl, rfl, rfl⟩
    refine C_cond (b := (!decide (r114.2.2 = 0)) || (decide ((r102.Jobs.length : Int) = 0))) rfl (fun hb122 => ?_) (fun hb122 => ?_)
    · have hm := ite_t' hb122 hm
      obtain ⟨r126, hc127, hm⟩ := bind_some hm
      refine C_seq_join (fun H' M' L' => H118 = H' ∧ M = M' ∧ [(2, .bool (r126 && (decide (r114.2.1 = 0))))] = L') ?_ (fun J128 => ?_)
      · rintro _ _ _ ⟨rfl, rfl, rfl⟩
        refine C_ret ?_
        refine E_ret_then ?_
        obtain rfl := Option.some.inj hm
        refine E_weak (Hp.le_trans (Hp.le_trans hle110 hle112) hle119) ?_
        exact end1 rfl rfl ⟨rfl, rfl, rfl⟩
      · refine C_region ?_
        refine W_call Proofs.Try.call9 rfl rfl rfl (fun w ht => by have h := m_gridhallkeep4_upkeepFact_c (hm := hc127)  ht; exact h) ?_
        rintro _ _ _ ⟨rfl, rfl, rfl⟩
        refine W_move rfl rfl rfl ?_
        cases hb129 : (r126)
        · refine W_no rfl rfl rfl ?_
          refine W_no rfl rfl rfl ?_
          refine W_pick rfl rfl rfl rfl ?_
          refine W_assign rfl rfl rfl ?_
          refine W_end ?_
          refine E_drop (List.Sublist.cons _ (List.Sublist.refl _)) ?_
          exact E_keepJ (J128 _ _ _ ⟨rfl, rfl, rfl⟩) (List.Perm.refl _) ⟨(by show some (Value.bool (false)) = some (Value.bool (r126 && (decide (r114.2.1 = 0)))); simp only [hb122, hb129, Bool.and_true, Bool.true_and, Bool.false_and, Bool.and_false, Bool.or_true, Bool.true_or, Bool.or_false, Bool.false_or, Bool.not_true, Bool.not_false]), trivial⟩
        · refine W_move rfl rfl rfl ?_
          refine W_bin rfl rfl rfl rfl rfl ?_
          refine W_pick rfl rfl rfl rfl ?_
          refine W_assign rfl rfl rfl ?_
          refine W_end ?_
          refine E_drop (List.Sublist.cons _ (List.Sublist.refl _)) ?_
          exact E_keepJ (J128 _ _ _ ⟨rfl, rfl, rfl⟩) (List.Perm.refl _) ⟨(by show some (Value.bool (decide (r114.2.1 = 0))) = some (Value.bool (r126 && (decide (r114.2.1 = 0)))); simp only [hb122, hb129, Bool.and_true, Bool.true_and, Bool.false_and, Bool.and_false, Bool.or_true, Bool.true_or, Bool.or_false, Bool.false_or, Bool.not_true, Bool.not_false]), trivial⟩
    · have hm := ite_f' hb122 hm
      refine C_skip ?_
      refine E_then ?_
      refine C_seq ?_
      refine C_region ?_
      refine W_field (o := 0) rfl rfl Proofs.Try.runUnderlying25 rfl Proofs.Try.sizeOf22 rfl rfl rfl ?_
      refine W_load rfl rfl Proofs.Try.isAgg22 rfl (own_at (List.mem_cons_self ..) rfl) ?_
      refine W_field (o := 0) rfl rfl Proofs.Try.runUnderlying25 rfl Proofs.Try.sizeOf22 rfl rfl rfl ?_
      refine W_load rfl rfl Proofs.Try.isAgg22 rfl (own_at (List.mem_cons_self ..) rfl) ?_
      refine W_lenR rfl rfl Proofs.Try.runUnderlying22 rfl (h113.mono hle119) ?_
      refine W_bin rfl rfl rfl rfl rfl ?_
      obtain ⟨hz130, hm⟩ := need_some hm
      refine W_sliceR (α := S_api_UpkeepJob) (l := 0) (h := (IntKind.i64.wrap ((r102.Jobs.length : Int) - 1) : Int).toNat) (xs := r102.Jobs) rfl rfl Proofs.Try.runUnderlying22 Proofs.Try.sizeOf51 rfl (h113.mono hle119) (by omega) (by omega) (.inl rfl) (fun cap hcap => by rw [if_pos rfl]; exact (.inl ⟨rfl, rfl⟩)) (fun m hmm => (.inr ⟨_, _, _, rfl, rfl, by omega, by omega, rfl⟩)) (.inl ⟨rfl, rfl⟩) ?_
      intro v131 h132 hc133
      refine W_field (o := 0) rfl rfl Proofs.Try.runUnderlying25 rfl Proofs.Try.sizeOf22 rfl rfl rfl ?_
      refine W_store (cs := [v131]) (out := [v131, .slice none 0 0, .int .i64 (r102.Crews)]) rfl Proofs.Try.sizeOf22 rfl rfl (RdS.cells h132) rfl rfl (all_cons (RdS.one1 h132) all_nil) rfl ?_
      refine W_end ?_
      refine E_then ?_
      refine C_seq ?_
      refine C_region ?_
      refine W_loadAgg rfl rfl Proofs.Try.isAgg25 Proofs.Try.sizeOf25 rfl (own_all (List.mem_cons_self ..)) rfl ?_
      obtain ⟨r134, hc135, hm⟩ := bind_some hm
      refine W_call Proofs.Try.call8 rfl rfl rfl (fun w ht => by have h := m_upkeep_Best_c (hm := hc135) h132 RdS.nil ht; exact h) ?_
      rintro _ H138 _ ⟨hle139, v136, rfl, rfl, h137⟩
      refine W_move rfl rfl rfl ?_
      refine W_extract rfl rfl rfl rfl ?_
      refine W_extract rfl rfl rfl rfl ?_
      refine W_extract rfl rfl rfl rfl ?_
      refine W_assign rfl rfl rfl ?_
      refine W_assign rfl rfl rfl ?_
      refine W_assign rfl rfl rfl ?_
      refine W_end ?_
      refine E_then ?_
      obtain ⟨r144, hc145, hm⟩ := bind_some hm
      refine C_seq_join (fun H' M' L' => H138 = H' ∧ M = M' ∧ [(2, .bool ((r144 && (decide (r134.2.2 = 0))) && (decide (r134.2.1 ≤ r114.2.1))))] = L') ?_ (fun J146 => ?_)
      · rintro _ _ _ ⟨rfl, rfl, rfl⟩
        refine C_ret ?_
        obtain rfl := Option.some.inj hm
        refine E_weak (Hp.le_trans (Hp.le_trans (Hp.le_trans hle110 hle112) hle119) hle139) ?_
        exact end1 rfl rfl ⟨rfl, rfl, rfl⟩
      · refine C_region ?_
        refine W_call Proofs.Try.call9 rfl rfl rfl (fun w ht => by have h := m_gridhallkeep4_upkeepFact_c (hm := hc145)  ht; exact h) ?_
        rintro _ _ _ ⟨rfl, rfl, rfl⟩
        refine W_move rfl rfl rfl ?_
        cases hb147 : (r144)
        · refine W_no rfl rfl rfl ?_
          refine W_no rfl rfl rfl ?_
          refine W_pick rfl rfl rfl rfl ?_
          refine W_move rfl rfl rfl ?_
          refine W_no rfl rfl rfl ?_
          refine W_no rfl rfl rfl ?_
          refine W_no rfl rfl rfl ?_
          refine W_pick rfl rfl rfl rfl ?_
          refine W_assign rfl rfl rfl ?_
          refine W_end ?_
          refine E_drop (List.Sublist.cons _ (List.Sublist.refl _)) ?_
          exact E_keepJ (J146 _ _ _ ⟨rfl, rfl, rfl⟩) (List.Perm.refl _) ⟨(by show some (Value.bool (false)) = some (Value.bool ((r144 && (decide (r134.2.2 = 0))) && (decide (r134.2.1 ≤ r114.2.1)))); simp only [hb122, hb147, Bool.and_true, Bool.true_and, Bool.false_and, Bool.and_false, Bool.or_true, Bool.true_or, Bool.or_false, Bool.false_or, Bool.not_true, Bool.not_false]), trivial⟩
        · refine W_move rfl rfl rfl ?_
          refine W_bin rfl rfl rfl rfl rfl ?_
          refine W_pick rfl rfl rfl rfl ?_
          refine W_move rfl rfl rfl ?_
          cases hb148 : (decide (r134.2.2 = 0))
          · refine W_no rfl rfl rfl ?_
            refine W_no rfl rfl rfl ?_
            refine W_no rfl rfl rfl ?_
            refine W_pick rfl rfl rfl rfl ?_
            refine W_assign rfl rfl rfl ?_
            refine W_end ?_
            refine E_drop (List.Sublist.cons _ (List.Sublist.refl _)) ?_
            exact E_keepJ (J146 _ _ _ ⟨rfl, rfl, rfl⟩) (List.Perm.refl _) ⟨(by show some (Value.bool (false)) = some (Value.bool ((r144 && (decide (r134.2.2 = 0))) && (decide (r134.2.1 ≤ r114.2.1)))); simp only [hb122, hb147, hb148, Bool.and_true, Bool.true_and, Bool.false_and, Bool.and_false, Bool.or_true, Bool.true_or, Bool.or_false, Bool.false_or, Bool.not_true, Bool.not_false]), trivial⟩
          · refine W_move rfl rfl rfl ?_
            refine W_move rfl rfl rfl ?_
            refine W_bin rfl rfl rfl rfl rfl ?_
            refine W_pick rfl rfl rfl rfl ?_
            refine W_assign rfl rfl rfl ?_
            refine W_end ?_
            refine E_drop (List.Sublist.cons _ (List.Sublist.refl _)) ?_
            exact E_keepJ (J146 _ _ _ ⟨rfl, rfl, rfl⟩) (List.Perm.refl _) ⟨(by show some (Value.bool (decide (r134.2.1 ≤ r114.2.1))) = some (Value.bool ((r144 && (decide (r134.2.2 = 0))) && (decide (r134.2.1 ≤ r114.2.1)))); simp only [hb122, hb147, hb148, Bool.and_true, Bool.true_and, Bool.false_and, Bool.and_false, Bool.or_true, Bool.true_or, Bool.or_false, Bool.false_or, Bool.not_true, Bool.not_false]), trivial⟩
  · refine C_region ?_
    refine W_move rfl rfl rfl ?_
    refine W_bin rfl rfl rfl rfl rfl ?_
    refine W_move rfl rfl rfl ?_
    cases hb149 : (decide (r114.2.2 = 0))
    · refine W_no rfl rfl rfl ?_
      refine W_no rfl rfl rfl ?_
      refine W_no rfl rfl rfl ?_
      refine W_no rfl rfl rfl ?_
      refine W_pick rfl rfl rfl rfl ?_
      refine W_end ?_
      exact E_keepJ (J121 _ _ _ ⟨rfl, rfl, rfl⟩) (List.Perm.refl _) ⟨rfl, rfl, (by show some (Value.bool (true)) = some (Value.bool ((!decide (r114.2.2 = 0)) || (decide ((r102.Jobs.length : Int) = 0)))); simp only [hb149, Bool.and_true, Bool.true_and, Bool.false_and, Bool.and_false, Bool.or_true, Bool.true_or, Bool.or_false, Bool.false_or, Bool.not_true, Bool.not_false]), trivial⟩
    · refine W_field (o := 0) rfl rfl Proofs.Try.runUnderlying25 rfl Proofs.Try.sizeOf22 rfl rfl rfl ?_
      refine W_load rfl rfl Proofs.Try.isAgg22 rfl (own_at (List.mem_cons_self ..) rfl) ?_
      refine W_lenR rfl rfl Proofs.Try.runUnderlying22 rfl (h113.mono hle119) ?_
      refine W_bin rfl rfl rfl rfl rfl ?_
      refine W_pick rfl rfl rfl rfl ?_
      refine W_end ?_
      exact E_keepJ (J121 _ _ _ ⟨rfl, rfl, rfl⟩) (List.Perm.refl _) ⟨rfl, rfl, (by show some (Value.bool (decide ((r102.Jobs.length : Int) = 0))) = some (Value.bool ((!decide (r114.2.2 = 0)) || (decide ((r102.Jobs.length : Int) = 0)))); simp only [hb149, Bool.and_true, Bool.true_and, Bool.false_and, Bool.and_false, Bool.or_true, Bool.true_or, Bool.or_false, Bool.false_or, Bool.not_true, Bool.not_false]), trivial⟩

theorem m_upkeep_Verify_c {B : Nat} {w0 w : World} {H : Hp} {M : List Res} {p0_t : S_api_UpkeepTask} {p1_l : (List Int)} {v0 : Value} {v1 : Value} {v2 : Value} {r : Int × Int} (hm : m_upkeep_Verify p0_t p1_l = some r) (h0 : RdS H v0 p0_t.Jobs) (h1 : RdS H v1 p0_t.Apart) (h2 : RdS H v2 p1_l) (ht : St B w0 H (M) w) :
    Calls Proofs.Try.prog 17 [.agg [v0, v1, .int .i64 (p0_t.Crews)].toArray, v2].toArray w (Ret B w0 fun H' M' v => H = H' ∧ M = M' ∧ .tuple #[.int .i64 (r.1), .int .i64 (r.2)] = v) := by
  unfold m_upkeep_Verify at hm
  refine enter Proofs.Try.func17 rfl rfl rfl ht ?_
  refine C_seq ?_
  refine C_region ?_
  refine W_box (cs := [v0, v1, .int .i64 (p0_t.Crews)]) rfl rfl rfl rfl (fun b101 => ?_)
  refine W_assign rfl rfl rfl ?_
  refine W_assign rfl rfl rfl ?_
  refine W_end ?_
  refine E_then ?_
  refine C_seq ?_
  refine C_seq ?_
  refine C_region ?_
  refine W_loadAgg rfl rfl Proofs.Try.isAgg25 Proofs.Try.sizeOf25 rfl (own_all (List.mem_cons_self ..)) rfl ?_
  obtain ⟨r102, hc103, hm⟩ := bind_some hm
  refine W_call Proofs.Try.call20 rfl rfl rfl (fun w ht => by have h := m_upkeep_Check_c (hm := hc103) h0 h1 ht; exact h) ?_
  rintro _ _ _ ⟨rfl, rfl, rfl⟩
  refine W_assign rfl rfl rfl ?_
  refine W_end ?_
  refine E_then ?_
  refine C_seq ?_
  refine C_region ?_
  refine W_move rfl rfl rfl ?_
  refine W_bin rfl rfl rfl rfl rfl ?_
  refine W_end ?_
  refine E_then ?_
  refine C_cond (b := !decide (r102 = 0)) rfl (fun hb104 => ?_) (fun hb104 => ?_)
  · have hm := ite_t' hb104 hm
    refine C_seq ?_
    refine C_region ?_
    refine W_move rfl rfl rfl ?_
    refine W_assign rfl rfl rfl ?_
    refine W_assign rfl rfl rfl ?_
    refine W_end ?_
    refine E_then ?_
    refine C_ret ?_
    refine E_ret_then ?_
    obtain rfl := Option.some.inj hm
    refine E_drop (List.Sublist.cons _ (List.Sublist.refl _)) ?_
    refine E_weak (Hp.le_refl _) ?_
    exact end2 rfl rfl rfl ⟨rfl, rfl, rfl⟩
  · have hm := ite_f' hb104 hm
    refine C_skip ?_
    refine E_then ?_
    refine C_seq ?_
    refine C_seq ?_
    refine C_region ?_
    refine W_move rfl rfl rfl ?_
    refine W_lenR rfl rfl Proofs.Try.runUnderlying27 rfl h2 ?_
    refine W_field (o := 0) rfl rfl Proofs.Try.runUnderlying25 rfl Proofs.Try.sizeOf22 rfl rfl rfl ?_
    refine W_load rfl rfl Proofs.Try.isAgg22 rfl (own_at (List.mem_cons_self ..) rfl) ?_
    refine W_lenR rfl rfl Proofs.Try.runUnderlying22 rfl h0 ?_
    refine W_bin rfl rfl rfl rfl rfl ?_
    refine W_end ?_
    refine E_then ?_
    refine C_cond (b := !decide ((p1_l.length : Int) = (p0_t.Jobs.length : Int))) rfl (fun hb105 => ?_) (fun hb105 => ?_)
    · have hm := ite_t' hb105 hm
      refine C_seq ?_
      refine C_region ?_
      refine W_assign rfl rfl rfl ?_
      refine W_assign rfl rfl rfl ?_
      refine W_end ?_
      refine E_then ?_
      refine C_ret ?_
      refine E_ret_then ?_
      obtain rfl := Option.some.inj hm
      refine E_drop (List.Sublist.cons _ (List.Sublist.refl _)) ?_
      refine E_weak (Hp.le_refl _) ?_
      exact end2 rfl rfl rfl ⟨rfl, rfl, rfl⟩
    · have hm := ite_f' hb105 hm
      refine C_skip ?_
      refine E_then ?_
      refine C_seq ?_
      refine C_region ?_
      refine W_assign rfl rfl rfl ?_
      refine W_end ?_
      refine E_then ?_
      refine C_seq ?_
      refine C_seq ?_
      refine C_region ?_
      refine W_field (o := 0) rfl rfl Proofs.Try.runUnderlying25 rfl Proofs.Try.sizeOf22 rfl rfl rfl ?_
      refine W_load rfl rfl Proofs.Try.isAgg22 rfl (own_at (List.mem_cons_self ..) rfl) ?_
      refine W_lenR rfl rfl Proofs.Try.runUnderlying22 rfl h0 ?_
      refine W_move rfl rfl rfl ?_
      refine W_end ?_
      refine E_then ?_
      refine C_block ?_
      refine C_keep (L' := [(1, v2), (2, .pointer (some ⟨b101, 0, none⟩)), (7, .int .i64 (0)), (24, v0), (25, .int .i64 ((p0_t.Jobs.length : Int))), (26, .int .i64 (((0 : Nat) : Int)))]) ⟨rfl, rfl, rfl, rfl, rfl, rfl, trivial⟩ (List.Perm.refl _) ?_
      refine C_loop (fun n H' M' L' => ∃ (k106 : Nat) (zs165' : List S_api_UpkeepJob), ∃ n157 : Int, (p0_t.Jobs).drop k106 = zs165' ∧ zs165'.length = n ∧ forI (fun k y s160 n => m_upkeep_Verify_b1 p1_l k y s160 n) (fun s160 => forN (fun k s201 n => m_upkeep_Verify_b2 p0_t p1_l k n) (fun _ => some (s160, 0)) ((p1_l.length : Int) : Int).toNat 0 ()) k106 zs165' n157 = some r ∧ H.le H' ∧ .obj b101 (.cells [v0, v1, .int .i64 (p0_t.Crews)].toArray 25 (0, 0)) :: M = M' ∧ [(1, v2), (2, .pointer (some ⟨b101, 0, none⟩)), (7, .int .i64 (n157)), (24, v0), (25, .int .i64 ((p0_t.Jobs.length : Int))), (26, .int .i64 ((k106 : Int)))] = L') _ ⟨0, _, 0, rfl, rfl, hm, (Hp.le_refl _), rfl, rfl⟩ ?_
      rintro _ H158 _ _ ⟨k106, zs165', n157, hd167, rfl, hm, hle159, rfl, rfl⟩
      refine C_seq ?_
      refine C_region ?_
      refine W_bin rfl rfl rfl rfl rfl ?_
      refine W_end (E_then ?_)
      refine C_seq ?_
      refine C_cond (b := decide ((k106 : Int) < (p0_t.Jobs.length : Int))) rfl (fun hb169 => ?_) (fun hb169 => ?_)
      · obtain ⟨y164, zs165, rfl, hy166, hd168⟩ := rng_t hd167 hb169
        have hm : m_upkeep_Verify_b1 p1_l k106 y164 n157 (forI (fun k y s160 n => m_upkeep_Verify_b1 p1_l k y s160 n) (fun s160 => forN (fun k s201 n => m_upkeep_Verify_b2 p0_t p1_l k n) (fun _ => some (s160, 0)) ((p1_l.length : Int) : Int).toNat 0 ()) (k106 + 1) zs165) = some r := hm
        generalize hn162 : forI (fun k y s160 n => m_upkeep_Verify_b1 p1_l k y s160 n) (fun s160 => forN (fun k s201 n => m_upkeep_Verify_b2 p0_t p1_l k n) (fun _ => some (s160, 0)) ((p1_l.length : Int) : Int).toNat 0 ()) (k106 + 1) zs165 = nx161 at hm
        unfold m_upkeep_Verify_b1 at hm
        refine C_skip (E_then ?_)
        refine C_seq ?_
        refine C_block ?_
        refine C_seq ?_
        refine C_region ?_
        refine W_move rfl rfl rfl ?_
        obtain ⟨_, ⟨rfl⟩, hc170⟩ := (h0).elem hy166
        refine W_indexS rfl rfl Proofs.Try.runUnderlying22 Proofs.Try.sizeOf51 rfl (h0.mono hle159) rfl (Int.natCast_nonneg _) hy166 ?_
        refine W_loadAgg rfl rfl Proofs.Try.isAgg51 Proofs.Try.sizeOf51 rfl (hc170.mono hle159).at rfl ?_
        refine W_alloc (cs := [.string (⟨#[]⟩), .int .i64 (0), .int .i64 (0), .int .i64 (0), .int .i64 (0)]) rfl rfl Proofs.Try.zeroValue51 rfl (fun b171 => ?_)
        refine W_assign rfl rfl rfl ?_
        refine W_store (cs := [.string (y164.Name), .int .i64 (y164.Long), .int .i64 (y164.First), .int .i64 (y164.Last), .int .i64 (y164.Weight)]) (out := [.string (y164.Name), .int .i64 (y164.Long), .int .i64 (y164.First), .int .i64 (y164.Last), .int .i64 (y164.Weight)]) rfl Proofs.Try.sizeOf51 rfl rfl rfl rfl rfl (all_cons rfl (all_cons rfl (all_cons rfl (all_cons rfl (all_cons rfl all_nil))))) (over_all rfl) ?_
        refine W_end ?_
        refine E_then ?_
        refine C_seq ?_
        refine C_seq ?_
        obtain ⟨y172, h173, he174, hm⟩ := idx_some hm
        obtain ⟨_, rfl, hc175⟩ := (h2).elem he174
        cases hb176 : (decide (y172 < y164.First))
        · have hm := ite_f' hb176 hm
          obtain ⟨y177, h178, he179, hm⟩ := idx_some hm
          obtain ⟨_, rfl, hc180⟩ := (h2).elem he179
          refine C_region_tok0 14 (phiT [(fun H rs v => [] = rs ∧ v2 = v), (fun H rs v => [] = rs ∧ .int .i64 ((k106 : Int)) = v), (fun H rs v => [] = rs ∧ .pointer (some ((Value.base (v2)).add (((k106 : Int) : Int).toNat * 1))) = v), (fun H rs v => [] = rs ∧ .int .i64 (y172) = v), (fun H rs v => [] = rs ∧ .pointer (some ⟨b171, 2, none⟩) = v), (fun H rs v => [] = rs ∧ .int .i64 (y164.First) = v), (fun H rs v => [] = rs ∧ .bool (false) = v), (fun H rs v => [] = rs ∧ .bool (false) = v), (fun H rs v => [] = rs ∧ v2 = v), (fun H rs v => [] = rs ∧ .int .i64 ((k106 : Int)) = v), (fun H rs v => [] = rs ∧ .pointer (some ((Value.base (v2)).add (((k106 : Int) : Int).toNat * 1))) = v), (fun H rs v => [] = rs ∧ .int .i64 (y177) = v), (fun H rs v => [] = rs ∧ .pointer (some ⟨b171, 3, none⟩) = v), (fun H rs v => [] = rs ∧ .int .i64 (y164.Last) = v)]) [[], [], [], [], [], [], [], [], [], [], [], [], [], []] [[], [], [], [], [], [], [], [], [], [], [], [], [], []] [] [0, 1, 2, 3, 4, 5, 6, 7, 8, 9, 10, 11, 12, 13] Facts.mixed (by kernel_rfl) rfl rfl rfl (by kernel_rfl) (phiT_mono ⟨eq_monoT _ _, eq_monoT _ _, eq_monoT _ _, eq_monoT _ _, eq_monoT _ _, eq_monoT _ _, eq_monoT _ _, eq_monoT _ _, eq_monoT _ _, eq_monoT _ _, eq_monoT _ _, eq_monoT _ _, eq_monoT _ _, eq_monoT _ _, trivial⟩) ⟨?_, ?_, ?_, ?_, ?_, ?_, ?_, ?_, ?_, ?_, ?_, ?_, ?_, ?_, trivial⟩ ?_
          · intro HX hX X Rest hR
            intro hU
            refine W_move rfl rfl rfl ?_
            exact W_end (OneT_end [] (Hp.le_refl _) ⟨rfl, rfl⟩)
          · intro HX hX X Rest hR
            intro hU
            refine W_move rfl rfl rfl ?_
            exact W_end (OneT_end [] (Hp.le_refl _) ⟨rfl, rfl⟩)
          · intro HX hX X Rest hR
            rintro _ _ ⟨rfl, rfl⟩
            rintro _ _ ⟨rfl, rfl⟩
            intro hU
            refine W_indexS rfl rfl Proofs.Try.runUnderlying27 Proofs.Try.sizeOf3 rfl ((h2.mono hle159).mono hX) rfl h173 he174 ?_
            exact W_end (OneT_end [] (Hp.le_refl _) ⟨rfl, rfl⟩)
          · intro HX hX X Rest hR
            rintro _ _ ⟨rfl, rfl⟩
            intro hU
            refine W_load rfl rfl Proofs.Try.isAgg3 rfl (HCells.one ((hc175.mono hle159).mono hX) 0 rfl).at ?_
            exact W_end (OneT_end [] (Hp.le_refl _) ⟨rfl, rfl⟩)
          · intro HX hX X Rest hR
            intro hU
            refine W_field (o := 2) rfl rfl Proofs.Try.runUnderlying51 rfl Proofs.Try.sizeOf3 rfl rfl rfl ?_
            exact W_end (OneT_end [] (Hp.le_refl _) ⟨rfl, rfl⟩)
          · intro HX hX X Rest hR
            rintro _ _ ⟨rfl, rfl⟩
            intro hU
            refine W_load rfl rfl Proofs.Try.isAgg3 rfl (own_at (hR _ (List.mem_cons_self ..)) rfl) ?_
            exact W_end (OneT_end [] (Hp.le_refl _) ⟨rfl, rfl⟩)
          · intro HX hX X Rest hR
            rintro _ _ ⟨rfl, rfl⟩
            rintro _ _ ⟨rfl, rfl⟩
            intro hU
            refine W_bin rfl rfl rfl rfl rfl ?_
            exact W_end (OneT_end [] (Hp.le_refl _) ⟨rfl, (by rw [hb176]; try rfl)⟩)
          · intro HX hX X Rest hR
            rintro _ _ ⟨rfl, rfl⟩
            intro hU
            refine W_move rfl rfl rfl ?_
            exact W_end (OneT_end [] (Hp.le_refl _) ⟨rfl, rfl⟩)
          · intro HX hX X Rest hR
            rintro _ _ ⟨rfl, rfl⟩
            intro hU
            refine W_move rfl rfl rfl ?_
            exact W_end (OneT_end [] (Hp.le_refl _) ⟨rfl, rfl⟩)
          · intro HX hX X Rest hR
            rintro _ _ ⟨rfl, rfl⟩
            intro hU
            refine W_move rfl rfl rfl ?_
            exact W_end (OneT_end [] (Hp.le_refl _) ⟨rfl, rfl⟩)
          · intro HX hX X Rest hR
            rintro _ _ ⟨rfl, rfl⟩
            rintro _ _ ⟨rfl, rfl⟩
            rintro _ _ ⟨rfl, rfl⟩
            intro hU
            refine W_indexS rfl rfl Proofs.Try.runUnderlying27 Proofs.Try.sizeOf3 rfl ((h2.mono hle159).mono hX) rfl h178 he179 ?_
            exact W_end (OneT_end [] (Hp.le_refl _) ⟨rfl, rfl⟩)
          · intro HX hX X Rest hR
            rintro _ _ ⟨rfl, rfl⟩
            rintro _ _ ⟨rfl, rfl⟩
            intro hU
            refine W_load rfl rfl Proofs.Try.isAgg3 rfl (HCells.one ((hc180.mono hle159).mono hX) 0 rfl).at ?_
            exact W_end (OneT_end [] (Hp.le_refl _) ⟨rfl, rfl⟩)
          · intro HX hX X Rest hR
            rintro _ _ ⟨rfl, rfl⟩
            intro hU
            refine W_field (o := 3) rfl rfl Proofs.Try.runUnderlying51 rfl Proofs.Try.sizeOf3 rfl rfl rfl ?_
            exact W_end (OneT_end [] (Hp.le_refl _) ⟨rfl, rfl⟩)
          · intro HX hX X Rest hR
            rintro _ _ ⟨rfl, rfl⟩
            rintro _ _ ⟨rfl, rfl⟩
            intro hU
            refine W_load rfl rfl Proofs.Try.isAgg3 rfl (own_at (hR _ (List.mem_cons_self ..)) rfl) ?_
            exact W_end (OneT_end [] (Hp.le_refl _) ⟨rfl, rfl⟩)
          intro H181 hle182
          rintro _ _ ⟨rfl, rfl⟩
          rintro _ _ ⟨rfl, rfl⟩
          rintro _ _ ⟨rfl, rfl⟩
          rintro _ _ ⟨rfl, rfl⟩
          rintro _ _ ⟨rfl, rfl⟩
          rintro _ _ ⟨rfl, rfl⟩
          rintro _ _ ⟨rfl, rfl⟩
          rintro _ _ ⟨rfl, rfl⟩
          rintro _ _ ⟨rfl, rfl⟩
          rintro _ _ ⟨rfl, rfl⟩
          rintro _ _ ⟨rfl, rfl⟩
          rintro _ _ ⟨rfl, rfl⟩
          rintro _ _ ⟨rfl, rfl⟩
          rintro _ _ ⟨rfl, rfl⟩
          refine W_bin rfl rfl rfl rfl rfl ?_
          refine W_pick rfl rfl rfl rfl ?_
          refine W_end ?_
          refine E_then ?_
          refine C_cond (b := decide (y164.Last < y177)) rfl (fun hb183 => ?_) (fun hb183 => ?_)
          · have hm := ite_t' hb183 hm
            refine C_seq ?_
            refine C_region ?_
            refine W_assign rfl rfl rfl ?_
            refine W_assign rfl rfl rfl ?_
            refine W_end ?_
            refine E_then ?_
            refine C_ret ?_
            refine E_ret_then ?_
            refine E_ret_block ?_
            refine E_ret_then ?_
            refine E_ret_then ?_
            refine E_ret_block ?_
            refine E_ret_then ?_
            obtain rfl := Option.some.inj hm
            refine E_drop (List.Sublist.cons _ (List.Sublist.cons _ (List.Sublist.refl _))) ?_
            refine E_weak (Hp.le_trans hle159 hle182) ?_
            exact end2 rfl rfl rfl ⟨rfl, rfl, rfl⟩
          · have hm := ite_f' hb183 hm
            refine C_skip ?_
            refine E_then ?_
            obtain ⟨y184, h185, he186, hm⟩ := idx_some hm
            obtain ⟨_, rfl, hc187⟩ := (h2).elem he186
            refine C_region_tok0 11 (phiT [(fun H rs v => [] = rs ∧ .int .i64 (n157) = v), (fun H rs v => [] = rs ∧ .pointer (some ⟨b171, 4, none⟩) = v), (fun H rs v => [] = rs ∧ .int .i64 (y164.Weight) = v), (fun H rs v => [] = rs ∧ v2 = v), (fun H rs v => [] = rs ∧ .int .i64 ((k106 : Int)) = v), (fun H rs v => [] = rs ∧ .pointer (some ((Value.base (v2)).add (((k106 : Int) : Int).toNat * 1))) = v), (fun H rs v => [] = rs ∧ .int .i64 (y184) = v), (fun H rs v => [] = rs ∧ .pointer (some ⟨b171, 2, none⟩) = v), (fun H rs v => [] = rs ∧ .int .i64 (y164.First) = v), (fun H rs v => [] = rs ∧ .int .i64 (IntKind.i64.wrap (y184 - y164.First)) = v), (fun H rs v => [] = rs ∧ .int .i64 (IntKind.i64.wrap (y164.Weight * (IntKind.i64.wrap (y184 - y164.First)))) = v)]) [[], [], [], [], [], [], [], [], [], [], []] [[], [], [], [], [], [], [], [], [], [], []] [] [0, 1, 2, 3, 4, 5, 6, 7, 8, 9, 10] Facts.mixed (by kernel_rfl) rfl rfl rfl (by kernel_rfl) (phiT_mono ⟨eq_monoT _ _, eq_monoT _ _, eq_monoT _ _, eq_monoT _ _, eq_monoT _ _, eq_monoT _ _, eq_monoT _ _, eq_monoT _ _, eq_monoT _ _, eq_monoT _ _, eq_monoT _ _, trivial⟩) ⟨?_, ?_, ?_, ?_, ?_, ?_, ?_, ?_, ?_, ?_, ?_, trivial⟩ ?_
            · intro HX hX X Rest hR
              intro hU
              refine W_move rfl rfl rfl ?_
              exact W_end (OneT_end [] (Hp.le_refl _) ⟨rfl, rfl⟩)
            · intro HX hX X Rest hR
              intro hU
              refine W_field (o := 4) rfl rfl Proofs.Try.runUnderlying51 rfl Proofs.Try.sizeOf3 rfl rfl rfl ?_
              exact W_end (OneT_end [] (Hp.le_refl _) ⟨rfl, rfl⟩)
            · intro HX hX X Rest hR
              rintro _ _ ⟨rfl, rfl⟩
              intro hU
              refine W_load rfl rfl Proofs.Try.isAgg3 rfl (own_at (hR _ (List.mem_cons_self ..)) rfl) ?_
              exact W_end (OneT_end [] (Hp.le_refl _) ⟨rfl, rfl⟩)
            · intro HX hX X Rest hR
              intro hU
              refine W_move rfl rfl rfl ?_
              exact W_end (OneT_end [] (Hp.le_refl _) ⟨rfl, rfl⟩)
            · intro HX hX X Rest hR
              intro hU
              refine W_move rfl rfl rfl ?_
              exact W_end (OneT_end [] (Hp.le_refl _) ⟨rfl, rfl⟩)
            · intro HX hX X Rest hR
              rintro _ _ ⟨rfl, rfl⟩
              rintro _ _ ⟨rfl, rfl⟩
              intro hU
              refine W_indexS rfl rfl Proofs.Try.runUnderlying27 Proofs.Try.sizeOf3 rfl (((h2.mono hle159).mono hle182).mono hX) rfl h185 he186 ?_
              exact W_end (OneT_end [] (Hp.le_refl _) ⟨rfl, rfl⟩)
            · intro HX hX X Rest hR
              rintro _ _ ⟨rfl, rfl⟩
              intro hU
              refine W_load rfl rfl Proofs.Try.isAgg3 rfl (HCells.one (((hc187.mono hle159).mono hle182).mono hX) 0 rfl).at ?_
              exact W_end (OneT_end [] (Hp.le_refl _) ⟨rfl, rfl⟩)
            · intro HX hX X Rest hR
              intro hU
              refine W_field (o := 2) rfl rfl Proofs.Try.runUnderlying51 rfl Proofs.Try.sizeOf3 rfl rfl rfl ?_
              exact W_end (OneT_end [] (Hp.le_refl _) ⟨rfl, rfl⟩)
            · intro HX hX X Rest hR
              rintro _ _ ⟨rfl, rfl⟩
              intro hU
              refine W_load rfl rfl Proofs.Try.isAgg3 rfl (own_at (hR _ (List.mem_cons_self ..)) rfl) ?_
              exact W_end (OneT_end [] (Hp.le_refl _) ⟨rfl, rfl⟩)
            · intro HX hX X Rest hR
              rintro _ _ ⟨rfl, rfl⟩
              rintro _ _ ⟨rfl, rfl⟩
              intro hU
              refine W_bin rfl rfl rfl rfl rfl ?_
              exact W_end (OneT_end [] (Hp.le_refl _) ⟨rfl, rfl⟩)
            · intro HX hX X Rest hR
              rintro _ _ ⟨rfl, rfl⟩
              rintro _ _ ⟨rfl, rfl⟩
              intro hU
              refine W_bin rfl rfl rfl rfl rfl ?_
              exact W_end (OneT_end [] (Hp.le_refl _) ⟨rfl, rfl⟩)
            intro H188 hle189
            rintro _ _ ⟨rfl, rfl⟩
            rintro _ _ ⟨rfl, rfl⟩
            rintro _ _ ⟨rfl, rfl⟩
            rintro _ _ ⟨rfl, rfl⟩
            rintro _ _ ⟨rfl, rfl⟩
            rintro _ _ ⟨rfl, rfl⟩
            rintro _ _ ⟨rfl, rfl⟩
            rintro _ _ ⟨rfl, rfl⟩
            rintro _ _ ⟨rfl, rfl⟩
            rintro _ _ ⟨rfl, rfl⟩
            rintro _ _ ⟨rfl, rfl⟩
            refine W_bin rfl rfl rfl rfl rfl ?_
            refine W_assign rfl rfl rfl ?_
            refine W_end ?_
            refine E_normal_block ?_
            refine E_then ?_
            refine C_region ?_
            refine W_bin rfl rfl rfl rfl rfl ?_
            refine W_move rfl rfl rfl ?_
            refine W_end ?_
            refine E_drop (List.Sublist.cons _ (List.Sublist.refl _)) ?_
            exact E_keepJ (E_back (Nat.lt_succ_self _) ⟨k106 + 1, zs165, IntKind.i64.wrap (n157 + (IntKind.i64.wrap (y164.Weight * (IntKind.i64.wrap (y184 - y164.First))))), hd168, rfl, (by rw [hn162]; exact hm), (Hp.le_trans (Hp.le_trans hle159 hle182) hle189), rfl, rfl⟩) (List.Perm.refl _) ⟨rfl, rfl, rfl, rfl, rfl, (congrArg (fun z => some (Value.int .i64 z)) (i64_succ hy166 ((h0.mono hle159)).lenMax)), trivial⟩
        · have hm := ite_t' hb176 hm
          refine C_region_tok0 14 (phiT [(fun H rs v => [] = rs ∧ v2 = v), (fun H rs v => [] = rs ∧ .int .i64 ((k106 : Int)) = v), (fun H rs v => [] = rs ∧ .pointer (some ((Value.base (v2)).add (((k106 : Int) : Int).toNat * 1))) = v), (fun H rs v => [] = rs ∧ .int .i64 (y172) = v), (fun H rs v => [] = rs ∧ .pointer (some ⟨b171, 2, none⟩) = v), (fun H rs v => [] = rs ∧ .int .i64 (y164.First) = v), (fun H rs v => [] = rs ∧ .bool (true) = v), (fun H rs v => [] = rs ∧ .bool (true) = v), (fun H rs v => [] = rs ∧ undef = v), (fun H rs v => [] = rs ∧ undef = v), (fun H rs v => [] = rs ∧ undef = v), (fun H rs v => [] = rs ∧ undef = v), (fun H rs v => [] = rs ∧ undef = v), (fun H rs v => [] = rs ∧ undef = v)]) [[], [], [], [], [], [], [], [], [], [], [], [], [], []] [[], [], [], [], [], [], [], [], [], [], [], [], [], []] [] [0, 1, 2, 3, 4, 5, 6, 7, 8, 9, 10, 11, 12, 13] Facts.mixed (by kernel_rfl) rfl rfl rfl (by kernel_rfl) (phiT_mono ⟨eq_monoT _ _, eq_monoT _ _, eq_monoT _ _, eq_monoT _ _, eq_monoT _ _, eq_monoT _ _, eq_monoT _ _, eq_monoT _ _, eq_monoT _ _, eq_monoT _ _, eq_monoT _ _, eq_monoT _ _, eq_monoT _ _, eq_monoT _ _, trivial⟩) ⟨?_, ?_, ?_, ?_, ?_, ?_, ?_, ?_, ?_, ?_, ?_, ?_, ?_, ?_, trivial⟩ ?_
          · intro HX hX X Rest hR
            intro hU
            refine W_move rfl rfl rfl ?_
            exact W_end (OneT_end [] (Hp.le_refl _) ⟨rfl, rfl⟩)
          · intro HX hX X Rest hR
            intro hU
            refine W_move rfl rfl rfl ?_
            exact W_end (OneT_end [] (Hp.le_refl _) ⟨rfl, rfl⟩)
          · intro HX hX X Rest hR
            rintro _ _ ⟨rfl, rfl⟩
            rintro _ _ ⟨rfl, rfl⟩
            intro hU
            refine W_indexS rfl rfl Proofs.Try.runUnderlying27 Proofs.Try.sizeOf3 rfl ((h2.mono hle159).mono hX) rfl h173 he174 ?_
            exact W_end (OneT_end [] (Hp.le_refl _) ⟨rfl, rfl⟩)
          · intro HX hX X Rest hR
            rintro _ _ ⟨rfl, rfl⟩
            intro hU
            refine W_load rfl rfl Proofs.Try.isAgg3 rfl (HCells.one ((hc175.mono hle159).mono hX) 0 rfl).at ?_
            exact W_end (OneT_end [] (Hp.le_refl _) ⟨rfl, rfl⟩)
          · intro HX hX X Rest hR
            intro hU
            refine W_field (o := 2) rfl rfl Proofs.Try.runUnderlying51 rfl Proofs.Try.sizeOf3 rfl rfl rfl ?_
            exact W_end (OneT_end [] (Hp.le_refl _) ⟨rfl, rfl⟩)
          · intro HX hX X Rest hR
            rintro _ _ ⟨rfl, rfl⟩
            intro hU
            refine W_load rfl rfl Proofs.Try.isAgg3 rfl (own_at (hR _ (List.mem_cons_self ..)) rfl) ?_
            exact W_end (OneT_end [] (Hp.le_refl _) ⟨rfl, rfl⟩)
          · intro HX hX X Rest hR
            rintro _ _ ⟨rfl, rfl⟩
            rintro _ _ ⟨rfl, rfl⟩
            intro hU
            refine W_bin rfl rfl rfl rfl rfl ?_
            exact W_end (OneT_end [] (Hp.le_refl _) ⟨rfl, (by rw [hb176]; try rfl)⟩)
          · intro HX hX X Rest hR
            rintro _ _ ⟨rfl, rfl⟩
            intro hU
            refine W_move rfl rfl rfl ?_
            exact W_end (OneT_end [] (Hp.le_refl _) ⟨rfl, rfl⟩)
          · intro HX hX X Rest hR
            rintro _ _ ⟨rfl, rfl⟩
            intro hU
            refine W_no rfl rfl rfl ?_
            exact W_end (OneT_end [] (Hp.le_refl _) ⟨rfl, rfl⟩)
          · intro HX hX X Rest hR
            rintro _ _ ⟨rfl, rfl⟩
            intro hU
            refine W_no rfl rfl rfl ?_
            exact W_end (OneT_end [] (Hp.le_refl _) ⟨rfl, rfl⟩)
          · intro HX hX X Rest hR
            rintro _ _ ⟨rfl, rfl⟩
            rintro _ _ ⟨rfl, rfl⟩
            rintro _ _ ⟨rfl, rfl⟩
            intro hU
            refine W_no rfl rfl rfl ?_
            exact W_end (OneT_end [] (Hp.le_refl _) ⟨rfl, rfl⟩)
          · intro HX hX X Rest hR
            rintro _ _ ⟨rfl, rfl⟩
            rintro _ _ ⟨rfl, rfl⟩
            intro hU
            refine W_no rfl rfl rfl ?_
            exact W_end (OneT_end [] (Hp.le_refl _) ⟨rfl, rfl⟩)
          · intro HX hX X Rest hR
            rintro _ _ ⟨rfl, rfl⟩
            intro hU
            refine W_no rfl rfl rfl ?_
            exact W_end (OneT_end [] (Hp.le_refl _) ⟨rfl, rfl⟩)
          · intro HX hX X Rest hR
            rintro _ _ ⟨rfl, rfl⟩
            rintro _ _ ⟨rfl, rfl⟩
            intro hU
            refine W_no rfl rfl rfl ?_
            exact W_end (OneT_end [] (Hp.le_refl _) ⟨rfl, rfl⟩)
          intro H190 hle191
          rintro _ _ ⟨rfl, rfl⟩
          rintro _ _ ⟨rfl, rfl⟩
          rintro _ _ ⟨rfl, rfl⟩
          rintro _ _ ⟨rfl, rfl⟩
          rintro _ _ ⟨rfl, rfl⟩
          rintro _ _ ⟨rfl, rfl⟩
          rintro _ _ ⟨rfl, rfl⟩
          rintro _ _ ⟨rfl, rfl⟩
          rintro _ _ ⟨rfl, rfl⟩
          rintro _ _ ⟨rfl, rfl⟩
          rintro _ _ ⟨rfl, rfl⟩
          rintro _ _ ⟨rfl, rfl⟩
          rintro _ _ ⟨rfl, rfl⟩
          rintro _ _ ⟨rfl, rfl⟩
          refine W_no rfl rfl rfl ?_
          refine W_pick rfl rfl rfl rfl ?_
          refine W_end ?_
          refine E_then ?_
          refine C_cond (b := true) rfl (fun _ => ?_) (fun hb => Bool.noConfusion hb)
          refine C_seq ?_
          refine C_region ?_
          refine W_assign rfl rfl rfl ?_
          refine W_assign rfl rfl rfl ?_
          refine W_end ?_
          refine E_then ?_
          refine C_ret ?_
          refine E_ret_then ?_
          refine E_ret_block ?_
          refine E_ret_then ?_
          refine E_ret_then ?_
          refine E_ret_block ?_
          refine E_ret_then ?_
          obtain rfl := Option.some.inj hm
          refine E_drop (List.Sublist.cons _ (List.Sublist.cons _ (List.Sublist.refl _))) ?_
          refine E_weak (Hp.le_trans hle159 hle191) ?_
          exact end2 rfl rfl rfl ⟨rfl, rfl, rfl⟩
      · obtain rfl := rng_f hd167 hb169
        have hm : (forN (fun k s201 n => m_upkeep_Verify_b2 p0_t p1_l k n) (fun _ => some (n157, 0)) ((p1_l.length : Int) : Int).toNat 0 ()) = some r := hm
        refine C_exit (E_exit_then ?_)
        refine E_exit_then ?_
        refine E_exit_hit ?_
        refine E_then ?_
        refine C_seq ?_
        refine C_seq ?_
        refine C_region ?_
        refine W_move rfl rfl rfl ?_
        refine W_lenR rfl rfl Proofs.Try.runUnderlying27 rfl (h2.mono hle159) ?_
        refine W_move rfl rfl rfl ?_
        refine W_end ?_
        refine E_then ?_
        refine C_block ?_
        refine C_keep (L' := [(1, v2), (2, .pointer (some ⟨b101, 0, none⟩)), (7, .int .i64 (n157)), (61, .int .i64 ((p1_l.length : Int))), (62, .int .i64 (((0 : Nat) : Int)))]) ⟨rfl, rfl, rfl, rfl, rfl, trivial⟩ (List.Perm.refl _) ?_
        refine C_loop (fun n H' M' L' => ∃ (k192 : Nat) (zs206' : Nat), k192 + zs206' = ((p1_l.length : Int) : Int).toNat ∧ zs206' = n ∧ forN (fun k s201 n => m_upkeep_Verify_b2 p0_t p1_l k n) (fun _ => some (n157, 0)) zs206' k192 () = some r ∧ H158.le H' ∧ .obj b101 (.cells [v0, v1, .int .i64 (p0_t.Crews)].toArray 25 (0, 0)) :: M = M' ∧ [(1, v2), (2, .pointer (some ⟨b101, 0, none⟩)), (7, .int .i64 (n157)), (61, .int .i64 ((p1_l.length : Int))), (62, .int .i64 ((k192 : Int)))] = L') _ ⟨0, _, Nat.zero_add _, rfl, hm, (Hp.le_refl _), rfl, rfl⟩ ?_
        rintro _ H199 _ _ ⟨k192, zs206', hd208, rfl, hm, hle200, rfl, rfl⟩
        refine C_seq ?_
        refine C_region ?_
        refine W_bin rfl rfl rfl rfl rfl ?_
        refine W_end (E_then ?_)
        refine C_seq ?_
        refine C_cond (b := decide ((k192 : Int) < (p1_l.length : Int))) rfl (fun hb210 => ?_) (fun hb210 => ?_)
        · obtain ⟨zs206, rfl, hd209, hy207⟩ := rngN_t hd208 hb210
          have hm : m_upkeep_Verify_b2 p0_t p1_l k192 (forN (fun k s201 n => m_upkeep_Verify_b2 p0_t p1_l k n) (fun _ => some (n157, 0)) zs206 (k192 + 1)) = some r := hm
          generalize hn203 : forN (fun k s201 n => m_upkeep_Verify_b2 p0_t p1_l k n) (fun _ => some (n157, 0)) zs206 (k192 + 1) = nx202 at hm
          unfold m_upkeep_Verify_b2 at hm
          refine C_skip (E_then ?_)
          refine C_seq ?_
          refine C_block ?_
          refine C_seq ?_
          refine C_region ?_
          refine W_move rfl rfl rfl ?_
          refine W_assign rfl rfl rfl ?_
          refine W_end ?_
          refine E_then ?_
          refine C_seq ?_
          refine C_region ?_
          refine W_loadAgg rfl rfl Proofs.Try.isAgg25 Proofs.Try.sizeOf25 rfl (own_all (List.mem_cons_self ..)) rfl ?_
          refine W_move rfl rfl rfl ?_
          refine W_move rfl rfl rfl ?_
          obtain ⟨r211, hc212, hm⟩ := bind_some hm
          refine W_call Proofs.Try.call33 rfl rfl rfl (fun w ht => by have h := m_upkeep_wrong_c (hm := hc212) ((h0.mono hle159).mono hle200) ((h1.mono hle159).mono hle200) ((h2.mono hle159).mono hle200) ht; exact h) ?_
          rintro _ _ _ ⟨rfl, rfl, rfl⟩
          refine W_assign rfl rfl rfl ?_
          refine W_end ?_
          refine E_then ?_
          refine C_seq ?_
          refine C_region ?_
          refine W_move rfl rfl rfl ?_
          refine W_bin rfl rfl rfl rfl rfl ?_
          refine W_end ?_
          refine E_then ?_
          refine C_cond (b := !decide (r211 = 0)) rfl (fun hb213 => ?_) (fun hb213 => ?_)
          · have hm := ite_t' hb213 hm
            refine C_seq ?_
            refine C_region ?_
            refine W_move rfl rfl rfl ?_
            refine W_assign rfl rfl rfl ?_
            refine W_assign rfl rfl rfl ?_
            refine W_end ?_
            refine E_then ?_
            refine C_ret ?_
            refine E_ret_block ?_
            refine E_ret_then ?_
            refine E_ret_then ?_
            refine E_ret_block ?_
            refine E_ret_then ?_
            obtain rfl := Option.some.inj hm
            refine E_drop (List.Sublist.cons _ (List.Sublist.refl _)) ?_
            refine E_weak (Hp.le_trans hle159 hle200) ?_
            exact end2 rfl rfl rfl ⟨rfl, rfl, rfl⟩
          · have hm := ite_f' hb213 hm
            refine C_skip ?_
            refine E_normal_block ?_
            refine E_then ?_
            refine C_region ?_
            refine W_bin rfl rfl rfl rfl rfl ?_
            refine W_move rfl rfl rfl ?_
            refine W_end ?_
            exact E_keepJ (E_back (Nat.lt_succ_self _) ⟨k192 + 1, zs206, hd209, rfl, (by rw [hn203]; exact hm), hle200, rfl, rfl⟩) (List.Perm.refl _) ⟨rfl, rfl, rfl, rfl, (congrArg (fun z => some (Value.int .i64 z)) (i64_succN hy207 (toNat_max (len_max ((h2.mono hle159)).lenMax)))), trivial⟩
        · obtain rfl := rngN_f hd208 hb210
          have hm : (some (n157, 0)) = some r := hm
          refine C_exit (E_exit_then ?_)
          refine E_exit_then ?_
          refine E_exit_hit ?_
          refine E_then ?_
          refine C_seq ?_
          refine C_region ?_
          refine W_move rfl rfl rfl ?_
          refine W_assign rfl rfl rfl ?_
          refine W_assign rfl rfl rfl ?_
          refine W_end ?_
          refine E_then ?_
          refine C_ret ?_
          obtain rfl := Option.some.inj hm
          refine E_drop (List.Sublist.cons _ (List.Sublist.refl _)) ?_
          refine E_weak (Hp.le_trans hle159 hle200) ?_
          exact end2 rfl rfl rfl ⟨rfl, rfl, rfl⟩

theorem m_gridhallkeep4_UpkeepVerified_c {B : Nat} {w0 w : World} {H : Hp} {M : List Res} {p0_t : S_api_UpkeepTask} {other : (List Int)} {v0 : Value} {v1 : Value} {v2 : Value} {r : Bool} (hm : m_gridhallkeep4_UpkeepVerified p0_t other = some r) (h0 : RdS H v0 p0_t.Jobs) (h1 : RdS H v1 p0_t.Apart) (h2 : RdS H v2 other) (ht : St B w0 H (M) w) :
    Calls Proofs.Try.prog 6 [.agg [v0, v1, .int .i64 (p0_t.Crews)].toArray, v2].toArray w (Ret B w0 fun H' M' v => H = H' ∧ M = M' ∧ .bool (r) = v) := by
  unfold m_gridhallkeep4_UpkeepVerified at hm
  refine enter Proofs.Try.func6 rfl rfl rfl ht ?_
  refine C_seq ?_
  refine C_region ?_
  refine W_box (cs := [v0, v1, .int .i64 (p0_t.Crews)]) rfl rfl rfl rfl (fun b101 => ?_)
  refine W_assign rfl rfl rfl ?_
  refine W_end ?_
  refine E_then ?_
  refine C_seq ?_
  refine C_region ?_
  refine W_loadAgg rfl rfl Proofs.Try.isAgg25 Proofs.Try.sizeOf25 rfl (own_all (List.mem_cons_self ..)) rfl ?_
  obtain ⟨r102, hc103, hm⟩ := bind_some hm
  refine W_call Proofs.Try.call7 rfl rfl rfl (fun w ht => by have h := m_gridhallkeep4_small_c (hm := hc103) h0 h1 ht; exact h) ?_
  rintro _ H109 _ ⟨hle110, v104, xs105, v107, rfl, rfl, h106, h108⟩
  refine W_perm (List.Perm.swap _ _ _) ?_
  refine W_store (cs := [v104, v107, .int .i64 (r102.Crews)]) (out := [v104, v107, .int .i64 (r102.Crews)]) rfl Proofs.Try.sizeOf25 rfl rfl rfl rfl rfl (all_cons (Rw.one h106) (all_cons (RdS.one1 h108) (all_cons rfl all_nil))) (over_all rfl) ?_
  refine W_end ?_
  refine E_then ?_
  refine C_seq ?_
  refine C_region ?_
  refine W_loadAgg rfl rfl Proofs.Try.isAgg25 Proofs.Try.sizeOf25 rfl (own_all (List.mem_cons_self ..)) rfl ?_
  refine W_perm (List.Perm.swap _ _ _) ?_
  refine W_freeze (h106).rd rfl (fun H111 hle112 h113 => ?_)
  obtain ⟨r114, hc115, hm⟩ := bind_some hm
  refine W_call Proofs.Try.call8 rfl rfl rfl (fun w ht => by have h := m_upkeep_Best_c (hm := hc115) h113 (h108.mono hle112) ht; exact h) ?_
  rintro _ H118 _ ⟨hle119, v116, rfl, rfl, h117⟩
  refine W_move rfl rfl rfl ?_
  refine W_extract rfl rfl rfl rfl ?_
  refine W_extract rfl rfl rfl rfl ?_
  refine W_extract rfl rfl rfl rfl ?_
  refine W_assign rfl rfl rfl ?_
  refine W_assign rfl rfl rfl ?_
  refine W_assign rfl rfl rfl ?_
  refine W_end ?_
  refine E_then ?_
  refine C_seq ?_
  refine C_region ?_
  refine W_loadAgg rfl rfl Proofs.Try.isAgg25 Proofs.Try.sizeOf25 rfl (own_all (List.mem_cons_self ..)) rfl ?_
  refine W_move rfl rfl rfl ?_
  obtain ⟨r120, hc121, hm⟩ := bind_some hm
  refine W_call Proofs.Try.call17 rfl rfl rfl (fun w ht => by have h := m_upkeep_Verify_c (hm := hc121) (h113.mono hle119) ((h108.mono hle112).mono hle119) (((h2.mono hle110).mono hle112).mono hle119) ht; exact h) ?_
  rintro _ _ _ ⟨rfl, rfl, rfl⟩
  refine W_move rfl rfl rfl ?_
  refine W_extract rfl rfl rfl rfl ?_
  refine W_extract rfl rfl rfl rfl ?_
  refine W_assign rfl rfl rfl ?_
  refine W_assign rfl rfl rfl ?_
  refine W_end ?_
  refine E_then ?_
  refine C_seq ?_
  refine C_seq ?_
  refine C_region ?_
  refine W_move rfl rfl rfl ?_
  refine W_bin rfl rfl rfl rfl rfl ?_
  refine W_end ?_
  refine E_then ?_
  refine C_cond (b := !decide (r114.2.2 = 0)) rfl (fun hb122 => ?_) (fun hb122 => ?_)
  · have hm := ite_t' hb122 hm
    obtain ⟨r129, hc130, hm⟩ := bind_some hm
    refine C_seq_join (fun H' M' L' => H118 = H' ∧ M = M' ∧ [(4, .bool (((r129 && (decide ((r114.1.length : Int) = 0))) && (decide (r114.2.1 = 0))) && ((!decide (r114.2.2 = 8)) || (!decide (r120.2 = 0)))))] = L') ?_ (fun J131 => ?_)
    · rintro _ _ _ ⟨rfl, rfl, rfl⟩
      refine C_ret ?_
      refine E_ret_then ?_
      obtain rfl := Option.some.inj hm
      refine E_weak (Hp.le_trans (Hp.le_trans hle110 hle112) hle119) ?_
      exact end1 rfl rfl ⟨rfl, rfl, rfl⟩
    · refine C_region ?_
      refine W_call Proofs.Try.call9 rfl rfl rfl (fun w ht => by have h := m_gridhallkeep4_upkeepFact_c (hm := hc130)  ht; exact h) ?_
      rintro _ _ _ ⟨rfl, rfl, rfl⟩
      refine W_move rfl rfl rfl ?_
      cases hb132 : (r129)
      · refine W_no rfl rfl rfl ?_
        refine W_no rfl rfl rfl ?_
        refine W_no rfl rfl rfl ?_
        refine W_pick rfl rfl rfl rfl ?_
        refine W_move rfl rfl rfl ?_
        refine W_no rfl rfl rfl ?_
        refine W_no rfl rfl rfl ?_
        refine W_pick rfl rfl rfl rfl ?_
        refine W_move rfl rfl rfl ?_
        refine W_no rfl rfl rfl ?_
        refine W_no rfl rfl rfl ?_
        refine W_no rfl rfl rfl ?_
        refine W_no rfl rfl rfl ?_
        refine W_no rfl rfl rfl ?_
        refine W_no rfl rfl rfl ?_
        refine W_pick rfl rfl rfl rfl ?_
        refine W_assign rfl rfl rfl ?_
        refine W_end ?_
        refine E_drop (List.Sublist.cons _ (List.Sublist.refl _)) ?_
        exact E_keepJ (J131 _ _ _ ⟨rfl, rfl, rfl⟩) (List.Perm.refl _) ⟨(by show some (Value.bool (false)) = some (Value.bool (((r129 && (decide ((r114.1.length : Int) = 0))) && (decide (r114.2.1 = 0))) && ((!decide (r114.2.2 = 8)) || (!decide (r120.2 = 0))))); simp only [hb122, hb132, Bool.and_true, Bool.true_and, Bool.false_and, Bool.and_false, Bool.or_true, Bool.true_or, Bool.or_false, Bool.false_or, Bool.not_true, Bool.not_false]), trivial⟩
      · refine W_move rfl rfl rfl ?_
        refine W_lenR rfl rfl Proofs.Try.runUnderlying27 rfl h117 ?_
        refine W_bin rfl rfl rfl rfl rfl ?_
        refine W_pick rfl rfl rfl rfl ?_
        refine W_move rfl rfl rfl ?_
        cases hb133 : (decide ((r114.1.length : Int) = 0))
        · refine W_no rfl rfl rfl ?_
          refine W_no rfl rfl rfl ?_
          refine W_pick rfl rfl rfl rfl ?_
          refine W_move rfl rfl rfl ?_
          refine W_no rfl rfl rfl ?_
          refine W_no rfl rfl rfl ?_
          refine W_no rfl rfl rfl ?_
          refine W_no rfl rfl rfl ?_
          refine W_no rfl rfl rfl ?_
          refine W_no rfl rfl rfl ?_
          refine W_pick rfl rfl rfl rfl ?_
          refine W_assign rfl rfl rfl ?_
          refine W_end ?_
          refine E_drop (List.Sublist.cons _ (List.Sublist.refl _)) ?_
          exact E_keepJ (J131 _ _ _ ⟨rfl, rfl, rfl⟩) (List.Perm.refl _) ⟨(by show some (Value.bool (false)) = some (Value.bool (((r129 && (decide ((r114.1.length : Int) = 0))) && (decide (r114.2.1 = 0))) && ((!decide (r114.2.2 = 8)) || (!decide (r120.2 = 0))))); simp only [hb122, hb132, hb133, Bool.and_true, Bool.true_and, Bool.false_and, Bool.and_false, Bool.or_true, Bool.true_or, Bool.or_false, Bool.false_or, Bool.not_true, Bool.not_false]), trivial⟩
        · refine W_move rfl rfl rfl ?_
          refine W_bin rfl rfl rfl rfl rfl ?_
          refine W_pick rfl rfl rfl rfl ?_
          refine W_move rfl rfl rfl ?_
          cases hb134 : (decide (r114.2.1 = 0))
          · refine W_no rfl rfl rfl ?_
            refine W_no rfl rfl rfl ?_
            refine W_no rfl rfl rfl ?_
            refine W_no rfl rfl rfl ?_
            refine W_no rfl rfl rfl ?_
            refine W_no rfl rfl rfl ?_
            refine W_pick rfl rfl rfl rfl ?_
            refine W_assign rfl rfl rfl ?_
            refine W_end ?_
            refine E_drop (List.Sublist.cons _ (List.Sublist.refl _)) ?_
            exact E_keepJ (J131 _ _ _ ⟨rfl, rfl, rfl⟩) (List.Perm.refl _) ⟨(by show some (Value.bool (false)) = some (Value.bool (((r129 && (decide ((r114.1.length : Int) = 0))) && (decide (r114.2.1 = 0))) && ((!decide (r114.2.2 = 8)) || (!decide (r120.2 = 0))))); simp only [hb122, hb132, hb133, hb134, Bool.and_true, Bool.true_and, Bool.false_and, Bool.and_false, Bool.or_true, Bool.true_or, Bool.or_false, Bool.false_or, Bool.not_true, Bool.not_false]), trivial⟩
          · refine W_move rfl rfl rfl ?_
            refine W_bin rfl rfl rfl rfl rfl ?_
            refine W_move rfl rfl rfl ?_
            cases hb135 : (decide (r114.2.2 = 8))
            · refine W_no rfl rfl rfl ?_
              refine W_no rfl rfl rfl ?_
              refine W_pick rfl rfl rfl rfl ?_
              refine W_pick rfl rfl rfl rfl ?_
              refine W_assign rfl rfl rfl ?_
              refine W_end ?_
              refine E_drop (List.Sublist.cons _ (List.Sublist.refl _)) ?_
              exact E_keepJ (J131 _ _ _ ⟨rfl, rfl, rfl⟩) (List.Perm.refl _) ⟨(by show some (Value.bool (true)) = some (Value.bool (((r129 && (decide ((r114.1.length : Int) = 0))) && (decide (r114.2.1 = 0))) && ((!decide (r114.2.2 = 8)) || (!decide (r120.2 = 0))))); simp only [hb122, hb132, hb133, hb134, hb135, Bool.and_true, Bool.true_and, Bool.false_and, Bool.and_false, Bool.or_true, Bool.true_or, Bool.or_false, Bool.false_or, Bool.not_true, Bool.not_false]), trivial⟩
            · refine W_move rfl rfl rfl ?_
              refine W_bin rfl rfl rfl rfl rfl ?_
              refine W_pick rfl rfl rfl rfl ?_
              refine W_pick rfl rfl rfl rfl ?_
              refine W_assign rfl rfl rfl ?_
              refine W_end ?_
              refine E_drop (List.Sublist.cons _ (List.Sublist.refl _)) ?_
              exact E_keepJ (J131 _ _ _ ⟨rfl, rfl, rfl⟩) (List.Perm.refl _) ⟨(by show some (Value.bool (!decide (r120.2 = 0))) = some (Value.bool (((r129 && (decide ((r114.1.length : Int) = 0))) && (decide (r114.2.1 = 0))) && ((!decide (r114.2.2 = 8)) || (!decide (r120.2 = 0))))); simp only [hb122, hb132, hb133, hb134, hb135, Bool.and_true, Bool.true_and, Bool.false_and, Bool.and_false, Bool.or_true, Bool.true_or, Bool.or_false, Bool.false_or, Bool.not_true, Bool.not_false]), trivial⟩
  · have hm := ite_f' hb122 hm
    refine C_skip ?_
    refine E_then ?_
    refine C_seq ?_
    refine C_region ?_
    refine W_loadAgg rfl rfl Proofs.Try.isAgg25 Proofs.Try.sizeOf25 rfl (own_all (List.mem_cons_self ..)) rfl ?_
    refine W_move rfl rfl rfl ?_
    obtain ⟨r136, hc137, hm⟩ := bind_some hm
    refine W_call Proofs.Try.call17 rfl rfl rfl (fun w ht => by have h := m_upkeep_Verify_c (hm := hc137) (h113.mono hle119) ((h108.mono hle112).mono hle119) h117 ht; exact h) ?_
    rintro _ _ _ ⟨rfl, rfl, rfl⟩
    refine W_move rfl rfl rfl ?_
    refine W_extract rfl rfl rfl rfl ?_
    refine W_extract rfl rfl rfl rfl ?_
    refine W_assign rfl rfl rfl ?_
    refine W_assign rfl rfl rfl ?_
    refine W_end ?_
    refine E_then ?_
    obtain ⟨r144, hc145, hm⟩ := bind_some hm
    refine C_seq_join (fun H' M' L' => H118 = H' ∧ M = M' ∧ [(4, .bool (((r144 && (decide (r136.2 = 0))) && (decide (r136.1 = r114.2.1))) && ((!decide (r120.2 = 0)) || (decide (r114.2.1 ≤ r120.1)))))] = L') ?_ (fun J146 => ?_)
    · rintro _ _ _ ⟨rfl, rfl, rfl⟩
      refine C_ret ?_
      obtain rfl := Option.some.inj hm
      refine E_weak (Hp.le_trans (Hp.le_trans hle110 hle112) hle119) ?_
      exact end1 rfl rfl ⟨rfl, rfl, rfl⟩
    · refine C_region ?_
      refine W_call Proofs.Try.call9 rfl rfl rfl (fun w ht => by have h := m_gridhallkeep4_upkeepFact_c (hm := hc145)  ht; exact h) ?_
      rintro _ _ _ ⟨rfl, rfl, rfl⟩
      refine W_move rfl rfl rfl ?_
      cases hb147 : (r144)
      · refine W_no rfl rfl rfl ?_
        refine W_no rfl rfl rfl ?_
        refine W_pick rfl rfl rfl rfl ?_
        refine W_move rfl rfl rfl ?_
        refine W_no rfl rfl rfl ?_
        refine W_no rfl rfl rfl ?_
        refine W_no rfl rfl rfl ?_
        refine W_pick rfl rfl rfl rfl ?_
        refine W_move rfl rfl rfl ?_
        refine W_no rfl rfl rfl ?_
        refine W_no rfl rfl rfl ?_
        refine W_no rfl rfl rfl ?_
        refine W_no rfl rfl rfl ?_
        refine W_no rfl rfl rfl ?_
        refine W_no rfl rfl rfl ?_
        refine W_no rfl rfl rfl ?_
        refine W_pick rfl rfl rfl rfl ?_
        refine W_assign rfl rfl rfl ?_
        refine W_end ?_
        refine E_drop (List.Sublist.cons _ (List.Sublist.refl _)) ?_
        exact E_keepJ (J146 _ _ _ ⟨rfl, rfl, rfl⟩) (List.Perm.refl _) ⟨(by show some (Value.bool (false)) = some (Value.bool (((r144 && (decide (r136.2 = 0))) && (decide (r136.1 = r114.2.1))) && ((!decide (r120.2 = 0)) || (decide (r114.2.1 ≤ r120.1))))); simp only [hb122, hb147, Bool.and_true, Bool.true_and, Bool.false_and, Bool.and_false, Bool.or_true, Bool.true_or, Bool.or_false, Bool.false_or, Bool.not_true, Bool.not_false]), trivial⟩
      · refine W_move rfl rfl rfl ?_
        refine W_bin rfl rfl rfl rfl rfl ?_
        refine W_pick rfl rfl rfl rfl ?_
        refine W_move rfl rfl rfl ?_
        cases hb148 : (decide (r136.2 = 0))
        · refine W_no rfl rfl rfl ?_
          refine W_no rfl rfl rfl ?_
          refine W_no rfl rfl rfl ?_
          refine W_pick rfl rfl rfl rfl ?_
          refine W_move rfl rfl rfl ?_
          refine W_no rfl rfl rfl ?_
          refine W_no rfl rfl rfl ?_
          refine W_no rfl rfl rfl ?_
          refine W_no rfl rfl rfl ?_
          refine W_no rfl rfl rfl ?_
          refine W_no rfl rfl rfl ?_
          refine W_no rfl rfl rfl ?_
          refine W_pick rfl rfl rfl rfl ?_
          refine W_assign rfl rfl rfl ?_
          refine W_end ?_
          refine E_drop (List.Sublist.cons _ (List.Sublist.refl _)) ?_
          exact E_keepJ (J146 _ _ _ ⟨rfl, rfl, rfl⟩) (List.Perm.refl _) ⟨(by show some (Value.bool (false)) = some (Value.bool (((r144 && (decide (r136.2 = 0))) && (decide (r136.1 = r114.2.1))) && ((!decide (r120.2 = 0)) || (decide (r114.2.1 ≤ r120.1))))); simp only [hb122, hb147, hb148, Bool.and_true, Bool.true_and, Bool.false_and, Bool.and_false, Bool.or_true, Bool.true_or, Bool.or_false, Bool.false_or, Bool.not_true, Bool.not_false]), trivial⟩
        · refine W_move rfl rfl rfl ?_
          refine W_move rfl rfl rfl ?_
          refine W_bin rfl rfl rfl rfl rfl ?_
          refine W_pick rfl rfl rfl rfl ?_
          refine W_move rfl rfl rfl ?_
          cases hb149 : (decide (r136.1 = r114.2.1))
          · refine W_no rfl rfl rfl ?_
            refine W_no rfl rfl rfl ?_
            refine W_no rfl rfl rfl ?_
            refine W_no rfl rfl rfl ?_
            refine W_no rfl rfl rfl ?_
            refine W_no rfl rfl rfl ?_
            refine W_no rfl rfl rfl ?_
            refine W_pick rfl rfl rfl rfl ?_
            refine W_assign rfl rfl rfl ?_
            refine W_end ?_
            refine E_drop (List.Sublist.cons _ (List.Sublist.refl _)) ?_
            exact E_keepJ (J146 _ _ _ ⟨rfl, rfl, rfl⟩) (List.Perm.refl _) ⟨(by show some (Value.bool (false)) = some (Value.bool (((r144 && (decide (r136.2 = 0))) && (decide (r136.1 = r114.2.1))) && ((!decide (r120.2 = 0)) || (decide (r114.2.1 ≤ r120.1))))); simp only [hb122, hb147, hb148, hb149, Bool.and_true, Bool.true_and, Bool.false_and, Bool.and_false, Bool.or_true, Bool.true_or, Bool.or_false, Bool.false_or, Bool.not_true, Bool.not_false]), trivial⟩
          · refine W_move rfl rfl rfl ?_
            refine W_bin rfl rfl rfl rfl rfl ?_
            refine W_move rfl rfl rfl ?_
            cases hb150 : (decide (r120.2 = 0))
            · refine W_no rfl rfl rfl ?_
              refine W_no rfl rfl rfl ?_
              refine W_no rfl rfl rfl ?_
              refine W_pick rfl rfl rfl rfl ?_
              refine W_pick rfl rfl rfl rfl ?_
              refine W_assign rfl rfl rfl ?_
              refine W_end ?_
              refine E_drop (List.Sublist.cons _ (List.Sublist.refl _)) ?_
              exact E_keepJ (J146 _ _ _ ⟨rfl, rfl, rfl⟩) (List.Perm.refl _) ⟨(by show some (Value.bool (true)) = some (Value.bool (((r144 && (decide (r136.2 = 0))) && (decide (r136.1 = r114.2.1))) && ((!decide (r120.2 = 0)) || (decide (r114.2.1 ≤ r120.1))))); simp only [hb122, hb147, hb148, hb149, hb150, Bool.and_true, Bool.true_and, Bool.false_and, Bool.and_false, Bool.or_true, Bool.true_or, Bool.or_false, Bool.false_or, Bool.not_true, Bool.not_false]), trivial⟩
            · refine W_move rfl rfl rfl ?_
              refine W_move rfl rfl rfl ?_
              refine W_bin rfl rfl rfl rfl rfl ?_
              refine W_pick rfl rfl rfl rfl ?_
              refine W_pick rfl rfl rfl rfl ?_
              refine W_assign rfl rfl rfl ?_
              refine W_end ?_
              refine E_drop (List.Sublist.cons _ (List.Sublist.refl _)) ?_
              exact E_keepJ (J146 _ _ _ ⟨rfl, rfl, rfl⟩) (List.Perm.refl _) ⟨(by show some (Value.bool (decide (r114.2.1 ≤ r120.1))) = some (Value.bool (((r144 && (decide (r136.2 = 0))) && (decide (r136.1 = r114.2.1))) && ((!decide (r120.2 = 0)) || (decide (r114.2.1 ≤ r120.1))))); simp only [hb122, hb147, hb148, hb149, hb150, Bool.and_true, Bool.true_and, Bool.false_and, Bool.and_false, Bool.or_true, Bool.true_or, Bool.or_false, Bool.false_or, Bool.not_true, Bool.not_false]), trivial⟩
end Go.Sim
