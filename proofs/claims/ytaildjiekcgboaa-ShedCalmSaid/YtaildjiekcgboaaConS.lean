/-
  Printed by a program: each Go function computes its model.
-/
import Derived.Test.YtaildjiekcgboaaConS1
namespace Go.Sim
open Go
set_option linter.unusedVariables false
set_option linter.unusedSimpArgs false
set_option maxRecDepth 100000
theorem m_gridhallkeep4_ShedCalm_c {B : Nat} {w0 w : World} {H : Hp} {M : List Res} {p0_l : (List S_api_ShedStage)} {frequencies : (List Int)} {v0 : Value} {v1 : Value} {r : Bool} (hm : m_gridhallkeep4_ShedCalm p0_l frequencies = some r) (h0 : RdS H v0 p0_l) (h1 : RdS H v1 frequencies) (ht : St B w0 H (M) w) :
    Calls Proofs.Try.prog 7 [v0, v1].toArray w (Ret B w0 fun H' M' v => H = H' ∧ M = M' ∧ .bool (r) = v) := by
  unfold m_gridhallkeep4_ShedCalm at hm
  refine enter Proofs.Try.func7 rfl rfl rfl ht ?_
  refine C_seq ?_
  refine C_region ?_
  refine W_assign rfl rfl rfl ?_
  refine W_end ?_
  refine E_then ?_
  refine C_seq ?_
  refine C_region ?_
  refine W_move rfl rfl rfl ?_
  obtain ⟨r101, hc102, hm⟩ := bind_some hm
  refine W_call Proofs.Try.call15 rfl rfl rfl (fun w ht => by have h := m_shed_New_c (hm := hc102) h0 ht; exact h) ?_
  rintro _ H119 _ (⟨hn113, hle115, rfl, rfl⟩ | ⟨sp103, hn116, hle118, b104, v105, v107, xs108, v110, xs111, rfl, rfl, h106, h109, h112⟩)
  · have hm := optC_n hn113 hm
    refine W_move rfl rfl rfl ?_
    refine W_extract rfl rfl rfl rfl ?_
    refine W_extract rfl rfl rfl rfl ?_
    refine W_assign rfl rfl rfl ?_
    refine W_assign rfl rfl rfl ?_
    refine W_end ?_
    refine E_then ?_
    refine C_seq ?_
    refine C_region ?_
    refine W_move rfl rfl rfl ?_
    obtain ⟨r120, hc121, hm⟩ := bind_some hm
    refine W_call Proofs.Try.call15 rfl rfl rfl (fun w ht => by have h := m_shed_New_c (hm := hc121) (h0.mono hle115) ht; exact h) ?_
    rintro _ H138 _ (⟨hn132, hle134, rfl, rfl⟩ | ⟨sp122, hn135, hle137, b123, v124, v126, xs127, v129, xs130, rfl, rfl, h125, h128, h131⟩)
    · have hm := optC_n hn132 hm
      refine W_move rfl rfl rfl ?_
      refine W_extract rfl rfl rfl rfl ?_
      refine W_extract rfl rfl rfl rfl ?_
      refine W_assign rfl rfl rfl ?_
      refine W_assign rfl rfl rfl ?_
      refine W_end ?_
      refine E_then ?_
      refine C_seq ?_
      refine C_seq_join (fun H' M' L' => H138 = H' ∧ M = M' ∧ [(0, v0), (1, v1), (5, .pointer none), (6, .int .i64 (r101.2)), (7, .pointer none), (8, .int .i64 (r120.2)), (38, .bool (true))] = L') ?_ (fun J140 => ?_)
      · rintro _ _ _ ⟨rfl, rfl, rfl⟩
        refine C_cond (b := true) rfl (fun _ => ?_) (fun hb => Bool.noConfusion hb)
        obtain ⟨r144, hc145, hm⟩ := bind_some hm
        refine C_seq_join (fun H' M' L' => H138 = H' ∧ M = M' ∧ [(4, .bool (r144 && (decide (r101.2 = r120.2))))] = L') ?_ (fun J146 => ?_)
        · rintro _ _ _ ⟨rfl, rfl, rfl⟩
          refine C_ret ?_
          refine E_ret_then ?_
          obtain rfl := Option.some.inj hm
          refine E_weak (Hp.le_trans hle115 hle134) ?_
          exact end1 rfl rfl ⟨rfl, rfl, rfl⟩
        · refine C_region ?_
          refine W_call Proofs.Try.call16 rfl rfl rfl (fun w ht => by have h := m_gridhallkeep4_shedFact_c (hm := hc145)  ht; exact h) ?_
          rintro _ _ _ ⟨rfl, rfl, rfl⟩
          refine W_move rfl rfl rfl ?_
          cases hb147 : (r144)
          · refine W_no rfl rfl rfl ?_
            refine W_no rfl rfl rfl ?_
            refine W_pick rfl rfl rfl rfl ?_
            refine W_move rfl rfl rfl ?_
            refine W_no rfl rfl rfl ?_
            refine W_no rfl rfl rfl ?_
            refine W_no rfl rfl rfl ?_
            refine W_pick rfl rfl rfl rfl ?_
            refine W_assign rfl rfl rfl ?_
            refine W_end ?_
            exact E_keepJ (J146 _ _ _ ⟨rfl, rfl, rfl⟩) (List.Perm.refl _) ⟨(by show some (Value.bool (false)) = some (Value.bool (r144 && (decide (r101.2 = r120.2)))); simp only [hb147, Bool.and_true, Bool.true_and, Bool.false_and, Bool.and_false, Bool.or_true, Bool.true_or, Bool.or_false, Bool.false_or, Bool.not_true, Bool.not_false]), trivial⟩
          · refine W_move rfl rfl rfl ?_
            refine W_ptrNil rfl rfl Proofs.Try.runUnderlying36 rfl rfl ?_
            refine W_pick rfl rfl rfl rfl ?_
            refine W_move rfl rfl rfl ?_
            refine W_move rfl rfl rfl ?_
            refine W_move rfl rfl rfl ?_
            refine W_bin rfl rfl rfl rfl rfl ?_
            refine W_pick rfl rfl rfl rfl ?_
            refine W_assign rfl rfl rfl ?_
            refine W_end ?_
            exact E_keepJ (J146 _ _ _ ⟨rfl, rfl, rfl⟩) (List.Perm.refl _) ⟨(by show some (Value.bool (decide (r101.2 = r120.2))) = some (Value.bool (r144 && (decide (r101.2 = r120.2)))); simp only [hb147, Bool.and_true, Bool.true_and, Bool.false_and, Bool.and_false, Bool.or_true, Bool.true_or, Bool.or_false, Bool.false_or, Bool.not_true, Bool.not_false]), trivial⟩
      · refine C_region ?_
        refine W_move rfl rfl rfl ?_
        refine W_bin rfl rfl rfl rfl rfl ?_
        refine W_move rfl rfl rfl ?_
        cases hb148 : (decide (r101.2 = 0))
        · refine W_no rfl rfl rfl ?_
          refine W_no rfl rfl rfl ?_
          refine W_pick rfl rfl rfl rfl ?_
          refine W_move rfl rfl rfl ?_
          refine W_no rfl rfl rfl ?_
          refine W_no rfl rfl rfl ?_
          refine W_pick rfl rfl rfl rfl ?_
          refine W_end ?_
          exact E_keepJ (J140 _ _ _ ⟨rfl, rfl, rfl⟩) (List.Perm.refl _) ⟨rfl, rfl, rfl, rfl, rfl, rfl, rfl, trivial⟩
        · refine W_move rfl rfl rfl ?_
          refine W_ptrNil rfl rfl Proofs.Try.runUnderlying36 rfl rfl ?_
          refine W_pick rfl rfl rfl rfl ?_
          refine W_move rfl rfl rfl ?_
          refine W_no rfl rfl rfl ?_
          refine W_no rfl rfl rfl ?_
          refine W_pick rfl rfl rfl rfl ?_
          refine W_end ?_
          exact E_keepJ (J140 _ _ _ ⟨rfl, rfl, rfl⟩) (List.Perm.refl _) ⟨rfl, rfl, rfl, rfl, rfl, rfl, rfl, trivial⟩
    · have hm := optC_s hn135 hm
      refine W_move rfl rfl rfl ?_
      refine W_extract rfl rfl rfl rfl ?_
      refine W_extract rfl rfl rfl rfl ?_
      refine W_assign rfl rfl rfl ?_
      refine W_assign rfl rfl rfl ?_
      refine W_end ?_
      refine E_then ?_
      refine C_seq ?_
      refine C_seq_join (fun H' M' L' => H138 = H' ∧ .obj b123 (.cells [v124, v126, v129].toArray 58 (0, 0)) :: .row v126 3 (Rep.sz Int) sp122.count.length xs127 :: .row v129 3 (Rep.sz Int) sp122.acted.length xs130 :: M = M' ∧ [(0, v0), (1, v1), (5, .pointer none), (6, .int .i64 (r101.2)), (7, .pointer (some ⟨b123, 0, none⟩)), (8, .int .i64 (r120.2)), (38, .bool (true))] = L') ?_ (fun J150 => ?_)
      · rintro _ _ _ ⟨rfl, rfl, rfl⟩
        refine C_cond (b := true) rfl (fun _ => ?_) (fun hb => Bool.noConfusion hb)
        obtain ⟨r154, hc155, hm⟩ := bind_some hm
        refine C_seq_join (fun H' M' L' => H138 = H' ∧ M = M' ∧ [(4, .bool (r154 && (decide (r101.2 = r120.2))))] = L') ?_ (fun J156 => ?_)
        · rintro _ _ _ ⟨rfl, rfl, rfl⟩
          refine C_ret ?_
          refine E_ret_then ?_
          obtain rfl := Option.some.inj hm
          refine E_weak (Hp.le_trans hle115 hle137) ?_
          exact end1 rfl rfl ⟨rfl, rfl, rfl⟩
        · refine C_region ?_
          refine W_call Proofs.Try.call16 rfl rfl rfl (fun w ht => by have h := m_gridhallkeep4_shedFact_c (hm := hc155)  ht; exact h) ?_
          rintro _ _ _ ⟨rfl, rfl, rfl⟩
          refine W_move rfl rfl rfl ?_
          cases hb157 : (r154)
          · refine W_no rfl rfl rfl ?_
            refine W_no rfl rfl rfl ?_
            refine W_pick rfl rfl rfl rfl ?_
            refine W_move rfl rfl rfl ?_
            refine W_no rfl rfl rfl ?_
            refine W_no rfl rfl rfl ?_
            refine W_no rfl rfl rfl ?_
            refine W_pick rfl rfl rfl rfl ?_
            refine W_assign rfl rfl rfl ?_
            refine W_end ?_
            refine E_drop (List.Sublist.cons _ (List.Sublist.cons _ (List.Sublist.cons _ (List.Sublist.refl _)))) ?_
            exact E_keepJ (J156 _ _ _ ⟨rfl, rfl, rfl⟩) (List.Perm.refl _) ⟨(by show some (Value.bool (false)) = some (Value.bool (r154 && (decide (r101.2 = r120.2)))); simp only [hb157, Bool.and_true, Bool.true_and, Bool.false_and, Bool.and_false, Bool.or_true, Bool.true_or, Bool.or_false, Bool.false_or, Bool.not_true, Bool.not_false]), trivial⟩
          · refine W_move rfl rfl rfl ?_
            refine W_ptrNil rfl rfl Proofs.Try.runUnderlying36 rfl rfl ?_
            refine W_pick rfl rfl rfl rfl ?_
            refine W_move rfl rfl rfl ?_
            refine W_move rfl rfl rfl ?_
            refine W_move rfl rfl rfl ?_
            refine W_bin rfl rfl rfl rfl rfl ?_
            refine W_pick rfl rfl rfl rfl ?_
            refine W_assign rfl rfl rfl ?_
            refine W_end ?_
            refine E_drop (List.Sublist.cons _ (List.Sublist.cons _ (List.Sublist.cons _ (List.Sublist.refl _)))) ?_
            exact E_keepJ (J156 _ _ _ ⟨rfl, rfl, rfl⟩) (List.Perm.refl _) ⟨(by show some (Value.bool (decide (r101.2 = r120.2))) = some (Value.bool (r154 && (decide (r101.2 = r120.2)))); simp only [hb157, Bool.and_true, Bool.true_and, Bool.false_and, Bool.and_false, Bool.or_true, Bool.true_or, Bool.or_false, Bool.false_or, Bool.not_true, Bool.not_false]), trivial⟩
      · refine C_region ?_
        refine W_move rfl rfl rfl ?_
        refine W_bin rfl rfl rfl rfl rfl ?_
        refine W_move rfl rfl rfl ?_
        cases hb158 : (decide (r101.2 = 0))
        · refine W_no rfl rfl rfl ?_
          refine W_no rfl rfl rfl ?_
          refine W_pick rfl rfl rfl rfl ?_
          refine W_move rfl rfl rfl ?_
          refine W_no rfl rfl rfl ?_
          refine W_no rfl rfl rfl ?_
          refine W_pick rfl rfl rfl rfl ?_
          refine W_end ?_
          exact E_keepJ (J150 _ _ _ ⟨rfl, rfl, rfl⟩) (List.Perm.refl _) ⟨rfl, rfl, rfl, rfl, rfl, rfl, rfl, trivial⟩
        · refine W_move rfl rfl rfl ?_
          refine W_ptrNil rfl rfl Proofs.Try.runUnderlying36 rfl rfl ?_
          refine W_pick rfl rfl rfl rfl ?_
          refine W_move rfl rfl rfl ?_
          refine W_no rfl rfl rfl ?_
          refine W_no rfl rfl rfl ?_
          refine W_pick rfl rfl rfl rfl ?_
          refine W_end ?_
          exact E_keepJ (J150 _ _ _ ⟨rfl, rfl, rfl⟩) (List.Perm.refl _) ⟨rfl, rfl, rfl, rfl, rfl, rfl, rfl, trivial⟩
  · have hm := optC_s hn116 hm
    refine W_move rfl rfl rfl ?_
    refine W_extract rfl rfl rfl rfl ?_
    refine W_extract rfl rfl rfl rfl ?_
    refine W_assign rfl rfl rfl ?_
    refine W_assign rfl rfl rfl ?_
    refine W_end ?_
    refine E_then ?_
    refine C_seq ?_
    refine C_region ?_
    refine W_move rfl rfl rfl ?_
    obtain ⟨r159, hc160, hm⟩ := bind_some hm
    refine W_call Proofs.Try.call15 rfl rfl rfl (fun w ht => by have h := m_shed_New_c (hm := hc160) (h0.mono hle118) ht; exact h) ?_
    rintro _ H177 _ (⟨hn171, hle173, rfl, rfl⟩ | ⟨sp161, hn174, hle176, b162, v163, v165, xs166, v168, xs169, rfl, rfl, h164, h167, h170⟩)
    · have hm := optC_n hn171 hm
      refine W_move rfl rfl rfl ?_
      refine W_extract rfl rfl rfl rfl ?_
      refine W_extract rfl rfl rfl rfl ?_
      refine W_assign rfl rfl rfl ?_
      refine W_assign rfl rfl rfl ?_
      refine W_end ?_
      refine E_then ?_
      refine C_seq ?_
      refine C_seq_join (fun H' M' L' => H177 = H' ∧ .obj b104 (.cells [v105, v107, v110].toArray 58 (0, 0)) :: .row v107 3 (Rep.sz Int) sp103.count.length xs108 :: .row v110 3 (Rep.sz Int) sp103.acted.length xs111 :: M = M' ∧ [(0, v0), (1, v1), (5, .pointer (some ⟨b104, 0, none⟩)), (6, .int .i64 (r101.2)), (7, .pointer none), (8, .int .i64 (r159.2)), (38, .bool (true))] = L') ?_ (fun J179 => ?_)
      · rintro _ _ _ ⟨rfl, rfl, rfl⟩
        refine C_cond (b := true) rfl (fun _ => ?_) (fun hb => Bool.noConfusion hb)
        obtain ⟨r183, hc184, hm⟩ := bind_some hm
        refine C_seq_join (fun H' M' L' => H177 = H' ∧ M = M' ∧ [(4, .bool (false))] = L') ?_ (fun J185 => ?_)
        · rintro _ _ _ ⟨rfl, rfl, rfl⟩
          refine C_ret ?_
          refine E_ret_then ?_
          obtain rfl := Option.some.inj hm
          refine E_weak (Hp.le_trans hle118 hle173) ?_
          exact end1 rfl rfl ⟨rfl, rfl, rfl⟩
        · refine C_region ?_
          refine W_call Proofs.Try.call16 rfl rfl rfl (fun w ht => by have h := m_gridhallkeep4_shedFact_c (hm := hc184)  ht; exact h) ?_
          rintro _ _ _ ⟨rfl, rfl, rfl⟩
          refine W_move rfl rfl rfl ?_
          cases hb186 : (r183)
          · refine W_no rfl rfl rfl ?_
            refine W_no rfl rfl rfl ?_
            refine W_pick rfl rfl rfl rfl ?_
            refine W_move rfl rfl rfl ?_
            refine W_no rfl rfl rfl ?_
            refine W_no rfl rfl rfl ?_
            refine W_no rfl rfl rfl ?_
            refine W_pick rfl rfl rfl rfl ?_
            refine W_assign rfl rfl rfl ?_
            refine W_end ?_
            refine E_drop (List.Sublist.cons _ (List.Sublist.cons _ (List.Sublist.cons _ (List.Sublist.refl _)))) ?_
            exact E_keepJ (J185 _ _ _ ⟨rfl, rfl, rfl⟩) (List.Perm.refl _) ⟨rfl, trivial⟩
          · refine W_move rfl rfl rfl ?_
            refine W_ptrNil rfl rfl Proofs.Try.runUnderlying36 rfl rfl ?_
            refine W_pick rfl rfl rfl rfl ?_
            refine W_move rfl rfl rfl ?_
            refine W_no rfl rfl rfl ?_
            refine W_no rfl rfl rfl ?_
            refine W_no rfl rfl rfl ?_
            refine W_pick rfl rfl rfl rfl ?_
            refine W_assign rfl rfl rfl ?_
            refine W_end ?_
            refine E_drop (List.Sublist.cons _ (List.Sublist.cons _ (List.Sublist.cons _ (List.Sublist.refl _)))) ?_
            exact E_keepJ (J185 _ _ _ ⟨rfl, rfl, rfl⟩) (List.Perm.refl _) ⟨rfl, trivial⟩
      · refine C_region ?_
        refine W_move rfl rfl rfl ?_
        refine W_bin rfl rfl rfl rfl rfl ?_
        refine W_move rfl rfl rfl ?_
        cases hb187 : (decide (r101.2 = 0))
        · refine W_no rfl rfl rfl ?_
          refine W_no rfl rfl rfl ?_
          refine W_pick rfl rfl rfl rfl ?_
          refine W_move rfl rfl rfl ?_
          refine W_no rfl rfl rfl ?_
          refine W_no rfl rfl rfl ?_
          refine W_pick rfl rfl rfl rfl ?_
          refine W_end ?_
          exact E_keepJ (J179 _ _ _ ⟨rfl, rfl, rfl⟩) (List.Perm.refl _) ⟨rfl, rfl, rfl, rfl, rfl, rfl, rfl, trivial⟩
        · refine W_move rfl rfl rfl ?_
          refine W_ptrNil rfl rfl Proofs.Try.runUnderlying36 rfl rfl ?_
          refine W_pick rfl rfl rfl rfl ?_
          refine W_move rfl rfl rfl ?_
          refine W_move rfl rfl rfl ?_
          refine W_ptrNil rfl rfl Proofs.Try.runUnderlying36 rfl rfl ?_
          refine W_pick rfl rfl rfl rfl ?_
          refine W_end ?_
          exact E_keepJ (J179 _ _ _ ⟨rfl, rfl, rfl⟩) (List.Perm.refl _) ⟨rfl, rfl, rfl, rfl, rfl, rfl, rfl, trivial⟩
    · have hm := optC_s hn174 hm
      refine W_move rfl rfl rfl ?_
      refine W_extract rfl rfl rfl rfl ?_
      refine W_extract rfl rfl rfl rfl ?_
      refine W_assign rfl rfl rfl ?_
      refine W_assign rfl rfl rfl ?_
      refine W_end ?_
      refine E_then ?_
      refine C_seq ?_
      refine C_seq_join (fun H' M' L' => H177 = H' ∧ .obj b162 (.cells [v163, v165, v168].toArray 58 (0, 0)) :: .row v165 3 (Rep.sz Int) sp161.count.length xs166 :: .row v168 3 (Rep.sz Int) sp161.acted.length xs169 :: .obj b104 (.cells [v105, v107, v110].toArray 58 (0, 0)) :: .row v107 3 (Rep.sz Int) sp103.count.length xs108 :: .row v110 3 (Rep.sz Int) sp103.acted.length xs111 :: M = M' ∧ [(0, v0), (1, v1), (5, .pointer (some ⟨b104, 0, none⟩)), (6, .int .i64 (r101.2)), (7, .pointer (some ⟨b162, 0, none⟩)), (8, .int .i64 (r159.2)), (38, .bool (!decide (r101.2 = 0)))] = L') ?_ (fun J189 => ?_)
      · rintro _ _ _ ⟨rfl, rfl, rfl⟩
        refine C_cond (b := !decide (r101.2 = 0)) rfl (fun hb190 => ?_) (fun hb190 => ?_)
        · have hm := ite_t' hb190 hm
          obtain ⟨r194, hc195, hm⟩ := bind_some hm
          refine C_seq_join (fun H' M' L' => H177 = H' ∧ M = M' ∧ [(4, .bool (false))] = L') ?_ (fun J196 => ?_)
          · rintro _ _ _ ⟨rfl, rfl, rfl⟩
            refine C_ret ?_
            refine E_ret_then ?_
            obtain rfl := Option.some.inj hm
            refine E_weak (Hp.le_trans hle118 hle176) ?_
            exact end1 rfl rfl ⟨rfl, rfl, rfl⟩
          · refine C_region ?_
            refine W_call Proofs.Try.call16 rfl rfl rfl (fun w ht => by have h := m_gridhallkeep4_shedFact_c (hm := hc195)  ht; exact h) ?_
            rintro _ _ _ ⟨rfl, rfl, rfl⟩
            refine W_move rfl rfl rfl ?_
            cases hb197 : (r194)
            · refine W_no rfl rfl rfl ?_
              refine W_no rfl rfl rfl ?_
              refine W_pick rfl rfl rfl rfl ?_
              refine W_move rfl rfl rfl ?_
              refine W_no rfl rfl rfl ?_
              refine W_no rfl rfl rfl ?_
              refine W_no rfl rfl rfl ?_
              refine W_pick rfl rfl rfl rfl ?_
              refine W_assign rfl rfl rfl ?_
              refine W_end ?_
              refine E_drop (List.Sublist.cons _ (List.Sublist.cons _ (List.Sublist.cons _ (List.Sublist.cons _ (List.Sublist.cons _ (List.Sublist.cons _ (List.Sublist.refl _))))))) ?_
              exact E_keepJ (J196 _ _ _ ⟨rfl, rfl, rfl⟩) (List.Perm.refl _) ⟨rfl, trivial⟩
            · refine W_move rfl rfl rfl ?_
              refine W_ptrNil rfl rfl Proofs.Try.runUnderlying36 rfl rfl ?_
              refine W_pick rfl rfl rfl rfl ?_
              refine W_move rfl rfl rfl ?_
              refine W_no rfl rfl rfl ?_
              refine W_no rfl rfl rfl ?_
              refine W_no rfl rfl rfl ?_
              refine W_pick rfl rfl rfl rfl ?_
              refine W_assign rfl rfl rfl ?_
              refine W_end ?_
              refine E_drop (List.Sublist.cons _ (List.Sublist.cons _ (List.Sublist.cons _ (List.Sublist.cons _ (List.Sublist.cons _ (List.Sublist.cons _ (List.Sublist.refl _))))))) ?_
              exact E_keepJ (J196 _ _ _ ⟨rfl, rfl, rfl⟩) (List.Perm.refl _) ⟨rfl, trivial⟩
        · have hm := ite_f' hb190 hm
          refine C_skip ?_
          refine E_then ?_
          refine C_seq ?_
          refine C_seq ?_
          refine C_region ?_
          refine W_move rfl rfl rfl ?_
          refine W_move rfl rfl rfl ?_
          refine W_lenR rfl rfl Proofs.Try.runUnderlying35 rfl ((h1.mono hle118).mono hle176) ?_
          refine W_min rfl rfl rfl rfl ?_
          obtain ⟨hz198, hm⟩ := need_some hm
          refine W_sliceR (α := Int) (l := 0) (h := (min (frequencies.length : Int) 20 : Int).toNat) (xs := frequencies) rfl rfl Proofs.Try.runUnderlying35 Proofs.Try.sizeOf3 rfl ((h1.mono hle118).mono hle176) (by omega) (by omega) (.inl rfl) (fun cap hcap => by rw [if_pos rfl]; exact (.inl ⟨rfl, rfl⟩)) (fun m hmm => (.inr ⟨_, _, _, rfl, rfl, by omega, by omega, rfl⟩)) (.inl ⟨rfl, rfl⟩) ?_
          intro v199 h200 hc201
          refine W_lenR rfl rfl Proofs.Try.runUnderlying35 rfl h200 ?_
          refine W_move rfl rfl rfl ?_
          refine W_end ?_
          refine E_then ?_
          refine C_block ?_
          refine C_keep (L' := [(0, v0), (5, .pointer (some ⟨b104, 0, none⟩)), (7, .pointer (some ⟨b162, 0, none⟩)), (53, v199), (54, .int .i64 (((slc frequencies 0 ((min (frequencies.length : Int) 20 : Int).toNat)).length : Int))), (55, .int .i64 (((0 : Nat) : Int)))]) ⟨rfl, rfl, rfl, rfl, rfl, rfl, trivial⟩ (List.Perm.trans (List.Perm.swap _ _ _) (List.Perm.trans (List.Perm.cons _ (List.Perm.swap _ _ _)) (List.Perm.trans (List.Perm.cons _ (List.Perm.cons _ (List.Perm.cons _ (List.Perm.swap _ _ _)))) (List.Perm.trans (List.Perm.cons _ (List.Perm.cons _ (List.Perm.swap _ _ _))) (List.Perm.trans (List.Perm.cons _ (List.Perm.cons _ (List.Perm.cons _ (List.Perm.cons _ (List.Perm.swap _ _ _))))) (List.Perm.cons _ (List.Perm.cons _ (List.Perm.cons _ (List.Perm.swap _ _ _))))))))) ?_
          refine C_loop (fun n H' M' L' => ∃ (k202 : Nat) (zs389' : List Int), ∃ l362 : (List S_api_ShedStage), ∃ l366 : List Int, ∃ l370 : List Int, ∃ l373 : (List S_api_ShedStage), ∃ l377 : List Int, ∃ l381 : List Int, ∃ v361 : Value, ∃ v364 : Value, ∃ xs365 : List Value, ∃ v368 : Value, ∃ xs369 : List Value, ∃ v372 : Value, ∃ v375 : Value, ∃ xs376 : List Value, ∃ v379 : Value, ∃ xs380 : List Value, (slc frequencies 0 ((min (frequencies.length : Int) 20 : Int).toNat)).drop k202 = zs389' ∧ zs389'.length = n ∧ forI (fun k y s n => m_gridhallkeep4_ShedCalm_b3 p0_l k y s.1 s.2.1 s.2.2.1 s.2.2.2.1 s.2.2.2.2.1 s.2.2.2.2.2 n) (fun s => (m_shed_Shed_Off (S_shed_Shed.mk s.2.2.2.1 s.2.2.2.2.1 s.2.2.2.2.2)).bind fun r449 => forI (fun k y s n => m_gridhallkeep4_ShedCalm_b7 p0_l r449 k y n) (fun _ => (m_gridhallkeep4_shedFact).bind fun r715 => if r715 then ((m_shed_Shed_Off (S_shed_Shed.mk s.1 s.2.1 s.2.2.1)).bind fun r718 => some (decide ((r718.length : Int) = 0))) else (some false)) 0 p0_l ()) k202 zs389' (l362, l366, l370, l373, l377, l381) = some r ∧ RdS H' v361 l362 ∧ Rw H' v364 xs365 l366 ∧ Rw H' v368 xs369 l370 ∧ RdS H' v372 l373 ∧ Rw H' v375 xs376 l377 ∧ Rw H' v379 xs380 l381 ∧ H177.le H' ∧ .row v364 3 (Rep.sz Int) l366.length xs365 :: .row v368 3 (Rep.sz Int) l370.length xs369 :: .row v375 3 (Rep.sz Int) l377.length xs376 :: .row v379 3 (Rep.sz Int) l381.length xs380 :: .obj b162 (.cells [v361, v364, v368].toArray 58 (0, 0)) :: .obj b104 (.cells [v372, v375, v379].toArray 58 (0, 0)) :: M = M' ∧ [(0, v0), (5, .pointer (some ⟨b104, 0, none⟩)), (7, .pointer (some ⟨b162, 0, none⟩)), (53, v199), (54, .int .i64 (((slc frequencies 0 ((min (frequencies.length : Int) 20 : Int).toNat)).length : Int))), (55, .int .i64 ((k202 : Int)))] = L') _ ⟨0, _, sp161.stages, sp161.count, sp161.acted, sp103.stages, sp103.count, sp103.acted, v163, v165, xs166, v168, xs169, v105, v107, xs108, v110, xs111, rfl, rfl, hm, h164, h167, h170, (h106.mono hle176), (h109.mono hle176), (h112.mono hle176), (Hp.le_refl _), rfl, rfl⟩ ?_
          rintro _ H383 _ _ ⟨k202, zs389', l362, l366, l370, l373, l377, l381, v361, v364, xs365, v368, xs369, v372, v375, xs376, v379, xs380, hd391, rfl, hm, h363, hr367, hr371, h374, hr378, hr382, hle384, rfl, rfl⟩
          refine C_seq ?_
          refine C_region ?_
          refine W_bin rfl rfl rfl rfl rfl ?_
          refine W_end (E_then ?_)
          refine C_seq ?_
          refine C_cond (b := decide ((k202 : Int) < ((slc frequencies 0 ((min (frequencies.length : Int) 20 : Int).toNat)).length : Int))) rfl (fun hb393 => ?_) (fun hb393 => ?_)
          · obtain ⟨y388, zs389, rfl, hy390, hd392⟩ := rng_t hd391 hb393
            have hm : m_gridhallkeep4_ShedCalm_b3 p0_l k202 y388 l362 l366 l370 l373 l377 l381 (forI (fun k y s n => m_gridhallkeep4_ShedCalm_b3 p0_l k y s.1 s.2.1 s.2.2.1 s.2.2.2.1 s.2.2.2.2.1 s.2.2.2.2.2 n) (fun s => (m_shed_Shed_Off (S_shed_Shed.mk s.2.2.2.1 s.2.2.2.2.1 s.2.2.2.2.2)).bind fun r449 => forI (fun k y s n => m_gridhallkeep4_ShedCalm_b7 p0_l r449 k y n) (fun _ => (m_gridhallkeep4_shedFact).bind fun r715 => if r715 then ((m_shed_Shed_Off (S_shed_Shed.mk s.1 s.2.1 s.2.2.1)).bind fun r718 => some (decide ((r718.length : Int) = 0))) else (some false)) 0 p0_l ()) (k202 + 1) zs389) = some r := hm
            generalize hn386 : forI (fun k y s n => m_gridhallkeep4_ShedCalm_b3 p0_l k y s.1 s.2.1 s.2.2.1 s.2.2.2.1 s.2.2.2.2.1 s.2.2.2.2.2 n) (fun s => (m_shed_Shed_Off (S_shed_Shed.mk s.2.2.2.1 s.2.2.2.2.1 s.2.2.2.2.2)).bind fun r449 => forI (fun k y s n => m_gridhallkeep4_ShedCalm_b7 p0_l r449 k y n) (fun _ => (m_gridhallkeep4_shedFact).bind fun r715 => if r715 then ((m_shed_Shed_Off (S_shed_Shed.mk s.1 s.2.1 s.2.2.1)).bind fun r718 => some (decide ((r718.length : Int) = 0))) else (some false)) 0 p0_l ()) (k202 + 1) zs389 = nx385 at hm
            unfold m_gridhallkeep4_ShedCalm_b3 at hm
            refine C_skip (E_then ?_)
            refine C_seq ?_
            refine C_block ?_
            refine C_seq ?_
            refine C_region ?_
            obtain ⟨_, rfl, hc394⟩ := (h200).elem hy390
            refine W_indexS rfl rfl Proofs.Try.runUnderlying35 Proofs.Try.sizeOf3 rfl (h200.mono hle384) rfl (Int.natCast_nonneg _) hy390 ?_
            refine W_load rfl rfl Proofs.Try.isAgg3 rfl (HCells.one (hc394.mono hle384) 0 rfl).at ?_
            refine W_assign rfl rfl rfl ?_
            refine W_end ?_
            refine E_then ?_
            refine C_seq ?_
            refine C_region ?_
            refine W_move rfl rfl rfl ?_
            obtain ⟨r395, hc396, hm⟩ := bind_some hm
            refine W_call Proofs.Try.call9 rfl rfl rfl (fun w ht => by have h := m_gridhallref4_Cut_c (hm := hc396)  ht; exact h) ?_
            rintro _ _ _ ⟨rfl, rfl, rfl⟩
            refine W_assign rfl rfl rfl ?_
            refine W_end ?_
            refine E_then ?_
            refine C_seq ?_
            refine C_region ?_
            refine W_move rfl rfl rfl ?_
            refine W_move rfl rfl rfl ?_
            refine W_perm (List.Perm.trans (List.Perm.cons _ (List.Perm.cons _ (List.Perm.cons _ (List.Perm.cons _ (List.Perm.swap _ _ _))))) (List.Perm.trans (List.Perm.cons _ (List.Perm.cons _ (List.Perm.cons _ (List.Perm.swap _ _ _)))) (List.Perm.trans (List.Perm.cons _ (List.Perm.cons _ (List.Perm.swap _ _ _))) (List.Perm.trans (List.Perm.cons _ (List.Perm.swap _ _ _)) (List.Perm.trans (List.Perm.swap _ _ _) (List.Perm.trans (List.Perm.cons _ (List.Perm.cons _ (List.Perm.swap _ _ _))) (List.Perm.trans (List.Perm.cons _ (List.Perm.swap _ _ _)) (List.Perm.trans (List.Perm.cons _ (List.Perm.cons _ (List.Perm.cons _ (List.Perm.swap _ _ _)))) (List.Perm.cons _ (List.Perm.cons _ (List.Perm.swap _ _ _))))))))))) ?_
            obtain ⟨r397, hc398, hm⟩ := bind_some hm
            refine W_call Proofs.Try.call17 rfl rfl rfl (fun w ht => by have h := m_shed_Shed_Step_c (hm := hc398) h374 hr378 hr382 ht; exact h) ?_
            rintro _ H411 _ ⟨hle412, v399, xs400, v403, v405, xs406, v408, xs409, rfl, rfl, h401, h404, h407, h410⟩
            refine W_end ?_
            refine E_then ?_
            refine C_seq ?_
            refine C_region ?_
            refine W_move rfl rfl rfl ?_
            refine W_assign rfl rfl rfl ?_
            refine W_end ?_
            refine E_then ?_
            refine C_seq_join (fun H' M' L' => ∃ n420 : Int, m_gridhallkeep4_ShedCalm_b4 l362 l366 l370 nx385 r397 n420 = some r ∧ H411 = H' ∧ .obj b104 (.cells [v403, v405, v408].toArray 58 (0, 0)) :: .row v405 3 (Rep.sz Int) r397.2.2.count.length xs406 :: .row v408 3 (Rep.sz Int) r397.2.2.acted.length xs409 :: .row v364 3 (Rep.sz Int) l366.length xs365 :: .row v368 3 (Rep.sz Int) l370.length xs369 :: .obj b162 (.cells [v361, v364, v368].toArray 58 (0, 0)) :: M = M' ∧ [(0, v0), (5, .pointer (some ⟨b104, 0, none⟩)), (7, .pointer (some ⟨b162, 0, none⟩)), (11, .int .i64 (n420)), (53, v199), (54, .int .i64 (((slc frequencies 0 ((min (frequencies.length : Int) 20 : Int).toNat)).length : Int))), (55, .int .i64 ((k202 : Int)))] = L') ?_ (fun J421 => ?_)
            · rintro _ _ _ ⟨n420, hm, rfl, rfl, rfl⟩
              unfold m_gridhallkeep4_ShedCalm_b4 at hm
              refine C_seq ?_
              refine C_region ?_
              refine W_move rfl rfl rfl ?_
              refine W_move rfl rfl rfl ?_
              refine W_perm (List.Perm.trans (List.Perm.cons _ (List.Perm.cons _ (List.Perm.cons _ (List.Perm.cons _ (List.Perm.swap _ _ _))))) (List.Perm.trans (List.Perm.cons _ (List.Perm.cons _ (List.Perm.cons _ (List.Perm.swap _ _ _)))) (List.Perm.trans (List.Perm.cons _ (List.Perm.cons _ (List.Perm.swap _ _ _))) (List.Perm.trans (List.Perm.cons _ (List.Perm.swap _ _ _)) (List.Perm.trans (List.Perm.swap _ _ _) (List.Perm.trans (List.Perm.cons _ (List.Perm.cons _ (List.Perm.cons _ (List.Perm.swap _ _ _)))) (List.Perm.trans (List.Perm.cons _ (List.Perm.cons _ (List.Perm.swap _ _ _))) (List.Perm.trans (List.Perm.cons _ (List.Perm.swap _ _ _)) (List.Perm.trans (List.Perm.cons _ (List.Perm.cons _ (List.Perm.cons _ (List.Perm.cons _ (List.Perm.swap _ _ _))))) (List.Perm.trans (List.Perm.cons _ (List.Perm.cons _ (List.Perm.cons _ (List.Perm.swap _ _ _)))) (List.Perm.cons _ (List.Perm.cons _ (List.Perm.swap _ _ _))))))))))))) ?_
              obtain ⟨r422, hc423, hm⟩ := bind_some hm
              refine W_call Proofs.Try.call17 rfl rfl rfl (fun w ht => by have h := m_shed_Shed_Step_c (hm := hc423) (h363.mono hle412) (hr367.mono hle412) (hr371.mono hle412) ht; exact h) ?_
              rintro _ H436 _ ⟨hle437, v424, xs425, v428, v430, xs431, v433, xs434, rfl, rfl, h426, h429, h432, h435⟩
              refine W_move rfl rfl rfl ?_
              refine W_extract rfl rfl rfl rfl ?_
              refine W_extract rfl rfl rfl rfl ?_
              refine W_assign rfl rfl rfl ?_
              refine W_assign rfl rfl rfl ?_
              refine W_end ?_
              refine E_then ?_
              refine C_seq_join (fun H' M' L' => H436 = H' ∧ .obj b162 (.cells [v428, v430, v433].toArray 58 (0, 0)) :: .row v430 3 (Rep.sz Int) r422.2.2.count.length xs431 :: .row v433 3 (Rep.sz Int) r422.2.2.acted.length xs434 :: .obj b104 (.cells [v403, v405, v408].toArray 58 (0, 0)) :: .row v405 3 (Rep.sz Int) r397.2.2.count.length xs406 :: .row v408 3 (Rep.sz Int) r397.2.2.acted.length xs409 :: M = M' ∧ [(0, v0), (5, .pointer (some ⟨b104, 0, none⟩)), (7, .pointer (some ⟨b162, 0, none⟩)), (53, v199), (54, .int .i64 (((slc frequencies 0 ((min (frequencies.length : Int) 20 : Int).toNat)).length : Int))), (55, .int .i64 ((k202 : Int))), (86, .bool ((!decide (r422.2.1 = 0)) || (decide (0 < (r422.1.length : Int)))))] = L') ?_ (fun J439 => ?_)
              · rintro _ _ _ ⟨rfl, rfl, rfl⟩
                refine C_cond (b := (!decide (r422.2.1 = 0)) || (decide (0 < (r422.1.length : Int)))) rfl (fun hb440 => ?_) (fun hb440 => ?_)
                · have hm := ite_t' hb440 hm
                  refine C_seq ?_
                  refine C_region ?_
                  refine W_assign rfl rfl rfl ?_
                  refine W_end ?_
                  refine E_then ?_
                  refine C_ret ?_
                  refine E_ret_block ?_
                  refine E_ret_then ?_
                  refine E_ret_then ?_
                  refine E_ret_block ?_
                  refine E_ret_then ?_
                  obtain rfl := Option.some.inj hm
                  refine E_drop (List.Sublist.cons _ (List.Sublist.cons _ (List.Sublist.cons _ (List.Sublist.cons _ (List.Sublist.cons _ (List.Sublist.cons _ (List.Sublist.refl _))))))) ?_
                  refine E_weak (Hp.le_trans (Hp.le_trans (Hp.le_trans (Hp.le_trans hle118 hle176) hle384) hle412) hle437) ?_
                  exact end1 rfl rfl ⟨rfl, rfl, rfl⟩
                · have hm := ite_f' hb440 hm
                  refine C_skip ?_
                  refine E_normal_block ?_
                  refine E_then ?_
                  refine C_region ?_
                  refine W_bin rfl rfl rfl rfl rfl ?_
                  refine W_move rfl rfl rfl ?_
                  refine W_end ?_
                  exact E_keepJ (E_back (Nat.lt_succ_self _) ⟨k202 + 1, zs389, r422.2.2.stages, r422.2.2.count, r422.2.2.acted, r397.2.2.stages, r397.2.2.count, r397.2.2.acted, v428, v430, xs431, v433, xs434, v403, v405, xs406, v408, xs409, hd392, rfl, (by rw [hn386]; exact hm), h429, h432, h435, (h404.mono hle437), (h407.mono hle437), (h410.mono hle437), (Hp.le_trans (Hp.le_trans hle384 hle412) hle437), rfl, rfl⟩) (List.Perm.trans (List.Perm.swap _ _ _) (List.Perm.trans (List.Perm.cons _ (List.Perm.swap _ _ _)) (List.Perm.trans (List.Perm.cons _ (List.Perm.cons _ (List.Perm.cons _ (List.Perm.swap _ _ _)))) (List.Perm.trans (List.Perm.cons _ (List.Perm.cons _ (List.Perm.swap _ _ _))) (List.Perm.trans (List.Perm.cons _ (List.Perm.cons _ (List.Perm.cons _ (List.Perm.cons _ (List.Perm.swap _ _ _))))) (List.Perm.cons _ (List.Perm.cons _ (List.Perm.cons _ (List.Perm.swap _ _ _))))))))) ⟨rfl, rfl, rfl, rfl, rfl, (congrArg (fun z => some (Value.int .i64 z)) (i64_succ hy390 ((h200.mono hle384)).lenMax)), trivial⟩
              · refine C_region ?_
                refine W_move rfl rfl rfl ?_
                refine W_bin rfl rfl rfl rfl rfl ?_
                refine W_move rfl rfl rfl ?_
                cases hb441 : (decide (r422.2.1 = 0))
                · refine W_no rfl rfl rfl ?_
                  refine W_no rfl rfl rfl ?_
                  refine W_no rfl rfl rfl ?_
                  refine W_pick rfl rfl rfl rfl ?_
                  refine W_end ?_
                  refine E_drop (List.Sublist.cons _ (List.Sublist.refl _)) ?_
                  exact E_keepJ (J439 _ _ _ ⟨rfl, rfl, rfl⟩) (List.Perm.refl _) ⟨rfl, rfl, rfl, rfl, rfl, rfl, (by show some (Value.bool (true)) = some (Value.bool ((!decide (r422.2.1 = 0)) || (decide (0 < (r422.1.length : Int))))); simp only [hb190, hb441, Bool.and_true, Bool.true_and, Bool.false_and, Bool.and_false, Bool.or_true, Bool.true_or, Bool.or_false, Bool.false_or, Bool.not_true, Bool.not_false]), trivial⟩
                · refine W_move rfl rfl rfl ?_
                  refine W_lenO (List.mem_cons_self ..) rfl rfl Proofs.Try.runUnderlying39 rfl ?_
                  refine W_bin rfl rfl rfl rfl rfl ?_
                  refine W_pick rfl rfl rfl rfl ?_
                  refine W_end ?_
                  refine E_drop (List.Sublist.cons _ (List.Sublist.refl _)) ?_
                  exact E_keepJ (J439 _ _ _ ⟨rfl, rfl, rfl⟩) (List.Perm.refl _) ⟨rfl, rfl, rfl, rfl, rfl, rfl, (by show some (Value.bool (decide (0 < (r422.1.length : Int)))) = some (Value.bool ((!decide (r422.2.1 = 0)) || (decide (0 < (r422.1.length : Int))))); simp only [hb190, hb441, Bool.and_true, Bool.true_and, Bool.false_and, Bool.and_false, Bool.or_true, Bool.true_or, Bool.or_false, Bool.false_or, Bool.not_true, Bool.not_false]), trivial⟩
            · refine C_seq ?_
              refine C_region ?_
              refine W_move rfl rfl rfl ?_
              refine W_lenR rfl rfl Proofs.Try.runUnderlying34 rfl ((((h0.mono hle118).mono hle176).mono hle384).mono hle412) ?_
              refine W_bin rfl rfl rfl rfl rfl ?_
              refine W_end ?_
              refine E_then ?_
              refine C_cond (b := decide (0 < (p0_l.length : Int))) rfl (fun hb442 => ?_) (fun hb442 => ?_)
              · have hm := ite_t' hb442 hm
                refine C_region ?_
                refine W_move rfl rfl rfl ?_
                refine W_move rfl rfl rfl ?_
                obtain ⟨y443, h444, he445, hm⟩ := idx_some hm
                obtain ⟨_, ⟨v447, rfl, h448⟩, hc446⟩ := (h0).elem he445
                refine W_indexS rfl rfl Proofs.Try.runUnderlying34 Proofs.Try.sizeOf43 rfl ((((h0.mono hle118).mono hle176).mono hle384).mono hle412) rfl h444 he445 ?_
                refine W_field (o := 0) rfl rfl Proofs.Try.runUnderlying43 rfl Proofs.Try.sizeOf3 rfl rfl rfl ?_
                refine W_load rfl rfl Proofs.Try.isAgg3 rfl (HCells.one ((((hc446.mono hle118).mono hle176).mono hle384).mono hle412) 0 rfl).at ?_
                refine W_max rfl rfl rfl rfl ?_
                refine W_assign rfl rfl rfl ?_
                refine W_end ?_
                refine E_drop (List.Sublist.cons _ (List.Sublist.refl _)) ?_
                exact E_keepJ (J421 _ _ _ ⟨max r395 y443.Below, hm, rfl, rfl, rfl⟩) (List.Perm.refl _) ⟨rfl, rfl, rfl, rfl, rfl, rfl, rfl, trivial⟩
              · have hm := ite_f' hb442 hm
                refine C_skip ?_
                refine E_drop (List.Sublist.cons _ (List.Sublist.refl _)) ?_
                exact E_keepJ (J421 _ _ _ ⟨r395, hm, rfl, rfl, rfl⟩) (List.Perm.refl _) ⟨rfl, rfl, rfl, rfl, rfl, rfl, rfl, trivial⟩
          · obtain rfl := rng_f hd391 hb393
            have hm : ((m_shed_Shed_Off (S_shed_Shed.mk l373 l377 l381)).bind fun r449 => forI (fun k y s n => m_gridhallkeep4_ShedCalm_b7 p0_l r449 k y n) (fun _ => (m_gridhallkeep4_shedFact).bind fun r715 => if r715 then ((m_shed_Shed_Off (S_shed_Shed.mk l362 l366 l370)).bind fun r718 => some (decide ((r718.length : Int) = 0))) else (some false)) 0 p0_l ()) = some r := hm
            refine C_exit (E_exit_then ?_)
            refine E_exit_then ?_
            refine E_exit_hit ?_
            refine E_then ?_
            refine C_seq ?_
            refine C_region ?_
            refine W_move rfl rfl rfl ?_
            refine W_perm (List.Perm.trans (List.Perm.cons _ (List.Perm.cons _ (List.Perm.cons _ (List.Perm.cons _ (List.Perm.swap _ _ _))))) (List.Perm.trans (List.Perm.cons _ (List.Perm.cons _ (List.Perm.cons _ (List.Perm.swap _ _ _)))) (List.Perm.trans (List.Perm.cons _ (List.Perm.cons _ (List.Perm.swap _ _ _))) (List.Perm.trans (List.Perm.cons _ (List.Perm.swap _ _ _)) (List.Perm.trans (List.Perm.swap _ _ _) (List.Perm.trans (List.Perm.cons _ (List.Perm.cons _ (List.Perm.swap _ _ _))) (List.Perm.trans (List.Perm.cons _ (List.Perm.swap _ _ _)) (List.Perm.trans (List.Perm.cons _ (List.Perm.cons _ (List.Perm.cons _ (List.Perm.swap _ _ _)))) (List.Perm.cons _ (List.Perm.cons _ (List.Perm.swap _ _ _))))))))))) ?_
            obtain ⟨r449, hc450, hm⟩ := bind_some hm
            refine W_call Proofs.Try.call18 rfl rfl rfl (fun w ht => by have h := m_shed_Shed_Off_c (hm := hc450) h374 hr378 hr382 ht; exact h) ?_
            rintro _ _ _ ⟨rfl, v451, xs452, rfl, rfl, h453⟩
            have h453 := h453 H383
            refine W_assign rfl rfl rfl ?_
            refine W_end ?_
            refine E_then ?_
            refine C_seq ?_
            refine C_seq ?_
            refine C_region ?_
            refine W_move rfl rfl rfl ?_
            refine W_lenR rfl rfl Proofs.Try.runUnderlying34 rfl (((h0.mono hle118).mono hle176).mono hle384) ?_
            refine W_move rfl rfl rfl ?_
            refine W_end ?_
            refine E_then ?_
            refine C_block ?_
            refine C_drop (List.Sublist.cons_cons _ (List.Sublist.cons _ (List.Sublist.cons _ (List.Sublist.cons _ (List.Sublist.refl _))))) ?_
            refine C_keep (L' := [(0, v0), (7, .pointer (some ⟨b162, 0, none⟩)), (14, v451), (90, v0), (91, .int .i64 ((p0_l.length : Int))), (92, .int .i64 (((0 : Nat) : Int)))]) ⟨rfl, rfl, rfl, rfl, rfl, rfl, trivial⟩ (List.Perm.refl _) ?_
            refine C_loop (fun n H' M' L' => ∃ (k454 : Nat) (zs627' : List S_api_ShedStage), (p0_l).drop k454 = zs627' ∧ zs627'.length = n ∧ forI (fun k y s n => m_gridhallkeep4_ShedCalm_b7 p0_l r449 k y n) (fun _ => (m_gridhallkeep4_shedFact).bind fun r715 => if r715 then ((m_shed_Shed_Off (S_shed_Shed.mk l362 l366 l370)).bind fun r718 => some (decide ((r718.length : Int) = 0))) else (some false)) k454 zs627' () = some r ∧ H383.le H' ∧ .row v451 9 (Rep.sz ByteArray) r449.length xs452 :: .row v364 3 (Rep.sz Int) l366.length xs365 :: .row v368 3 (Rep.sz Int) l370.length xs369 :: .obj b162 (.cells [v361, v364, v368].toArray 58 (0, 0)) :: M = M' ∧ [(0, v0), (7, .pointer (some ⟨b162, 0, none⟩)), (14, v451), (90, v0), (91, .int .i64 ((p0_l.length : Int))), (92, .int .i64 ((k454 : Int)))] = L') _ ⟨0, _, rfl, rfl, hm, (Hp.le_refl _), rfl, rfl⟩ ?_
            rintro _ H621 _ _ ⟨k454, zs627', hd629, rfl, hm, hle622, rfl, rfl⟩
            refine C_seq ?_
            refine C_region ?_
            refine W_bin rfl rfl rfl rfl rfl ?_
            refine W_end (E_then ?_)
            refine C_seq ?_
            refine C_cond (b := decide ((k454 : Int) < (p0_l.length : Int))) rfl (fun hb631 => ?_) (fun hb631 => ?_)
            · obtain ⟨y626, zs627, rfl, hy628, hd630⟩ := rng_t hd629 hb631
              have hm : m_gridhallkeep4_ShedCalm_b7 p0_l r449 k454 y626 (forI (fun k y s n => m_gridhallkeep4_ShedCalm_b7 p0_l r449 k y n) (fun _ => (m_gridhallkeep4_shedFact).bind fun r715 => if r715 then ((m_shed_Shed_Off (S_shed_Shed.mk l362 l366 l370)).bind fun r718 => some (decide ((r718.length : Int) = 0))) else (some false)) (k454 + 1) zs627) = some r := hm
              generalize hn624 : forI (fun k y s n => m_gridhallkeep4_ShedCalm_b7 p0_l r449 k y n) (fun _ => (m_gridhallkeep4_shedFact).bind fun r715 => if r715 then ((m_shed_Shed_Off (S_shed_Shed.mk l362 l366 l370)).bind fun r718 => some (decide ((r718.length : Int) = 0))) else (some false)) (k454 + 1) zs627 = nx623 at hm
              unfold m_gridhallkeep4_ShedCalm_b7 at hm
              refine C_skip (E_then ?_)
              refine C_seq ?_
              refine C_block ?_
              refine C_seq ?_
              refine C_region ?_
              refine W_move rfl rfl rfl ?_
              obtain ⟨_, ⟨v633, rfl, h634⟩, hc632⟩ := (h0).elem hy628
              refine W_indexS rfl rfl Proofs.Try.runUnderlying34 Proofs.Try.sizeOf43 rfl ((((h0.mono hle118).mono hle176).mono hle384).mono hle622) rfl (Int.natCast_nonneg _) hy628 ?_
              refine W_loadAgg rfl rfl Proofs.Try.isAgg43 Proofs.Try.sizeOf43 rfl ((((hc632.mono hle118).mono hle176).mono hle384).mono hle622).at rfl ?_
              refine W_alloc (cs := [.int .i64 (0), .int .i64 (0), .slice none 0 0]) rfl rfl Proofs.Try.zeroValue43 rfl (fun b635 => ?_)
              refine W_assign rfl rfl rfl ?_
              refine W_store (cs := [.int .i64 (y626.Below), .int .i64 (y626.Wait), v633]) (out := [.int .i64 (y626.Below), .int .i64 (y626.Wait), v633]) rfl Proofs.Try.sizeOf43 rfl rfl rfl rfl rfl (all_cons rfl (all_cons rfl (all_cons (RdS.one1 ((((h634.mono hle118).mono hle176).mono hle384).mono hle622)) all_nil))) (over_all rfl) ?_
              refine W_end ?_
              refine E_then ?_
              refine C_seq ?_
              refine C_region ?_
              refine W_move rfl rfl rfl ?_
              refine W_move rfl rfl rfl ?_
              obtain ⟨hz636, hm⟩ := need_some hm
              refine W_sliceR (α := S_api_ShedStage) (l := 0) (h := ((k454 : Int) : Int).toNat) (xs := p0_l) rfl rfl Proofs.Try.runUnderlying34 Proofs.Try.sizeOf43 rfl ((((h0.mono hle118).mono hle176).mono hle384).mono hle622) (by omega) (by omega) (.inl rfl) (fun cap hcap => by rw [if_pos rfl]; exact (.inl ⟨rfl, rfl⟩)) (fun m hmm => (.inr ⟨_, _, _, rfl, rfl, by omega, by omega, rfl⟩)) (.inl ⟨rfl, rfl⟩) ?_
              intro v637 h638 hc639
              refine W_lenR rfl rfl Proofs.Try.runUnderlying34 rfl h638 ?_
              refine W_move rfl rfl rfl ?_
              refine W_end ?_
              refine E_then ?_
              refine C_block ?_
              refine C_keep (L' := [(0, v0), (7, .pointer (some ⟨b162, 0, none⟩)), (14, v451), (16, .pointer (some ⟨b635, 0, none⟩)), (90, v0), (91, .int .i64 ((p0_l.length : Int))), (92, .int .i64 ((k454 : Int))), (99, v637), (100, .int .i64 (((slc p0_l 0 (((k454 : Int) : Int).toNat)).length : Int))), (101, .int .i64 (((0 : Nat) : Int)))]) ⟨rfl, rfl, rfl, rfl, rfl, rfl, rfl, rfl, rfl, rfl, trivial⟩ (List.Perm.refl _) ?_
              refine C_loop (fun n H' M' L' => ∃ (k640 : Nat) (zs689' : List S_api_ShedStage), (slc p0_l 0 (((k454 : Int) : Int).toNat)).drop k640 = zs689' ∧ zs689'.length = n ∧ forI (fun k y s n => m_gridhallkeep4_ShedCalm_b8 r449 y626 k y n) (fun _ => nx623 ()) k640 zs689' () = some r ∧ H621.le H' ∧ .obj b635 (.cells [.int .i64 (y626.Below), .int .i64 (y626.Wait), v633].toArray 43 (0, 0)) :: .row v451 9 (Rep.sz ByteArray) r449.length xs452 :: .row v364 3 (Rep.sz Int) l366.length xs365 :: .row v368 3 (Rep.sz Int) l370.length xs369 :: .obj b162 (.cells [v361, v364, v368].toArray 58 (0, 0)) :: M = M' ∧ [(0, v0), (7, .pointer (some ⟨b162, 0, none⟩)), (14, v451), (16, .pointer (some ⟨b635, 0, none⟩)), (90, v0), (91, .int .i64 ((p0_l.length : Int))), (92, .int .i64 ((k454 : Int))), (99, v637), (100, .int .i64 (((slc p0_l 0 (((k454 : Int) : Int).toNat)).length : Int))), (101, .int .i64 ((k640 : Int)))] = L') _ ⟨0, _, rfl, rfl, hm, (Hp.le_refl _), rfl, rfl⟩ ?_
              rintro _ H683 _ _ ⟨k640, zs689', hd691, rfl, hm, hle684, rfl, rfl⟩
              refine C_seq ?_
              refine C_region ?_
              refine W_bin rfl rfl rfl rfl rfl ?_
              refine W_end (E_then ?_)
              refine C_seq ?_
              refine C_cond (b := decide ((k640 : Int) < ((slc p0_l 0 (((k454 : Int) : Int).toNat)).length : Int))) rfl (fun hb693 => ?_) (fun hb693 => ?_)
              · obtain ⟨y688, zs689, rfl, hy690, hd692⟩ := rng_t hd691 hb693
                have hm : m_gridhallkeep4_ShedCalm_b8 r449 y626 k640 y688 (forI (fun k y s n => m_gridhallkeep4_ShedCalm_b8 r449 y626 k y n) (fun _ => nx623 ()) (k640 + 1) zs689) = some r := hm
                generalize hn686 : forI (fun k y s n => m_gridhallkeep4_ShedCalm_b8 r449 y626 k y n) (fun _ => nx623 ()) (k640 + 1) zs689 = nx685 at hm
                unfold m_gridhallkeep4_ShedCalm_b8 at hm
                refine C_skip (E_then ?_)
                refine C_seq ?_
                refine C_block ?_
                refine C_seq ?_
                refine C_region ?_
                obtain ⟨_, ⟨v695, rfl, h696⟩, hc694⟩ := (h638).elem hy690
                refine W_indexS rfl rfl Proofs.Try.runUnderlying34 Proofs.Try.sizeOf43 rfl (h638.mono hle684) rfl (Int.natCast_nonneg _) hy690 ?_
                refine W_loadAgg rfl rfl Proofs.Try.isAgg43 Proofs.Try.sizeOf43 rfl (hc694.mono hle684).at rfl ?_
                refine W_alloc (cs := [.int .i64 (0), .int .i64 (0), .slice none 0 0]) rfl rfl Proofs.Try.zeroValue43 rfl (fun b697 => ?_)
                refine W_store (cs := [.int .i64 (y688.Below), .int .i64 (y688.Wait), v695]) (out := [.int .i64 (y688.Below), .int .i64 (y688.Wait), v695]) rfl Proofs.Try.sizeOf43 rfl rfl rfl rfl rfl (all_cons rfl (all_cons rfl (all_cons (RdS.one1 (h696.mono hle684)) all_nil))) (over_all rfl) ?_
                refine W_end ?_
                refine E_then ?_
                refine C_seq ?_
                refine C_region ?_
                refine W_field (o := 1) rfl rfl Proofs.Try.runUnderlying43 rfl Proofs.Try.sizeOf3 rfl rfl rfl ?_
                refine W_load rfl rfl Proofs.Try.isAgg3 rfl (own_at (List.mem_cons_self ..) rfl) ?_
                refine W_field (o := 1) rfl rfl Proofs.Try.runUnderlying43 rfl Proofs.Try.sizeOf3 rfl rfl rfl ?_
                refine W_load rfl rfl Proofs.Try.isAgg3 rfl (own_at (List.mem_cons_of_mem _ (List.mem_cons_self ..)) rfl) ?_
                refine W_bin rfl rfl rfl rfl rfl ?_
                refine W_move rfl rfl rfl ?_
                cases hb698 : (decide (y688.Wait ≤ y626.Wait))
                · have hm := ite_f' hb698 hm
                  refine W_no rfl rfl rfl ?_
                  refine W_no rfl rfl rfl ?_
                  refine W_no rfl rfl rfl ?_
                  refine W_no rfl rfl rfl ?_
                  refine W_pick rfl rfl rfl rfl ?_
                  refine W_move rfl rfl rfl ?_
                  refine W_no rfl rfl rfl ?_
                  refine W_no rfl rfl rfl ?_
                  refine W_no rfl rfl rfl ?_
                  refine W_no rfl rfl rfl ?_
                  refine W_pick rfl rfl rfl rfl ?_
                  refine W_move rfl rfl rfl ?_
                  refine W_no rfl rfl rfl ?_
                  refine W_no rfl rfl rfl ?_
                  refine W_no rfl rfl rfl ?_
                  refine W_no rfl rfl rfl ?_
                  refine W_no rfl rfl rfl ?_
                  refine W_no rfl rfl rfl ?_
                  refine W_pick rfl rfl rfl rfl ?_
                  refine W_move rfl rfl rfl ?_
                  refine W_no rfl rfl rfl ?_
                  refine W_no rfl rfl rfl ?_
                  refine W_no rfl rfl rfl ?_
                  refine W_no rfl rfl rfl ?_
                  refine W_no rfl rfl rfl ?_
                  refine W_no rfl rfl rfl ?_
                  refine W_no rfl rfl rfl ?_
                  refine W_pick rfl rfl rfl rfl ?_
                  refine W_end ?_
                  refine E_then ?_
                  refine C_cond (b := false) rfl (fun hb => Bool.noConfusion hb) (fun _ => ?_)
                  refine C_skip ?_
                  refine E_normal_block ?_
                  refine E_then ?_
                  refine C_region ?_
                  refine W_bin rfl rfl rfl rfl rfl ?_
                  refine W_move rfl rfl rfl ?_
                  refine W_end ?_
                  refine E_drop (List.Sublist.cons _ (List.Sublist.refl _)) ?_
                  exact E_keepJ (E_back (Nat.lt_succ_self _) ⟨k640 + 1, zs689, hd692, rfl, (by rw [hn686]; exact hm), hle684, rfl, rfl⟩) (List.Perm.refl _) ⟨rfl, rfl, rfl, rfl, rfl, rfl, rfl, rfl, rfl, (congrArg (fun z => some (Value.int .i64 z)) (i64_succ hy690 ((h638.mono hle684)).lenMax)), trivial⟩
                · have hm := ite_t' hb698 hm
                  refine W_field (o := 2) rfl rfl Proofs.Try.runUnderlying43 rfl Proofs.Try.sizeOf39 rfl rfl rfl ?_
                  refine W_load rfl rfl Proofs.Try.isAgg39 rfl (own_at (List.mem_cons_self ..) rfl) ?_
                  refine W_lenR rfl rfl Proofs.Try.runUnderlying39 rfl (h696.mono hle684) ?_
                  refine W_bin rfl rfl rfl rfl rfl ?_
                  refine W_pick rfl rfl rfl rfl ?_
                  refine W_move rfl rfl rfl ?_
                  cases hb699 : (decide (0 < (y688.Loads.length : Int)))
                  · have hm := ite_f' hb699 hm
                    refine W_no rfl rfl rfl ?_
                    refine W_no rfl rfl rfl ?_
                    refine W_no rfl rfl rfl ?_
                    refine W_no rfl rfl rfl ?_
                    refine W_pick rfl rfl rfl rfl ?_
                    refine W_move rfl rfl rfl ?_
                    refine W_no rfl rfl rfl ?_
                    refine W_no rfl rfl rfl ?_
                    refine W_no rfl rfl rfl ?_
                    refine W_no rfl rfl rfl ?_
                    refine W_no rfl rfl rfl ?_
                    refine W_no rfl rfl rfl ?_
                    refine W_pick rfl rfl rfl rfl ?_
                    refine W_move rfl rfl rfl ?_
                    refine W_no rfl rfl rfl ?_
                    refine W_no rfl rfl rfl ?_
                    refine W_no rfl rfl rfl ?_
                    refine W_no rfl rfl rfl ?_
                    refine W_no rfl rfl rfl ?_
                    refine W_no rfl rfl rfl ?_
                    refine W_no rfl rfl rfl ?_
                    refine W_pick rfl rfl rfl rfl ?_
                    refine W_end ?_
                    refine E_then ?_
                    refine C_cond (b := false) rfl (fun hb => Bool.noConfusion hb) (fun _ => ?_)
                    refine C_skip ?_
                    refine E_normal_block ?_
                    refine E_then ?_
                    refine C_region ?_
                    refine W_bin rfl rfl rfl rfl rfl ?_
                    refine W_move rfl rfl rfl ?_
                    refine W_end ?_
                    refine E_drop (List.Sublist.cons _ (List.Sublist.refl _)) ?_
                    exact E_keepJ (E_back (Nat.lt_succ_self _) ⟨k640 + 1, zs689, hd692, rfl, (by rw [hn686]; exact hm), hle684, rfl, rfl⟩) (List.Perm.refl _) ⟨rfl, rfl, rfl, rfl, rfl, rfl, rfl, rfl, rfl, (congrArg (fun z => some (Value.int .i64 z)) (i64_succ hy690 ((h638.mono hle684)).lenMax)), trivial⟩
                  · have hm := ite_t' hb699 hm
                    refine W_field (o := 2) rfl rfl Proofs.Try.runUnderlying43 rfl Proofs.Try.sizeOf39 rfl rfl rfl ?_
                    refine W_load rfl rfl Proofs.Try.isAgg39 rfl (own_at (List.mem_cons_of_mem _ (List.mem_cons_self ..)) rfl) ?_
                    refine W_lenR rfl rfl Proofs.Try.runUnderlying39 rfl (((((h634.mono hle118).mono hle176).mono hle384).mono hle622).mono hle684) ?_
                    refine W_bin rfl rfl rfl rfl rfl ?_
                    refine W_pick rfl rfl rfl rfl ?_
                    refine W_move rfl rfl rfl ?_
                    cases hb700 : (decide (0 < (y626.Loads.length : Int)))
                    · have hm := ite_f' hb700 hm
                      refine W_no rfl rfl rfl ?_
                      refine W_no rfl rfl rfl ?_
                      refine W_no rfl rfl rfl ?_
                      refine W_no rfl rfl rfl ?_
                      refine W_no rfl rfl rfl ?_
                      refine W_no rfl rfl rfl ?_
                      refine W_pick rfl rfl rfl rfl ?_
                      refine W_move rfl rfl rfl ?_
                      refine W_no rfl rfl rfl ?_
                      refine W_no rfl rfl rfl ?_
                      refine W_no rfl rfl rfl ?_
                      refine W_no rfl rfl rfl ?_
                      refine W_no rfl rfl rfl ?_
                      refine W_no rfl rfl rfl ?_
                      refine W_no rfl rfl rfl ?_
                      refine W_pick rfl rfl rfl rfl ?_
                      refine W_end ?_
                      refine E_then ?_
                      refine C_cond (b := false) rfl (fun hb => Bool.noConfusion hb) (fun _ => ?_)
                      refine C_skip ?_
                      refine E_normal_block ?_
                      refine E_then ?_
                      refine C_region ?_
                      refine W_bin rfl rfl rfl rfl rfl ?_
                      refine W_move rfl rfl rfl ?_
                      refine W_end ?_
                      refine E_drop (List.Sublist.cons _ (List.Sublist.refl _)) ?_
                      exact E_keepJ (E_back (Nat.lt_succ_self _) ⟨k640 + 1, zs689, hd692, rfl, (by rw [hn686]; exact hm), hle684, rfl, rfl⟩) (List.Perm.refl _) ⟨rfl, rfl, rfl, rfl, rfl, rfl, rfl, rfl, rfl, (congrArg (fun z => some (Value.int .i64 z)) (i64_succ hy690 ((h638.mono hle684)).lenMax)), trivial⟩
                    · have hm := ite_t' hb700 hm
                      refine W_move rfl rfl rfl ?_
                      refine W_field (o := 2) rfl rfl Proofs.Try.runUnderlying43 rfl Proofs.Try.sizeOf39 rfl rfl rfl ?_
                      refine W_load rfl rfl Proofs.Try.isAgg39 rfl (own_at (List.mem_cons_of_mem _ (List.mem_cons_self ..)) rfl) ?_
                      obtain ⟨y701, h702, he703, hm⟩ := idx_some hm
                      obtain ⟨_, rfl, hc704⟩ := (h634).elem he703
                      refine W_indexS rfl rfl Proofs.Try.runUnderlying39 Proofs.Try.sizeOf9 rfl (((((h634.mono hle118).mono hle176).mono hle384).mono hle622).mono hle684) rfl h702 he703 ?_
                      refine W_load rfl rfl Proofs.Try.isAgg9 rfl (HCells.one (((((hc704.mono hle118).mono hle176).mono hle384).mono hle622).mono hle684) 0 rfl).at ?_
                      refine W_perm (List.Perm.trans (List.Perm.cons _ (List.Perm.swap _ _ _)) (List.Perm.swap _ _ _)) ?_
                      obtain ⟨r705, hc706, hm⟩ := bind_some hm
                      refine W_call Proofs.Try.call19 rfl rfl rfl (fun w ht => by obtain ⟨H0_, hl0_, ht0_, hr0_, bk0_⟩ := ht.lendRow ((h453.mono hle622).mono hle684) rfl; have h := m_slices_Contains_string_string_c (hm := hc706) hr0_ ht0_; exact lend_back bk0_ (h)) ?_
                      rintro _ _ _ ⟨rfl, ⟨_, rfl, rfl, rfl⟩⟩
                      refine W_pick rfl rfl rfl rfl ?_
                      refine W_move rfl rfl rfl ?_
                      cases hb707 : (r705)
                      · have hm := ite_f' hb707 hm
                        refine W_no rfl rfl rfl ?_
                        refine W_no rfl rfl rfl ?_
                        refine W_no rfl rfl rfl ?_
                        refine W_no rfl rfl rfl ?_
                        refine W_no rfl rfl rfl ?_
                        refine W_no rfl rfl rfl ?_
                        refine W_no rfl rfl rfl ?_
                        refine W_pick rfl rfl rfl rfl ?_
                        refine W_end ?_
                        refine E_then ?_
                        refine C_cond (b := false) rfl (fun hb => Bool.noConfusion hb) (fun _ => ?_)
                        refine C_skip ?_
                        refine E_normal_block ?_
                        refine E_then ?_
                        refine C_region ?_
                        refine W_bin rfl rfl rfl rfl rfl ?_
                        refine W_move rfl rfl rfl ?_
                        refine W_end ?_
                        refine E_drop (List.Sublist.cons_cons _ (List.Sublist.cons _ (List.Sublist.refl _))) ?_
                        exact E_keepJ (E_back (Nat.lt_succ_self _) ⟨k640 + 1, zs689, hd692, rfl, (by rw [hn686]; exact hm), hle684, rfl, rfl⟩) (List.Perm.swap _ _ _) ⟨rfl, rfl, rfl, rfl, rfl, rfl, rfl, rfl, rfl, (congrArg (fun z => some (Value.int .i64 z)) (i64_succ hy690 ((h638.mono hle684)).lenMax)), trivial⟩
                      · have hm := ite_t' hb707 hm
                        refine W_move rfl rfl rfl ?_
                        refine W_field (o := 2) rfl rfl Proofs.Try.runUnderlying43 rfl Proofs.Try.sizeOf39 rfl rfl rfl ?_
                        refine W_load rfl rfl Proofs.Try.isAgg39 rfl (own_at (List.mem_cons_of_mem _ (List.mem_cons_self ..)) rfl) ?_
                        obtain ⟨y708, h709, he710, hm⟩ := idx_some hm
                        obtain ⟨_, rfl, hc711⟩ := (h696).elem he710
                        refine W_indexS rfl rfl Proofs.Try.runUnderlying39 Proofs.Try.sizeOf9 rfl (h696.mono hle684) rfl h709 he710 ?_
                        refine W_load rfl rfl Proofs.Try.isAgg9 rfl (HCells.one (hc711.mono hle684) 0 rfl).at ?_
                        obtain ⟨r712, hc713, hm⟩ := bind_some hm
                        refine W_call Proofs.Try.call19 rfl rfl rfl (fun w ht => by obtain ⟨H0_, hl0_, ht0_, hr0_, bk0_⟩ := ht.lendRow ((h453.mono hle622).mono hle684) rfl; have h := m_slices_Contains_string_string_c (hm := hc713) hr0_ ht0_; exact lend_back bk0_ (h)) ?_
                        rintro _ _ _ ⟨rfl, ⟨_, rfl, rfl, rfl⟩⟩
                        refine W_un rfl rfl rfl rfl ?_
                        refine W_pick rfl rfl rfl rfl ?_
                        refine W_end ?_
                        refine E_then ?_
                        refine C_cond (b := !r712) rfl (fun hb714 => ?_) (fun hb714 => ?_)
                        · have hm := ite_t' hb714 hm
                          refine C_seq ?_
                          refine C_region ?_
                          refine W_assign rfl rfl rfl ?_
                          refine W_end ?_
                          refine E_then ?_
                          refine C_ret ?_
                          refine E_ret_block ?_
                          refine E_ret_then ?_
                          refine E_ret_then ?_
                          refine E_ret_block ?_
                          refine E_ret_block ?_
                          refine E_ret_then ?_
                          refine E_ret_then ?_
                          refine E_ret_block ?_
                          refine E_ret_then ?_
                          obtain rfl := Option.some.inj hm
                          refine E_drop (List.Sublist.cons _ (List.Sublist.cons _ (List.Sublist.cons _ (List.Sublist.cons _ (List.Sublist.cons _ (List.Sublist.cons _ (List.Sublist.refl _))))))) ?_
                          refine E_weak (Hp.le_trans (Hp.le_trans (Hp.le_trans (Hp.le_trans hle118 hle176) hle384) hle622) hle684) ?_
                          exact end1 rfl rfl ⟨rfl, rfl, rfl⟩
                        · have hm := ite_f' hb714 hm
                          refine C_skip ?_
                          refine E_normal_block ?_
                          refine E_then ?_
                          refine C_region ?_
                          refine W_bin rfl rfl rfl rfl rfl ?_
                          refine W_move rfl rfl rfl ?_
                          refine W_end ?_
                          refine E_drop (List.Sublist.cons_cons _ (List.Sublist.cons _ (List.Sublist.refl _))) ?_
                          exact E_keepJ (E_back (Nat.lt_succ_self _) ⟨k640 + 1, zs689, hd692, rfl, (by rw [hn686]; exact hm), hle684, rfl, rfl⟩) (List.Perm.swap _ _ _) ⟨rfl, rfl, rfl, rfl, rfl, rfl, rfl, rfl, rfl, (congrArg (fun z => some (Value.int .i64 z)) (i64_succ hy690 ((h638.mono hle684)).lenMax)), trivial⟩
              · obtain rfl := rng_f hd691 hb693
                have hm : (nx623 ()) = some r := hm
                refine C_exit (E_exit_then ?_)
                refine E_exit_then ?_
                refine E_exit_hit ?_
                refine E_normal_block ?_
                refine E_then ?_
                refine C_region ?_
                refine W_bin rfl rfl rfl rfl rfl ?_
                refine W_move rfl rfl rfl ?_
                refine W_end ?_
                refine E_drop (List.Sublist.cons _ (List.Sublist.refl _)) ?_
                exact E_keepJ (E_back (Nat.lt_succ_self _) ⟨k454 + 1, zs627, hd630, rfl, (by rw [hn624]; exact hm), (Hp.le_trans hle622 hle684), rfl, rfl⟩) (List.Perm.refl _) ⟨rfl, rfl, rfl, rfl, rfl, (congrArg (fun z => some (Value.int .i64 z)) (i64_succ hy628 (((((h0.mono hle118).mono hle176).mono hle384).mono hle622)).lenMax)), trivial⟩
            · obtain rfl := rng_f hd629 hb631
              have hm : ((m_gridhallkeep4_shedFact).bind fun r715 => if r715 then ((m_shed_Shed_Off (S_shed_Shed.mk l362 l366 l370)).bind fun r718 => some (decide ((r718.length : Int) = 0))) else (some false)) = some r := hm
              refine C_exit (E_exit_then ?_)
              refine E_exit_then ?_
              refine E_exit_hit ?_
              refine E_then ?_
              refine C_seq ?_
              refine C_region ?_
              obtain ⟨r715, hc716, hm⟩ := bind_some hm
              refine W_call Proofs.Try.call16 rfl rfl rfl (fun w ht => by have h := m_gridhallkeep4_shedFact_c (hm := hc716)  ht; exact h) ?_
              rintro _ _ _ ⟨rfl, rfl, rfl⟩
              refine W_move rfl rfl rfl ?_
              cases hb717 : (r715)
              · have hm := ite_f' hb717 hm
                refine W_no rfl rfl rfl ?_
                refine W_no rfl rfl rfl ?_
                refine W_no rfl rfl rfl ?_
                refine W_no rfl rfl rfl ?_
                refine W_pick rfl rfl rfl rfl ?_
                refine W_assign rfl rfl rfl ?_
                refine W_end ?_
                refine E_then ?_
                refine C_ret ?_
                obtain rfl := Option.some.inj hm
                refine E_drop (List.Sublist.cons _ (List.Sublist.cons _ (List.Sublist.cons _ (List.Sublist.cons _ (List.Sublist.refl _))))) ?_
                refine E_weak (Hp.le_trans (Hp.le_trans (Hp.le_trans hle118 hle176) hle384) hle622) ?_
                exact end1 rfl rfl ⟨rfl, rfl, rfl⟩
              · have hm := ite_t' hb717 hm
                refine W_move rfl rfl rfl ?_
                refine W_perm (List.Perm.trans (List.Perm.cons _ (List.Perm.cons _ (List.Perm.swap _ _ _))) (List.Perm.trans (List.Perm.cons _ (List.Perm.swap _ _ _)) (List.Perm.trans (List.Perm.swap _ _ _) (List.Perm.trans (List.Perm.cons _ (List.Perm.swap _ _ _)) (List.Perm.cons _ (List.Perm.cons _ (List.Perm.swap _ _ _))))))) ?_
                obtain ⟨r718, hc719, hm⟩ := bind_some hm
                refine W_call Proofs.Try.call18 rfl rfl rfl (fun w ht => by have h := m_shed_Shed_Off_c (hm := hc719) (h363.mono hle622) (hr367.mono hle622) (hr371.mono hle622) ht; exact h) ?_
                rintro _ _ _ ⟨rfl, v720, xs721, rfl, rfl, h722⟩
                have h722 := h722 H621
                refine W_lenO (List.mem_cons_self ..) rfl rfl Proofs.Try.runUnderlying39 rfl ?_
                refine W_bin rfl rfl rfl rfl rfl ?_
                refine W_pick rfl rfl rfl rfl ?_
                refine W_assign rfl rfl rfl ?_
                refine W_end ?_
                refine E_then ?_
                refine C_ret ?_
                obtain rfl := Option.some.inj hm
                refine E_drop (List.Sublist.cons _ (List.Sublist.cons _ (List.Sublist.cons _ (List.Sublist.cons _ (List.Sublist.cons _ (List.Sublist.refl _)))))) ?_
                refine E_weak (Hp.le_trans (Hp.le_trans (Hp.le_trans hle118 hle176) hle384) hle622) ?_
                exact end1 rfl rfl ⟨rfl, rfl, rfl⟩
      · refine C_region ?_
        refine W_move rfl rfl rfl ?_
        refine W_bin rfl rfl rfl rfl rfl ?_
        refine W_move rfl rfl rfl ?_
        cases hb723 : (decide (r101.2 = 0))
        · refine W_no rfl rfl rfl ?_
          refine W_no rfl rfl rfl ?_
          refine W_pick rfl rfl rfl rfl ?_
          refine W_move rfl rfl rfl ?_
          refine W_no rfl rfl rfl ?_
          refine W_no rfl rfl rfl ?_
          refine W_pick rfl rfl rfl rfl ?_
          refine W_end ?_
          exact E_keepJ (J189 _ _ _ ⟨rfl, rfl, rfl⟩) (List.Perm.refl _) ⟨rfl, rfl, rfl, rfl, rfl, rfl, (by show some (Value.bool (true)) = some (Value.bool (!decide (r101.2 = 0))); simp only [hb723, Bool.and_true, Bool.true_and, Bool.false_and, Bool.and_false, Bool.or_true, Bool.true_or, Bool.or_false, Bool.false_or, Bool.not_true, Bool.not_false]), trivial⟩
        · refine W_move rfl rfl rfl ?_
          refine W_ptrNil rfl rfl Proofs.Try.runUnderlying36 rfl rfl ?_
          refine W_pick rfl rfl rfl rfl ?_
          refine W_move rfl rfl rfl ?_
          refine W_move rfl rfl rfl ?_
          refine W_ptrNil rfl rfl Proofs.Try.runUnderlying36 rfl rfl ?_
          refine W_pick rfl rfl rfl rfl ?_
          refine W_end ?_
          exact E_keepJ (J189 _ _ _ ⟨rfl, rfl, rfl⟩) (List.Perm.refl _) ⟨rfl, rfl, rfl, rfl, rfl, rfl, (by show some (Value.bool (false)) = some (Value.bool (!decide (r101.2 = 0))); simp only [hb723, Bool.and_true, Bool.true_and, Bool.false_and, Bool.and_false, Bool.or_true, Bool.true_or, Bool.or_false, Bool.false_or, Bool.not_true, Bool.not_false]), trivial⟩

theorem m_shed_Shed_Back_c {B : Nat} {w0 w : World} {H : Hp} {M : List Res} {p0_s : S_shed_Shed} {frequency : Int} {b0 : Nat} {v0 : Value} {v1 : Value} {xs0 : List Value} {v2 : Value} {xs1 : List Value} {r : (List ByteArray) × Int × S_shed_Shed} (hm : m_shed_Shed_Back p0_s frequency = some r) (h0 : RdS H v0 p0_s.stages) (h1 : Rw H v1 xs0 p0_s.count) (h2 : Rw H v2 xs1 p0_s.acted) (ht : St B w0 H (.obj b0 (.cells [v0, v1, v2].toArray 58 (0, 0)) :: .row v1 3 (Rep.sz Int) p0_s.count.length xs0 :: .row v2 3 (Rep.sz Int) p0_s.acted.length xs1 :: M) w) :
    Calls Proofs.Try.prog 21 [.pointer (some ⟨b0, 0, none⟩), .int .i64 (frequency)].toArray w (Ret B w0 fun H' M' v => H.le H' ∧ ∃ qv0 : Value, ∃ qxs0 : List Value, ∃ qv1 : Value, ∃ qv2 : Value, ∃ qxs1 : List Value, ∃ qv3 : Value, ∃ qxs2 : List Value, .row qv0 9 (Rep.sz ByteArray) r.1.length qxs0 :: .obj b0 (.cells [qv1, qv2, qv3].toArray 58 (0, 0)) :: .row qv2 3 (Rep.sz Int) r.2.2.count.length qxs1 :: .row qv3 3 (Rep.sz Int) r.2.2.acted.length qxs2 :: M = M' ∧ .tuple #[qv0, .int .i64 (r.2.1)] = v ∧ Rw H' qv0 qxs0 r.1 ∧ RdS H' qv1 r.2.2.stages ∧ Rw H' qv2 qxs1 r.2.2.count ∧ Rw H' qv3 qxs2 r.2.2.acted) := by
  unfold m_shed_Shed_Back at hm
  refine enter Proofs.Try.func21 rfl rfl rfl ht ?_
  refine C_seq ?_
  refine C_region ?_
  refine W_assign rfl rfl rfl ?_
  refine W_assign rfl rfl rfl ?_
  refine W_end ?_
  refine E_then ?_
  refine C_seq ?_
  refine C_block ?_
  refine C_seq ?_
  refine C_region ?_
  refine W_move rfl rfl rfl ?_
  refine W_call Proofs.Try.call32 rfl rfl rfl (fun w ht => by have h := m_shed_wrong_c (hm := (rfl : m_shed_wrong frequency = _))  ht; exact h) ?_
  rintro _ _ _ ⟨rfl, rfl, rfl⟩
  refine W_assign rfl rfl rfl ?_
  refine W_end ?_
  refine E_then ?_
  refine C_cond (b := (m_shed_wrong frequency)) rfl (fun hb101 => ?_) (fun hb101 => ?_)
  · have hm := ite_t' hb101 hm
    refine C_seq ?_
    refine C_region ?_
    refine W_assign rfl rfl rfl ?_
    refine W_assign rfl rfl rfl ?_
    refine W_end ?_
    refine E_then ?_
    refine C_ret ?_
    refine E_ret_block ?_
    refine E_ret_then ?_
    refine E_nilRow 9 (Rep.sz ByteArray) ?_
    obtain rfl := Option.some.inj hm
    exact end2 rfl rfl rfl ⟨(Hp.le_refl _), (.slice none 0 0), [], v0, v1, xs0, v2, xs1, rfl, rfl, Rw.nil, h0, h1, h2⟩
  · have hm := ite_f' hb101 hm
    refine C_seq_join (fun H' M' L' => H = H' ∧ .obj b0 (.cells [v0, v1, v2].toArray 58 (0, 0)) :: .row v1 3 (Rep.sz Int) p0_s.count.length xs0 :: .row v2 3 (Rep.sz Int) p0_s.acted.length xs1 :: M = M' ∧ [(0, .pointer (some ⟨b0, 0, none⟩)), (11, .bool ((decide (frequency < 0)) || (decide ((p0_s.acted.length : Int) = 0))))] = L') ?_ (fun J103 => ?_)
    · rintro _ _ _ ⟨rfl, rfl, rfl⟩
      refine C_cond (b := (decide (frequency < 0)) || (decide ((p0_s.acted.length : Int) = 0))) rfl (fun hb104 => ?_) (fun hb104 => ?_)
      · have hm := ite_t' hb104 hm
        refine C_seq ?_
        refine C_region ?_
        refine W_assign rfl rfl rfl ?_
        refine W_assign rfl rfl rfl ?_
        refine W_end ?_
        refine E_then ?_
        refine C_ret ?_
        refine E_ret_block ?_
        refine E_ret_then ?_
        refine E_nilRow 9 (Rep.sz ByteArray) ?_
        obtain rfl := Option.some.inj hm
        exact end2 rfl rfl rfl ⟨(Hp.le_refl _), (.slice none 0 0), [], v0, v1, xs0, v2, xs1, rfl, rfl, Rw.nil, h0, h1, h2⟩
      · have hm := ite_f' hb104 hm
        refine C_skip ?_
        refine E_normal_block ?_
        refine E_then ?_
        refine C_seq ?_
        refine C_region ?_
        refine W_move rfl rfl rfl ?_
        refine W_nilCheck rfl rfl rfl ?_
        refine W_field (o := 2) rfl rfl Proofs.Try.runUnderlying58 rfl Proofs.Try.sizeOf35 rfl rfl rfl ?_
        refine W_load rfl rfl Proofs.Try.isAgg35 rfl (own_at (List.mem_cons_self ..) rfl) ?_
        refine W_lenO (List.mem_cons_of_mem _ (List.mem_cons_of_mem _ (List.mem_cons_self ..))) rfl rfl Proofs.Try.runUnderlying35 rfl ?_
        refine W_bin rfl rfl rfl rfl rfl ?_
        refine W_assign rfl rfl rfl ?_
        refine W_end ?_
        refine E_then ?_
        refine C_seq ?_
        refine C_region ?_
        refine W_move rfl rfl rfl ?_
        refine W_nilCheck rfl rfl rfl ?_
        refine W_field (o := 2) rfl rfl Proofs.Try.runUnderlying58 rfl Proofs.Try.sizeOf35 rfl rfl rfl ?_
        refine W_load rfl rfl Proofs.Try.isAgg35 rfl (own_at (List.mem_cons_self ..) rfl) ?_
        refine W_move rfl rfl rfl ?_
        obtain ⟨y105, h106, he107, hm⟩ := idx_some hm
        refine W_indexO (List.mem_cons_of_mem _ (List.mem_cons_of_mem _ (List.mem_cons_self ..))) rfl rfl Proofs.Try.runUnderlying35 Proofs.Try.sizeOf3 rfl rfl h106 (List.getElem?_eq_some_iff.1 he107).1 ?_
        obtain ⟨_, rfl, hg108⟩ := (h2).elem he107
        refine W_load rfl rfl Proofs.Try.isAgg3 rfl (row_one0 (List.mem_cons_of_mem _ (List.mem_cons_of_mem _ (List.mem_cons_self ..))) hg108 rfl) ?_
        refine W_assign rfl rfl rfl ?_
        refine W_end ?_
        refine E_then ?_
        refine C_seq ?_
        refine C_region ?_
        refine W_move rfl rfl rfl ?_
        refine W_move rfl rfl rfl ?_
        refine W_nilCheck rfl rfl rfl ?_
        refine W_field (o := 2) rfl rfl Proofs.Try.runUnderlying58 rfl Proofs.Try.sizeOf35 rfl rfl rfl ?_
        refine W_load rfl rfl Proofs.Try.isAgg35 rfl (own_at (List.mem_cons_self ..) rfl) ?_
        refine W_move rfl rfl rfl ?_
        obtain ⟨hz109, hm⟩ := need_some hm
        refine W_perm (List.Perm.trans (List.Perm.cons _ (List.Perm.swap _ _ _)) (List.Perm.swap _ _ _)) ?_
        refine W_sliceO (α := Int) (l := 0) (h := (IntKind.i64.wrap ((p0_s.acted.length : Int) - 1) : Int).toNat) rfl rfl Proofs.Try.runUnderlying35 Proofs.Try.sizeOf3 rfl rfl h2 (by omega) (by omega) (fun m hmm => (.inr ⟨_, _, _, rfl, rfl, by omega, by omega, rfl⟩)) (.inl ⟨rfl, rfl⟩) ?_
        intro v110 xs111 hr112
        refine W_nilCheck rfl rfl rfl ?_
        refine W_field (o := 2) rfl rfl Proofs.Try.runUnderlying58 rfl Proofs.Try.sizeOf35 rfl rfl rfl ?_
        refine W_perm (List.Perm.swap _ _ _) ?_
        refine W_store (cs := [v110]) (out := [v0, v1, v110]) rfl Proofs.Try.sizeOf35 rfl rfl (Rw.cells hr112) rfl rfl (all_cons (Rw.one hr112) all_nil) rfl ?_
        refine W_end ?_
        refine E_then ?_
        refine C_seq ?_
        refine C_region ?_
        refine W_move rfl rfl rfl ?_
        refine W_nilCheck rfl rfl rfl ?_
        refine W_field (o := 1) rfl rfl Proofs.Try.runUnderlying58 rfl Proofs.Try.sizeOf35 rfl rfl rfl ?_
        refine W_load rfl rfl Proofs.Try.isAgg35 rfl (own_at (List.mem_cons_self ..) rfl) ?_
        refine W_move rfl rfl rfl ?_
        obtain ⟨y113, h114, he115, hm⟩ := idx_some hm
        refine W_indexO (List.mem_cons_of_mem _ (List.mem_cons_of_mem _ (List.mem_cons_self ..))) rfl rfl Proofs.Try.runUnderlying35 Proofs.Try.sizeOf3 rfl rfl h114 (List.getElem?_eq_some_iff.1 he115).1 ?_
        obtain ⟨_, rfl, hg116⟩ := (h1).elem he115
        refine W_perm (List.Perm.trans (List.Perm.cons _ (List.Perm.swap _ _ _)) (List.Perm.swap _ _ _)) ?_
        obtain ⟨hr117, he118, hg119⟩ := Rw.put (cs := [.int .i64 (0)]) (o := 0) (c := [.int .i64 (y113)]) (out := [.int .i64 (0)]) (e2 := 0) h1 he115 rfl hg116 rfl rfl rfl
        refine W_storeO2 (i := (y105 : Int).toNat * Rep.sz Int + 0) (cs := [.int .i64 (0)]) rfl Proofs.Try.sizeOf3 rfl (row_ad0 _ _) rfl rfl rfl (Rw.room h1 he115 rfl) rfl (all_cons rfl all_nil) (n' := (p0_s.count.set ((y105 : Int).toNat) 0).length) List.length_set ?_
        generalize over xs0 ((y105 : Int).toNat * Rep.sz Int + 0) [.int .i64 (0)] = xs120 at hr117 hg119 ⊢
        refine W_end ?_
        refine E_then ?_
        refine C_seq ?_
        refine C_region ?_
        refine W_move rfl rfl rfl ?_
        refine W_nilCheck rfl rfl rfl ?_
        refine W_field (o := 0) rfl rfl Proofs.Try.runUnderlying58 rfl Proofs.Try.sizeOf34 rfl rfl rfl ?_
        refine W_load rfl rfl Proofs.Try.isAgg34 rfl (own_at (List.mem_cons_of_mem _ (List.mem_cons_self ..)) rfl) ?_
        refine W_move rfl rfl rfl ?_
        obtain ⟨y121, h122, he123, hm⟩ := idx_some hm
        obtain ⟨_, ⟨v125, rfl, h126⟩, hc124⟩ := (h0).elem he123
        refine W_indexS rfl rfl Proofs.Try.runUnderlying34 Proofs.Try.sizeOf43 rfl h0 rfl h122 he123 ?_
        refine W_field (o := 2) rfl rfl Proofs.Try.runUnderlying43 rfl Proofs.Try.sizeOf39 rfl rfl rfl ?_
        refine W_load rfl rfl Proofs.Try.isAgg39 rfl (HCells.one hc124 2 rfl).at ?_
        obtain ⟨hz127, hm⟩ := need_some hm
        refine W_call Proofs.Try.call31 rfl rfl rfl (fun w ht => by have h := clone31_c (s := y121.Loads) h126 hz127 ht; exact h) ?_
        rintro _ _ _ ⟨rfl, v128, xs129, rfl, rfl, hr130⟩
        have hr130 := hr130 H
        refine W_assign rfl rfl rfl ?_
        refine W_assign rfl rfl rfl ?_
        refine W_end ?_
        refine E_then ?_
        refine C_ret ?_
        obtain rfl := Option.some.inj hm
        refine E_perm (List.Perm.cons _ (List.Perm.swap _ _ _)) ?_
        exact end2 rfl rfl rfl ⟨(Hp.le_refl _), v128, xs129, v0, v1, xs120, v110, xs111, rfl, rfl, hr130, h0, hr117, hr112⟩
    · refine C_region ?_
      refine W_move rfl rfl rfl ?_
      refine W_bin rfl rfl rfl rfl rfl ?_
      refine W_move rfl rfl rfl ?_
      cases hb131 : (decide (frequency < 0))
      · refine W_move rfl rfl rfl ?_
        refine W_nilCheck rfl rfl rfl ?_
        refine W_field (o := 2) rfl rfl Proofs.Try.runUnderlying58 rfl Proofs.Try.sizeOf35 rfl rfl rfl ?_
        refine W_load rfl rfl Proofs.Try.isAgg35 rfl (own_at (List.mem_cons_self ..) rfl) ?_
        refine W_lenO (List.mem_cons_of_mem _ (List.mem_cons_of_mem _ (List.mem_cons_self ..))) rfl rfl Proofs.Try.runUnderlying35 rfl ?_
        refine W_bin rfl rfl rfl rfl rfl ?_
        refine W_pick rfl rfl rfl rfl ?_
        refine W_assign rfl rfl rfl ?_
        refine W_end ?_
        exact E_keepJ (J103 _ _ _ ⟨rfl, rfl, rfl⟩) (List.Perm.refl _) ⟨rfl, (by show some (Value.bool (decide ((p0_s.acted.length : Int) = 0))) = some (Value.bool ((decide (frequency < 0)) || (decide ((p0_s.acted.length : Int) = 0)))); simp only [hb101, hb131, Bool.and_true, Bool.true_and, Bool.false_and, Bool.and_false, Bool.or_true, Bool.true_or, Bool.or_false, Bool.false_or, Bool.not_true, Bool.not_false]), trivial⟩
      · refine W_no rfl rfl rfl ?_
        refine W_no rfl rfl rfl ?_
        refine W_no rfl rfl rfl ?_
        refine W_no rfl rfl rfl ?_
        refine W_no rfl rfl rfl ?_
        refine W_no rfl rfl rfl ?_
        refine W_pick rfl rfl rfl rfl ?_
        refine W_assign rfl rfl rfl ?_
        refine W_end ?_
        exact E_keepJ (J103 _ _ _ ⟨rfl, rfl, rfl⟩) (List.Perm.refl _) ⟨rfl, (by show some (Value.bool (true)) = some (Value.bool ((decide (frequency < 0)) || (decide ((p0_s.acted.length : Int) = 0)))); simp only [hb101, hb131, Bool.and_true, Bool.true_and, Bool.false_and, Bool.and_false, Bool.or_true, Bool.true_or, Bool.or_false, Bool.false_or, Bool.not_true, Bool.not_false]), trivial⟩

theorem grow36_c {B : Nat} {w0 w : World} {H : Hp} {M : List Res} {n : Int} (hz : 0 ≤ n ∧ n * 16 ≤ 140737488355328) (ht : St B w0 H M w) :
    Calls Proofs.Try.prog 36 [.slice none 0 0, .int .i64 n].toArray w (Ret B w0 fun H' M' v => H = H' ∧ ∃ (v' : Value) (xs' : List Value), .row v' 9 (Rep.sz ByteArray) ([] : List ByteArray).length xs' :: M = M' ∧ v' = v ∧ RwF v' xs' ([] : List ByteArray)) := by
  refine enter Proofs.Try.func36 rfl rfl rfl ht ?_
  have hn : IntKind.i64.wrap (n - IntKind.i64.wrap (((0 : Nat) : Int) - ((0 : Nat) : Int))) = n := by
    rw [show IntKind.i64.wrap (((0 : Nat) : Int) - ((0 : Nat) : Int)) = 0 from rfl, Int.sub_zero, i64_of (by omega) (by omega)]
  refine C_seq ?_
  refine C_region ?_
  refine W_assign rfl rfl rfl ?_
  refine W_end (E_then ?_)
  refine C_seq ?_
  refine C_seq ?_
  refine C_region ?_
  refine W_move rfl rfl rfl ?_
  refine W_bin rfl rfl rfl rfl rfl ?_
  refine W_end (E_then ?_)
  refine C_cond (b := decide (n < 0)) rfl (fun hb => absurd (of_decide_eq_true hb) (by omega)) (fun _ => ?_)
  refine C_skip (E_then ?_)
  refine C_seq_join (fun H1 M1 L1 => ∃ (v' : Value) (xs' : List Value), H = H1 ∧ .row v' 9 (Rep.sz ByteArray) ([] : List ByteArray).length xs' :: M = M1 ∧ [(0, v')] = L1 ∧ Rw H v' xs' ([] : List ByteArray)) ?_ (fun J => ?_)
  · rintro _ _ _ ⟨v', xs', rfl, rfl, rfl, h⟩
    refine C_seq ?_
    refine C_region ?_
    refine W_move rfl rfl rfl ?_
    refine W_assign rfl rfl rfl ?_
    refine W_end (E_then ?_)
    refine C_ret ?_
    exact end1 rfl rfl ⟨rfl, v', xs', rfl, rfl, h.toF⟩
  · refine C_seq ?_
    refine C_region ?_
    refine W_move rfl rfl rfl ?_
    refine W_move rfl rfl rfl ?_
    refine W_capS rfl rfl Proofs.Try.runUnderlying39 rfl ?_
    refine W_move rfl rfl rfl ?_
    refine W_lenS rfl rfl Proofs.Try.runUnderlying39 rfl ?_
    refine W_bin rfl rfl rfl rfl rfl ?_
    refine W_bin rfl rfl rfl rfl rfl ?_
    refine W_assign rfl rfl rfl ?_
    refine W_end (E_then ?_)
    rw [hn]
    refine C_seq ?_
    refine C_region ?_
    refine W_move rfl rfl rfl ?_
    refine W_bin rfl rfl rfl rfl rfl ?_
    refine W_end (E_then ?_)
    refine C_cond (b := decide (0 < n)) rfl (fun hb => ?_) (fun hb => ?_)
    · refine C_region ?_
      refine W_move rfl rfl rfl ?_
      refine W_move rfl rfl rfl ?_
      refine W_capS rfl rfl Proofs.Try.runUnderlying39 rfl ?_
      refine W_sliceNil rfl rfl Proofs.Try.runUnderlying39 Proofs.Try.sizeOf9 rfl rfl ?_
      refine W_move rfl rfl rfl ?_
      refine W_growNil (α := ByteArray) (ze := (⟨#[]⟩)) (bytes := 16) rfl rfl Proofs.Try.underlying39 Proofs.Try.underlying3 ⟨_, rfl, rfl, rfl, rfl⟩ rfl rfl rfl rfl rfl rfl (of_decide_eq_true hb) hz.2 ?_
      intro v1 xs1 l1 h1 hl1
      refine W_move rfl rfl rfl ?_
      refine W_lenS rfl rfl Proofs.Try.runUnderlying39 rfl ?_
      refine W_sliceO (α := ByteArray) (l := 0) (h := 0) rfl rfl Proofs.Try.runUnderlying39 Proofs.Try.sizeOf9 rfl rfl h1 (by omega) (by omega) (fun m hmm => (.inr ⟨_, _, _, rfl, rfl, by omega, by omega, rfl⟩)) (.inl ⟨rfl, rfl⟩) ?_
      intro v2 xs2 h2
      refine W_assign rfl rfl rfl ?_
      refine W_end ?_
      exact E_keepJ (J _ _ _ ⟨v2, xs2, rfl, rfl, rfl, h2⟩) (List.Perm.refl _) ⟨rfl, trivial⟩
    · refine C_skip ?_
      refine E_nilRow 9 (Rep.sz ByteArray) ?_
      exact E_keepJ (J _ _ _ ⟨.slice none 0 0, [], rfl, rfl, rfl, Rw.nil⟩) (List.Perm.refl _) ⟨rfl, trivial⟩

theorem m_slices_Concat_string_string_c {B : Nat} {w0 w : World} {H : Hp} {M : List Res} {slices : (List (List ByteArray))} {v0 : Value} {r : (List ByteArray)} (hm : m_slices_Concat_string_string slices = some r) (h0 : RdS H v0 slices) (ht : St B w0 H (M) w) :
    Calls Proofs.Try.prog 23 [v0].toArray w (Ret B w0 fun H' M' v => H = H' ∧ ∃ qv0 : Value, ∃ qxs0 : List Value, .row qv0 9 (Rep.sz ByteArray) r.length qxs0 :: M = M' ∧ qv0 = v ∧ RwF qv0 qxs0 r) := by
  unfold m_slices_Concat_string_string at hm
  refine enter Proofs.Try.func23 rfl rfl rfl ht ?_
  refine C_seq ?_
  refine C_region ?_
  refine W_assign rfl rfl rfl ?_
  refine W_end ?_
  refine E_then ?_
  refine C_seq ?_
  refine C_region ?_
  refine W_assign rfl rfl rfl ?_
  refine W_end ?_
  refine E_then ?_
  refine C_seq ?_
  refine C_seq ?_
  refine C_region ?_
  refine W_move rfl rfl rfl ?_
  refine W_lenR rfl rfl Proofs.Try.runUnderlying64 rfl h0 ?_
  refine W_move rfl rfl rfl ?_
  refine W_end ?_
  refine E_then ?_
  refine C_block ?_
  refine C_keep (L' := [(0, v0), (3, .int .i64 (0)), (9, v0), (10, .int .i64 ((slices.length : Int))), (11, .int .i64 (((0 : Nat) : Int)))]) ⟨rfl, rfl, rfl, rfl, rfl, trivial⟩ (List.Perm.refl _) ?_
  refine C_loop (fun n H' M' L' => ∃ (k101 : Nat) (zs119' : List (List ByteArray)), ∃ n112 : Int, (slices).drop k101 = zs119' ∧ zs119'.length = n ∧ forI (fun k y s n => m_slices_Concat_string_string_b1 k y s n) (fun s => need (0 ≤ s ∧ s * 16 ≤ 140737488355328) (forI (fun k y s n => m_slices_Concat_string_string_b2 k y s n) (fun s => some s) 0 slices ([] : List ByteArray))) k101 zs119' n112 = some r ∧ H.le H' ∧ M = M' ∧ [(0, v0), (3, .int .i64 (n112)), (9, v0), (10, .int .i64 ((slices.length : Int))), (11, .int .i64 ((k101 : Int)))] = L') _ ⟨0, _, 0, rfl, rfl, hm, (Hp.le_refl _), rfl, rfl⟩ ?_
  rintro _ H113 _ _ ⟨k101, zs119', n112, hd121, rfl, hm, hle114, rfl, rfl⟩
  refine C_seq ?_
  refine C_region ?_
  refine W_bin rfl rfl rfl rfl rfl ?_
  refine W_end (E_then ?_)
  refine C_seq ?_
  refine C_cond (b := decide ((k101 : Int) < (slices.length : Int))) rfl (fun hb123 => ?_) (fun hb123 => ?_)
  · obtain ⟨y118, zs119, rfl, hy120, hd122⟩ := rng_t hd121 hb123
    have hm : m_slices_Concat_string_string_b1 k101 y118 n112 (forI (fun k y s n => m_slices_Concat_string_string_b1 k y s n) (fun s => need (0 ≤ s ∧ s * 16 ≤ 140737488355328) (forI (fun k y s n => m_slices_Concat_string_string_b2 k y s n) (fun s => some s) 0 slices ([] : List ByteArray))) (k101 + 1) zs119) = some r := hm
    generalize hn116 : forI (fun k y s n => m_slices_Concat_string_string_b1 k y s n) (fun s => need (0 ≤ s ∧ s * 16 ≤ 140737488355328) (forI (fun k y s n => m_slices_Concat_string_string_b2 k y s n) (fun s => some s) 0 slices ([] : List ByteArray))) (k101 + 1) zs119 = nx115 at hm
    unfold m_slices_Concat_string_string_b1 at hm
    refine C_skip (E_then ?_)
    refine C_seq ?_
    refine C_block ?_
    refine C_seq ?_
    refine C_region ?_
    obtain ⟨_, ⟨v125, rfl, h126⟩, hc124⟩ := (h0).elem hy120
    refine W_indexS rfl rfl Proofs.Try.runUnderlying64 Proofs.Try.sizeOf39 rfl (h0.mono hle114) rfl (Int.natCast_nonneg _) hy120 ?_
    refine W_load rfl rfl Proofs.Try.isAgg39 rfl (HCells.one (hc124.mono hle114) 0 rfl).at ?_
    refine W_assign rfl rfl rfl ?_
    refine W_end ?_
    refine E_then ?_
    refine C_seq ?_
    refine C_region ?_
    refine W_move rfl rfl rfl ?_
    refine W_move rfl rfl rfl ?_
    refine W_lenR rfl rfl Proofs.Try.runUnderlying39 rfl (h126.mono hle114) ?_
    refine W_bin rfl rfl rfl rfl rfl ?_
    refine W_assign rfl rfl rfl ?_
    refine W_end ?_
    refine E_then ?_
    refine C_seq ?_
    refine C_region ?_
    refine W_move rfl rfl rfl ?_
    refine W_bin rfl rfl rfl rfl rfl ?_
    refine W_end ?_
    refine E_then ?_
    refine C_cond (b := decide ((IntKind.i64.wrap (n112 + (y118.length : Int))) < 0)) rfl (fun hb127 => ?_) (fun hb127 => ?_)
    · have hm := ite_t' hb127 hm
      cases hm
    · have hm := ite_f' hb127 hm
      refine C_skip ?_
      refine E_normal_block ?_
      refine E_then ?_
      refine C_region ?_
      refine W_bin rfl rfl rfl rfl rfl ?_
      refine W_move rfl rfl rfl ?_
      refine W_end ?_
      exact E_keepJ (E_back (Nat.lt_succ_self _) ⟨k101 + 1, zs119, IntKind.i64.wrap (n112 + (y118.length : Int)), hd122, rfl, (by rw [hn116]; exact hm), hle114, rfl, rfl⟩) (List.Perm.refl _) ⟨rfl, rfl, rfl, rfl, (congrArg (fun z => some (Value.int .i64 z)) (i64_succ hy120 ((h0.mono hle114)).lenMax)), trivial⟩
  · obtain rfl := rng_f hd121 hb123
    have hm : (need (0 ≤ n112 ∧ n112 * 16 ≤ 140737488355328) (forI (fun k y s n => m_slices_Concat_string_string_b2 k y s n) (fun s => some s) 0 slices ([] : List ByteArray))) = some r := hm
    refine C_exit (E_exit_then ?_)
    refine E_exit_then ?_
    refine E_exit_hit ?_
    refine E_then ?_
    refine C_seq ?_
    refine C_region ?_
    refine W_move rfl rfl rfl ?_
    obtain ⟨hz128, hm⟩ := need_some hm
    refine W_call Proofs.Try.call36 rfl rfl rfl (fun w ht => by have h := grow36_c hz128 ht; exact h) ?_
    rintro _ _ _ ⟨rfl, v129, xs130, rfl, rfl, hr131⟩
    have hr131 := hr131 H113
    refine W_assign rfl rfl rfl ?_
    refine W_end ?_
    refine E_then ?_
    refine C_seq ?_
    refine C_seq ?_
    refine C_region ?_
    refine W_move rfl rfl rfl ?_
    refine W_lenR rfl rfl Proofs.Try.runUnderlying64 rfl (h0.mono hle114) ?_
    refine W_move rfl rfl rfl ?_
    refine W_end ?_
    refine E_then ?_
    refine C_block ?_
    refine C_keep (L' := [(6, v129), (25, v0), (26, .int .i64 ((slices.length : Int))), (27, .int .i64 (((0 : Nat) : Int)))]) ⟨rfl, rfl, rfl, rfl, trivial⟩ (List.Perm.refl _) ?_
    refine C_loop (fun n H' M' L' => ∃ (k132 : Nat) (zs165' : List (List ByteArray)), ∃ l157 : List ByteArray, ∃ v155 : Value, ∃ xs156 : List Value, (slices).drop k132 = zs165' ∧ zs165'.length = n ∧ forI (fun k y s n => m_slices_Concat_string_string_b2 k y s n) (fun s => some s) k132 zs165' l157 = some r ∧ Rw H' v155 xs156 l157 ∧ H113.le H' ∧ .row v155 9 (Rep.sz ByteArray) l157.length xs156 :: M = M' ∧ [(6, v155), (25, v0), (26, .int .i64 ((slices.length : Int))), (27, .int .i64 ((k132 : Int)))] = L') _ ⟨0, _, ([] : List ByteArray), v129, xs130, rfl, rfl, hm, hr131, (Hp.le_refl _), rfl, rfl⟩ ?_
    rintro _ H159 _ _ ⟨k132, zs165', l157, v155, xs156, hd167, rfl, hm, hr158, hle160, rfl, rfl⟩
    refine C_seq ?_
    refine C_region ?_
    refine W_bin rfl rfl rfl rfl rfl ?_
    refine W_end (E_then ?_)
    refine C_seq ?_
    refine C_cond (b := decide ((k132 : Int) < (slices.length : Int))) rfl (fun hb169 => ?_) (fun hb169 => ?_)
    · obtain ⟨y164, zs165, rfl, hy166, hd168⟩ := rng_t hd167 hb169
      have hm : m_slices_Concat_string_string_b2 k132 y164 l157 (forI (fun k y s n => m_slices_Concat_string_string_b2 k y s n) (fun s => some s) (k132 + 1) zs165) = some r := hm
      generalize hn162 : forI (fun k y s n => m_slices_Concat_string_string_b2 k y s n) (fun s => some s) (k132 + 1) zs165 = nx161 at hm
      unfold m_slices_Concat_string_string_b2 at hm
      refine C_skip (E_then ?_)
      refine C_seq ?_
      refine C_block ?_
      refine C_seq ?_
      refine C_region ?_
      obtain ⟨_, ⟨v171, rfl, h172⟩, hc170⟩ := (h0).elem hy166
      refine W_indexS rfl rfl Proofs.Try.runUnderlying64 Proofs.Try.sizeOf39 rfl ((h0.mono hle114).mono hle160) rfl (Int.natCast_nonneg _) hy166 ?_
      refine W_load rfl rfl Proofs.Try.isAgg39 rfl (HCells.one ((hc170.mono hle114).mono hle160) 0 rfl).at ?_
      refine W_assign rfl rfl rfl ?_
      refine W_end ?_
      refine E_then ?_
      refine C_region ?_
      refine W_move rfl rfl rfl ?_
      refine W_move rfl rfl rfl ?_
      obtain ⟨hz173, hm⟩ := need_some hm
      refine W_appendO (α := ByteArray) (l := l157) (ys := y164) rfl rfl Proofs.Try.underlying39 ⟨_, rfl, rfl, rfl, rfl⟩ rfl rfl rfl rfl rfl hr158 ((h172.mono hle114).mono hle160) hz173 ?_
      intro v174 xs175 hr176
      refine W_assign rfl rfl rfl ?_
      refine W_end ?_
      refine E_normal_block ?_
      refine E_then ?_
      refine C_region ?_
      refine W_bin rfl rfl rfl rfl rfl ?_
      refine W_move rfl rfl rfl ?_
      refine W_end ?_
      exact E_keepJ (E_back (Nat.lt_succ_self _) ⟨k132 + 1, zs165, (l157 ++ y164), v174, xs175, hd168, rfl, (by rw [hn162]; exact hm), hr176, hle160, rfl, rfl⟩) (List.Perm.refl _) ⟨rfl, rfl, rfl, (congrArg (fun z => some (Value.int .i64 z)) (i64_succ hy166 (((h0.mono hle114).mono hle160)).lenMax)), trivial⟩
    · obtain rfl := rng_f hd167 hb169
      have hm : (some l157) = some r := hm
      refine C_exit (E_exit_then ?_)
      refine E_exit_then ?_
      refine E_exit_hit ?_
      refine E_then ?_
      refine C_seq ?_
      refine C_region ?_
      refine W_move rfl rfl rfl ?_
      refine W_assign rfl rfl rfl ?_
      refine W_end ?_
      refine E_then ?_
      refine C_ret ?_
      obtain rfl := Option.some.inj hm
      refine E_weak (Hp.le_trans hle114 hle160) ?_
      exact end1 rfl rfl ⟨rfl, v155, xs156, rfl, rfl, (hr158).toF⟩

theorem m_gridhallkeep4_ShedBack_c {B : Nat} {w0 w : World} {H : Hp} {M : List Res} {p0_l : (List S_api_ShedStage)} {frequencies : (List Int)} {v0 : Value} {v1 : Value} {r : Bool} (hm : m_gridhallkeep4_ShedBack p0_l frequencies = some r) (h0 : RdS H v0 p0_l) (h1 : RdS H v1 frequencies) (ht : St B w0 H (M) w) :
    Calls Proofs.Try.prog 8 [v0, v1].toArray w (Ret B w0 fun H' M' v => H = H' ∧ M = M' ∧ .bool (r) = v) := by
  unfold m_gridhallkeep4_ShedBack at hm
  refine enter Proofs.Try.func8 rfl rfl rfl ht ?_
  refine C_seq ?_
  refine C_region ?_
  refine W_assign rfl rfl rfl ?_
  refine W_end ?_
  refine E_then ?_
  refine C_seq ?_
  refine C_region ?_
  refine W_move rfl rfl rfl ?_
  obtain ⟨r101, hc102, hm⟩ := bind_some hm
  refine W_call Proofs.Try.call15 rfl rfl rfl (fun w ht => by have h := m_shed_New_c (hm := hc102) h0 ht; exact h) ?_
  rintro _ H119 _ (⟨hn113, hle115, rfl, rfl⟩ | ⟨sp103, hn116, hle118, b104, v105, v107, xs108, v110, xs111, rfl, rfl, h106, h109, h112⟩)
  · have hm := optC_n hn113 hm
    refine W_move rfl rfl rfl ?_
    refine W_extract rfl rfl rfl rfl ?_
    refine W_extract rfl rfl rfl rfl ?_
    refine W_assign rfl rfl rfl ?_
    refine W_assign rfl rfl rfl ?_
    refine W_end ?_
    refine E_then ?_
    refine C_seq ?_
    refine C_seq_join (fun H' M' L' => H119 = H' ∧ M = M' ∧ [(0, v0), (1, v1), (5, .pointer none), (6, .int .i64 (r101.2)), (33, .bool (true))] = L') ?_ (fun J121 => ?_)
    · rintro _ _ _ ⟨rfl, rfl, rfl⟩
      refine C_cond (b := true) rfl (fun _ => ?_) (fun hb => Bool.noConfusion hb)
      refine C_seq ?_
      refine C_region ?_
      obtain ⟨r122, hc123, hm⟩ := bind_some hm
      refine W_call Proofs.Try.call16 rfl rfl rfl (fun w ht => by have h := m_gridhallkeep4_shedFact_c (hm := hc123)  ht; exact h) ?_
      rintro _ _ _ ⟨rfl, rfl, rfl⟩
      refine W_move rfl rfl rfl ?_
      cases hb124 : (r122)
      · have hm := ite_f' hb124 hm
        refine W_no rfl rfl rfl ?_
        refine W_no rfl rfl rfl ?_
        refine W_pick rfl rfl rfl rfl ?_
        refine W_move rfl rfl rfl ?_
        refine W_no rfl rfl rfl ?_
        refine W_no rfl rfl rfl ?_
        refine W_no rfl rfl rfl ?_
        refine W_no rfl rfl rfl ?_
        refine W_pick rfl rfl rfl rfl ?_
        refine W_assign rfl rfl rfl ?_
        refine W_end ?_
        refine E_then ?_
        refine C_ret ?_
        refine E_ret_then ?_
        obtain rfl := Option.some.inj hm
        refine E_weak hle115 ?_
        exact end1 rfl rfl ⟨rfl, rfl, rfl⟩
      · have hm := ite_t' hb124 hm
        refine W_move rfl rfl rfl ?_
        refine W_ptrNil rfl rfl Proofs.Try.runUnderlying36 rfl rfl ?_
        refine W_pick rfl rfl rfl rfl ?_
        refine W_move rfl rfl rfl ?_
        refine W_move rfl rfl rfl ?_
        obtain ⟨r125, hc126, hm⟩ := bind_some hm
        refine W_call Proofs.Try.call20 rfl rfl rfl (fun w ht => by have h := m_shed_Check_c (hm := hc126) (h0.mono hle115) ht; exact h) ?_
        rintro _ _ _ ⟨rfl, rfl, rfl⟩
        refine W_move rfl rfl rfl ?_
        refine W_bin rfl rfl rfl rfl rfl ?_
        refine W_pick rfl rfl rfl rfl ?_
        refine W_assign rfl rfl rfl ?_
        refine W_end ?_
        refine E_then ?_
        refine C_ret ?_
        refine E_ret_then ?_
        obtain rfl := Option.some.inj hm
        refine E_weak hle115 ?_
        exact end1 rfl rfl ⟨rfl, rfl, rfl⟩
    · refine C_region ?_
      refine W_move rfl rfl rfl ?_
      refine W_bin rfl rfl rfl rfl rfl ?_
      refine W_move rfl rfl rfl ?_
      cases hb127 : (decide (r101.2 = 0))
      · refine W_no rfl rfl rfl ?_
        refine W_no rfl rfl rfl ?_
        refine W_pick rfl rfl rfl rfl ?_
        refine W_end ?_
        exact E_keepJ (J121 _ _ _ ⟨rfl, rfl, rfl⟩) (List.Perm.refl _) ⟨rfl, rfl, rfl, rfl, rfl, trivial⟩
      · refine W_move rfl rfl rfl ?_
        refine W_ptrNil rfl rfl Proofs.Try.runUnderlying36 rfl rfl ?_
        refine W_pick rfl rfl rfl rfl ?_
        refine W_end ?_
        exact E_keepJ (J121 _ _ _ ⟨rfl, rfl, rfl⟩) (List.Perm.refl _) ⟨rfl, rfl, rfl, rfl, rfl, trivial⟩
  · have hm := optC_s hn116 hm
    refine W_move rfl rfl rfl ?_
    refine W_extract rfl rfl rfl rfl ?_
    refine W_extract rfl rfl rfl rfl ?_
    refine W_assign rfl rfl rfl ?_
    refine W_assign rfl rfl rfl ?_
    refine W_end ?_
    refine E_then ?_
    refine C_seq ?_
    refine C_seq_join (fun H' M' L' => H119 = H' ∧ .obj b104 (.cells [v105, v107, v110].toArray 58 (0, 0)) :: .row v107 3 (Rep.sz Int) sp103.count.length xs108 :: .row v110 3 (Rep.sz Int) sp103.acted.length xs111 :: M = M' ∧ [(0, v0), (1, v1), (5, .pointer (some ⟨b104, 0, none⟩)), (6, .int .i64 (r101.2)), (33, .bool (!decide (r101.2 = 0)))] = L') ?_ (fun J129 => ?_)
    · rintro _ _ _ ⟨rfl, rfl, rfl⟩
      refine C_cond (b := !decide (r101.2 = 0)) rfl (fun hb130 => ?_) (fun hb130 => ?_)
      · have hm := ite_t' hb130 hm
        refine C_seq ?_
        refine C_region ?_
        obtain ⟨r131, hc132, hm⟩ := bind_some hm
        refine W_call Proofs.Try.call16 rfl rfl rfl (fun w ht => by have h := m_gridhallkeep4_shedFact_c (hm := hc132)  ht; exact h) ?_
        rintro _ _ _ ⟨rfl, rfl, rfl⟩
        refine W_move rfl rfl rfl ?_
        cases hb133 : (r131)
        · have hm := ite_f' hb133 hm
          refine W_no rfl rfl rfl ?_
          refine W_no rfl rfl rfl ?_
          refine W_pick rfl rfl rfl rfl ?_
          refine W_move rfl rfl rfl ?_
          refine W_no rfl rfl rfl ?_
          refine W_no rfl rfl rfl ?_
          refine W_no rfl rfl rfl ?_
          refine W_no rfl rfl rfl ?_
          refine W_pick rfl rfl rfl rfl ?_
          refine W_assign rfl rfl rfl ?_
          refine W_end ?_
          refine E_then ?_
          refine C_ret ?_
          refine E_ret_then ?_
          obtain rfl := Option.some.inj hm
          refine E_drop (List.Sublist.cons _ (List.Sublist.cons _ (List.Sublist.cons _ (List.Sublist.refl _)))) ?_
          refine E_weak hle118 ?_
          exact end1 rfl rfl ⟨rfl, rfl, rfl⟩
        · have hm := ite_t' hb133 hm
          refine W_move rfl rfl rfl ?_
          refine W_ptrNil rfl rfl Proofs.Try.runUnderlying36 rfl rfl ?_
          refine W_pick rfl rfl rfl rfl ?_
          refine W_move rfl rfl rfl ?_
          refine W_no rfl rfl rfl ?_
          refine W_no rfl rfl rfl ?_
          refine W_no rfl rfl rfl ?_
          refine W_no rfl rfl rfl ?_
          refine W_pick rfl rfl rfl rfl ?_
          refine W_assign rfl rfl rfl ?_
          refine W_end ?_
          refine E_then ?_
          refine C_ret ?_
          refine E_ret_then ?_
          obtain rfl := Option.some.inj hm
          refine E_drop (List.Sublist.cons _ (List.Sublist.cons _ (List.Sublist.cons _ (List.Sublist.refl _)))) ?_
          refine E_weak hle118 ?_
          exact end1 rfl rfl ⟨rfl, rfl, rfl⟩
      · have hm := ite_f' hb130 hm
        refine C_skip ?_
        refine E_then ?_
        refine C_seq ?_
        refine C_region ?_
        refine W_move rfl rfl rfl ?_
        refine W_move rfl rfl rfl ?_
        refine W_lenR rfl rfl Proofs.Try.runUnderlying35 rfl (h1.mono hle118) ?_
        refine W_min rfl rfl rfl rfl ?_
        obtain ⟨hz134, hm⟩ := need_some hm
        refine W_sliceR (α := Int) (l := 0) (h := (min (frequencies.length : Int) 20 : Int).toNat) (xs := frequencies) rfl rfl Proofs.Try.runUnderlying35 Proofs.Try.sizeOf3 rfl (h1.mono hle118) (by omega) (by omega) (.inl rfl) (fun cap hcap => by rw [if_pos rfl]; exact (.inl ⟨rfl, rfl⟩)) (fun m hmm => (.inr ⟨_, _, _, rfl, rfl, by omega, by omega, rfl⟩)) (.inl ⟨rfl, rfl⟩) ?_
        intro v135 h136 hc137
        refine W_assign rfl rfl rfl ?_
        refine W_end ?_
        refine E_then ?_
        refine C_seq ?_
        refine C_seq ?_
        refine C_region ?_
        refine W_move rfl rfl rfl ?_
        refine W_lenR rfl rfl Proofs.Try.runUnderlying35 rfl h136 ?_
        refine W_move rfl rfl rfl ?_
        refine W_end ?_
        refine E_then ?_
        refine C_block ?_
        refine C_keep (L' := [(0, v0), (1, v135), (5, .pointer (some ⟨b104, 0, none⟩)), (50, v135), (51, .int .i64 (((slc frequencies 0 ((min (frequencies.length : Int) 20 : Int).toNat)).length : Int))), (52, .int .i64 (((0 : Nat) : Int)))]) ⟨rfl, rfl, rfl, rfl, rfl, rfl, trivial⟩ (List.Perm.trans (List.Perm.swap _ _ _) (List.Perm.cons _ (List.Perm.swap _ _ _))) ?_
        refine C_loop (fun n H' M' L' => ∃ (k138 : Nat) (zs216' : List Int), ∃ l200 : (List S_api_ShedStage), ∃ l204 : List Int, ∃ l208 : List Int, ∃ v199 : Value, ∃ v202 : Value, ∃ xs203 : List Value, ∃ v206 : Value, ∃ xs207 : List Value, (slc frequencies 0 ((min (frequencies.length : Int) 20 : Int).toNat)).drop k138 = zs216' ∧ zs216'.length = n ∧ forI (fun k y s n => m_gridhallkeep4_ShedBack_b1 k y s.1 s.2.1 s.2.2 n) (fun s => (m_shed_Shed_Off (S_shed_Shed.mk s.1 s.2.1 s.2.2)).bind fun r726 => if decide (0 < (r726.length : Int)) then ((m_shed_Shed_Back (S_shed_Shed.mk s.1 s.2.1 s.2.2) ((-1))).bind fun r732 => if decide (r732.2.1 = 11) then (if decide (0 < (r732.1.length : Int)) then (some false) else ((m_shed_Shed_Off r732.2.2).bind fun r750 => if !decide ((r750.length : Int) = (r726.length : Int)) then (some false) else (m_gridhallkeep4_ShedBack_b4 p0_l frequencies r732.2.2.stages r732.2.2.count r732.2.2.acted))) else (some false)) else (m_gridhallkeep4_ShedBack_b4 p0_l frequencies s.1 s.2.1 s.2.2)) k138 zs216' (l200, l204, l208) = some r ∧ RdS H' v199 l200 ∧ Rw H' v202 xs203 l204 ∧ Rw H' v206 xs207 l208 ∧ H119.le H' ∧ .row v202 3 (Rep.sz Int) l204.length xs203 :: .row v206 3 (Rep.sz Int) l208.length xs207 :: .obj b104 (.cells [v199, v202, v206].toArray 58 (0, 0)) :: M = M' ∧ [(0, v0), (1, v135), (5, .pointer (some ⟨b104, 0, none⟩)), (50, v135), (51, .int .i64 (((slc frequencies 0 ((min (frequencies.length : Int) 20 : Int).toNat)).length : Int))), (52, .int .i64 ((k138 : Int)))] = L') _ ⟨0, _, sp103.stages, sp103.count, sp103.acted, v105, v107, xs108, v110, xs111, rfl, rfl, hm, h106, h109, h112, (Hp.le_refl _), rfl, rfl⟩ ?_
        rintro _ H210 _ _ ⟨k138, zs216', l200, l204, l208, v199, v202, xs203, v206, xs207, hd218, rfl, hm, h201, hr205, hr209, hle211, rfl, rfl⟩
        refine C_seq ?_
        refine C_region ?_
        refine W_bin rfl rfl rfl rfl rfl ?_
        refine W_end (E_then ?_)
        refine C_seq ?_
        refine C_cond (b := decide ((k138 : Int) < ((slc frequencies 0 ((min (frequencies.length : Int) 20 : Int).toNat)).length : Int))) rfl (fun hb220 => ?_) (fun hb220 => ?_)
        · obtain ⟨y215, zs216, rfl, hy217, hd219⟩ := rng_t hd218 hb220
          have hm : m_gridhallkeep4_ShedBack_b1 k138 y215 l200 l204 l208 (forI (fun k y s n => m_gridhallkeep4_ShedBack_b1 k y s.1 s.2.1 s.2.2 n) (fun s => (m_shed_Shed_Off (S_shed_Shed.mk s.1 s.2.1 s.2.2)).bind fun r726 => if decide (0 < (r726.length : Int)) then ((m_shed_Shed_Back (S_shed_Shed.mk s.1 s.2.1 s.2.2) ((-1))).bind fun r732 => if decide (r732.2.1 = 11) then (if decide (0 < (r732.1.length : Int)) then (some false) else ((m_shed_Shed_Off r732.2.2).bind fun r750 => if !decide ((r750.length : Int) = (r726.length : Int)) then (some false) else (m_gridhallkeep4_ShedBack_b4 p0_l frequencies r732.2.2.stages r732.2.2.count r732.2.2.acted))) else (some false)) else (m_gridhallkeep4_ShedBack_b4 p0_l frequencies s.1 s.2.1 s.2.2)) (k138 + 1) zs216) = some r := hm
          generalize hn213 : forI (fun k y s n => m_gridhallkeep4_ShedBack_b1 k y s.1 s.2.1 s.2.2 n) (fun s => (m_shed_Shed_Off (S_shed_Shed.mk s.1 s.2.1 s.2.2)).bind fun r726 => if decide (0 < (r726.length : Int)) then ((m_shed_Shed_Back (S_shed_Shed.mk s.1 s.2.1 s.2.2) ((-1))).bind fun r732 => if decide (r732.2.1 = 11) then (if decide (0 < (r732.1.length : Int)) then (some false) else ((m_shed_Shed_Off r732.2.2).bind fun r750 => if !decide ((r750.length : Int) = (r726.length : Int)) then (some false) else (m_gridhallkeep4_ShedBack_b4 p0_l frequencies r732.2.2.stages r732.2.2.count r732.2.2.acted))) else (some false)) else (m_gridhallkeep4_ShedBack_b4 p0_l frequencies s.1 s.2.1 s.2.2)) (k138 + 1) zs216 = nx212 at hm
          unfold m_gridhallkeep4_ShedBack_b1 at hm
          refine C_skip (E_then ?_)
          refine C_seq ?_
          refine C_block ?_
          refine C_seq ?_
          refine C_region ?_
          obtain ⟨_, rfl, hc221⟩ := (h136).elem hy217
          refine W_indexS rfl rfl Proofs.Try.runUnderlying35 Proofs.Try.sizeOf3 rfl (h136.mono hle211) rfl (Int.natCast_nonneg _) hy217 ?_
          refine W_load rfl rfl Proofs.Try.isAgg3 rfl (HCells.one (hc221.mono hle211) 0 rfl).at ?_
          refine W_assign rfl rfl rfl ?_
          refine W_end ?_
          refine E_then ?_
          refine C_region ?_
          refine W_move rfl rfl rfl ?_
          refine W_move rfl rfl rfl ?_
          refine W_perm (List.Perm.trans (List.Perm.cons _ (List.Perm.swap _ _ _)) (List.Perm.swap _ _ _)) ?_
          obtain ⟨r222, hc223, hm⟩ := bind_some hm
          refine W_call Proofs.Try.call17 rfl rfl rfl (fun w ht => by have h := m_shed_Shed_Step_c (hm := hc223) h201 hr205 hr209 ht; exact h) ?_
          rintro _ H236 _ ⟨hle237, v224, xs225, v228, v230, xs231, v233, xs234, rfl, rfl, h226, h229, h232, h235⟩
          refine W_end ?_
          refine E_normal_block ?_
          refine E_then ?_
          refine C_region ?_
          refine W_bin rfl rfl rfl rfl rfl ?_
          refine W_move rfl rfl rfl ?_
          refine W_end ?_
          refine E_drop (List.Sublist.cons _ (List.Sublist.refl _)) ?_
          exact E_keepJ (E_back (Nat.lt_succ_self _) ⟨k138 + 1, zs216, r222.2.2.stages, r222.2.2.count, r222.2.2.acted, v228, v230, xs231, v233, xs234, hd219, rfl, (by rw [hn213]; exact hm), h229, h232, h235, (Hp.le_trans hle211 hle237), rfl, rfl⟩) (List.Perm.trans (List.Perm.swap _ _ _) (List.Perm.cons _ (List.Perm.swap _ _ _))) ⟨rfl, rfl, rfl, rfl, rfl, (congrArg (fun z => some (Value.int .i64 z)) (i64_succ hy217 ((h136.mono hle211)).lenMax)), trivial⟩
        · obtain rfl := rng_f hd218 hb220
          have hm : ((m_shed_Shed_Off (S_shed_Shed.mk l200 l204 l208)).bind fun r726 => if decide (0 < (r726.length : Int)) then ((m_shed_Shed_Back (S_shed_Shed.mk l200 l204 l208) ((-1))).bind fun r732 => if decide (r732.2.1 = 11) then (if decide (0 < (r732.1.length : Int)) then (some false) else ((m_shed_Shed_Off r732.2.2).bind fun r750 => if !decide ((r750.length : Int) = (r726.length : Int)) then (some false) else (m_gridhallkeep4_ShedBack_b4 p0_l frequencies r732.2.2.stages r732.2.2.count r732.2.2.acted))) else (some false)) else (m_gridhallkeep4_ShedBack_b4 p0_l frequencies l200 l204 l208)) = some r := hm
          refine C_exit (E_exit_then ?_)
          refine E_exit_then ?_
          refine E_exit_hit ?_
          refine E_then ?_
          refine C_seq_join (fun H' M' L' => ∃ l269 : (List S_api_ShedStage), ∃ l273 : List Int, ∃ l277 : List Int, ∃ v268 : Value, ∃ v271 : Value, ∃ xs272 : List Value, ∃ v275 : Value, ∃ xs276 : List Value, m_gridhallkeep4_ShedBack_b4 p0_l frequencies l269 l273 l277 = some r ∧ RdS H' v268 l269 ∧ Rw H' v271 xs272 l273 ∧ Rw H' v275 xs276 l277 ∧ H210.le H' ∧ .row v271 3 (Rep.sz Int) l273.length xs272 :: .row v275 3 (Rep.sz Int) l277.length xs276 :: .obj b104 (.cells [v268, v271, v275].toArray 58 (0, 0)) :: M = M' ∧ [(0, v0), (1, v135), (5, .pointer (some ⟨b104, 0, none⟩))] = L') ?_ (fun J281 => ?_)
          · rintro H279 _ _ ⟨l269, l273, l277, v268, v271, xs272, v275, xs276, hm, h270, hr274, hr278, hle280, rfl, rfl⟩
            unfold m_gridhallkeep4_ShedBack_b4 at hm
            refine C_seq ?_
            refine C_seq ?_
            refine C_region ?_
            refine W_move rfl rfl rfl ?_
            refine W_end ?_
            refine E_then ?_
            refine C_block ?_
            refine C_keep (L' := [(0, v0), (1, v135), (5, .pointer (some ⟨b104, 0, none⟩)), (84, .int .i64 (((0 : Nat) : Int)))]) ⟨rfl, rfl, rfl, rfl, trivial⟩ (List.Perm.refl _) ?_
            refine C_loop (fun n H' M' L' => ∃ (k282 : Nat) (zs424' : Nat), ∃ l408 : (List S_api_ShedStage), ∃ l412 : List Int, ∃ l416 : List Int, ∃ v407 : Value, ∃ v410 : Value, ∃ xs411 : List Value, ∃ v414 : Value, ∃ xs415 : List Value, k282 + zs424' = (8 : Int).toNat ∧ zs424' = n ∧ forN (fun k s n => m_gridhallkeep4_ShedBack_b2 k s.1 s.2.1 s.2.2 n) (fun s => (m_shed_Shed_Step (S_shed_Shed.mk s.1 s.2.1 s.2.2) 0).bind fun r478 => (m_shed_New p0_l).bind fun r494 => optC r494.1 (some false) (fun sp496 => if !decide (r494.2 = 0) then (some false) else (forI (fun k y s n => m_gridhallkeep4_ShedBack_b3 k y s.1 s.2.1 s.2.2.1 s.2.2.2.1 s.2.2.2.2.1 s.2.2.2.2.2 n) (fun s => (m_gridhallkeep4_shedFact).bind fun r712 => if r712 then ((m_shed_Shed_Off (S_shed_Shed.mk s.2.2.2.1 s.2.2.2.2.1 s.2.2.2.2.2)).bind fun r715 => (m_shed_Shed_Off (S_shed_Shed.mk s.1 s.2.1 s.2.2.1)).bind fun r720 => some (decide ((r715.length : Int) = (r720.length : Int)))) else (some false)) 0 (slc frequencies 0 ((min (frequencies.length : Int) 20 : Int).toNat)) (sp496.stages, sp496.count, sp496.acted, r478.2.2.stages, r478.2.2.count, r478.2.2.acted)))) zs424' k282 (l408, l412, l416) = some r ∧ RdS H' v407 l408 ∧ Rw H' v410 xs411 l412 ∧ Rw H' v414 xs415 l416 ∧ H279.le H' ∧ .row v410 3 (Rep.sz Int) l412.length xs411 :: .row v414 3 (Rep.sz Int) l416.length xs415 :: .obj b104 (.cells [v407, v410, v414].toArray 58 (0, 0)) :: M = M' ∧ [(0, v0), (1, v135), (5, .pointer (some ⟨b104, 0, none⟩)), (84, .int .i64 ((k282 : Int)))] = L') _ ⟨0, _, l269, l273, l277, v268, v271, xs272, v275, xs276, Nat.zero_add _, rfl, hm, h270, hr274, hr278, (Hp.le_refl _), rfl, rfl⟩ ?_
            rintro _ H418 _ _ ⟨k282, zs424', l408, l412, l416, v407, v410, xs411, v414, xs415, hd426, rfl, hm, h409, hr413, hr417, hle419, rfl, rfl⟩
            refine C_seq ?_
            refine C_region ?_
            refine W_bin rfl rfl rfl rfl rfl ?_
            refine W_end (E_then ?_)
            refine C_seq ?_
            refine C_cond (b := decide ((k282 : Int) < 8)) rfl (fun hb428 => ?_) (fun hb428 => ?_)
            · obtain ⟨zs424, rfl, hd427, hy425⟩ := rngN_t hd426 hb428
              have hm : m_gridhallkeep4_ShedBack_b2 k282 l408 l412 l416 (forN (fun k s n => m_gridhallkeep4_ShedBack_b2 k s.1 s.2.1 s.2.2 n) (fun s => (m_shed_Shed_Step (S_shed_Shed.mk s.1 s.2.1 s.2.2) 0).bind fun r478 => (m_shed_New p0_l).bind fun r494 => optC r494.1 (some false) (fun sp496 => if !decide (r494.2 = 0) then (some false) else (forI (fun k y s n => m_gridhallkeep4_ShedBack_b3 k y s.1 s.2.1 s.2.2.1 s.2.2.2.1 s.2.2.2.2.1 s.2.2.2.2.2 n) (fun s => (m_gridhallkeep4_shedFact).bind fun r712 => if r712 then ((m_shed_Shed_Off (S_shed_Shed.mk s.2.2.2.1 s.2.2.2.2.1 s.2.2.2.2.2)).bind fun r715 => (m_shed_Shed_Off (S_shed_Shed.mk s.1 s.2.1 s.2.2.1)).bind fun r720 => some (decide ((r715.length : Int) = (r720.length : Int)))) else (some false)) 0 (slc frequencies 0 ((min (frequencies.length : Int) 20 : Int).toNat)) (sp496.stages, sp496.count, sp496.acted, r478.2.2.stages, r478.2.2.count, r478.2.2.acted)))) zs424 (k282 + 1)) = some r := hm
              generalize hn421 : forN (fun k s n => m_gridhallkeep4_ShedBack_b2 k s.1 s.2.1 s.2.2 n) (fun s => (m_shed_Shed_Step (S_shed_Shed.mk s.1 s.2.1 s.2.2) 0).bind fun r478 => (m_shed_New p0_l).bind fun r494 => optC r494.1 (some false) (fun sp496 => if !decide (r494.2 = 0) then (some false) else (forI (fun k y s n => m_gridhallkeep4_ShedBack_b3 k y s.1 s.2.1 s.2.2.1 s.2.2.2.1 s.2.2.2.2.1 s.2.2.2.2.2 n) (fun s => (m_gridhallkeep4_shedFact).bind fun r712 => if r712 then ((m_shed_Shed_Off (S_shed_Shed.mk s.2.2.2.1 s.2.2.2.2.1 s.2.2.2.2.2)).bind fun r715 => (m_shed_Shed_Off (S_shed_Shed.mk s.1 s.2.1 s.2.2.1)).bind fun r720 => some (decide ((r715.length : Int) = (r720.length : Int)))) else (some false)) 0 (slc frequencies 0 ((min (frequencies.length : Int) 20 : Int).toNat)) (sp496.stages, sp496.count, sp496.acted, r478.2.2.stages, r478.2.2.count, r478.2.2.acted)))) zs424 (k282 + 1) = nx420 at hm
              unfold m_gridhallkeep4_ShedBack_b2 at hm
              refine C_skip (E_then ?_)
              refine C_seq ?_
              refine C_block ?_
              refine C_seq ?_
              refine C_region ?_
              refine W_move rfl rfl rfl ?_
              refine W_perm (List.Perm.trans (List.Perm.cons _ (List.Perm.swap _ _ _)) (List.Perm.swap _ _ _)) ?_
              obtain ⟨r429, hc430, hm⟩ := bind_some hm
              refine W_call Proofs.Try.call18 rfl rfl rfl (fun w ht => by have h := m_shed_Shed_Off_c (hm := hc430) h409 hr413 hr417 ht; exact h) ?_
              rintro _ _ _ ⟨rfl, v431, xs432, rfl, rfl, h433⟩
              have h433 := h433 H418
              refine W_assign rfl rfl rfl ?_
              refine W_end ?_
              refine E_then ?_
              refine C_seq ?_
              refine C_region ?_
              refine W_move rfl rfl rfl ?_
              refine W_perm (List.Perm.trans (List.Perm.swap _ _ _) (List.Perm.trans (List.Perm.cons _ (List.Perm.swap _ _ _)) (List.Perm.cons _ (List.Perm.cons _ (List.Perm.swap _ _ _))))) ?_
              obtain ⟨r434, hc435, hm⟩ := bind_some hm
              refine W_call Proofs.Try.call21 rfl rfl rfl (fun w ht => by have h := m_shed_Shed_Back_c (hm := hc435) h409 hr413 hr417 ht; exact h) ?_
              rintro _ H448 _ ⟨hle449, v436, xs437, v440, v442, xs443, v445, xs446, rfl, rfl, h438, h441, h444, h447⟩
              refine W_move rfl rfl rfl ?_
              refine W_extract rfl rfl rfl rfl ?_
              refine W_extract rfl rfl rfl rfl ?_
              refine W_assign rfl rfl rfl ?_
              refine W_assign rfl rfl rfl ?_
              refine W_end ?_
              refine E_then ?_
              refine C_seq ?_
              refine C_seq_join (fun H' M' L' => H448 = H' ∧ .row v436 9 (Rep.sz ByteArray) r434.1.length xs437 :: .obj b104 (.cells [v440, v442, v445].toArray 58 (0, 0)) :: .row v442 3 (Rep.sz Int) r434.2.2.count.length xs443 :: .row v445 3 (Rep.sz Int) r434.2.2.acted.length xs446 :: .row v431 9 (Rep.sz ByteArray) r429.length xs432 :: M = M' ∧ [(0, v0), (1, v135), (5, .pointer (some ⟨b104, 0, none⟩)), (12, v431), (13, v436), (84, .int .i64 ((k282 : Int))), (103, .bool ((!decide (r434.2.1 = 0)) && ((!decide (r434.2.1 = 11)) || (decide (0 < (r429.length : Int))))))] = L') ?_ (fun J452 => ?_)
              · rintro _ _ _ ⟨rfl, rfl, rfl⟩
                refine C_cond (b := (!decide (r434.2.1 = 0)) && ((!decide (r434.2.1 = 11)) || (decide (0 < (r429.length : Int))))) rfl (fun hb453 => ?_) (fun hb453 => ?_)
                · have hm := ite_t' hb453 hm
                  refine C_seq ?_
                  refine C_region ?_
                  refine W_assign rfl rfl rfl ?_
                  refine W_end ?_
                  refine E_then ?_
                  refine C_ret ?_
                  refine E_ret_then ?_
                  refine E_ret_block ?_
                  refine E_ret_then ?_
                  refine E_ret_then ?_
                  refine E_ret_block ?_
                  refine E_ret_then ?_
                  obtain rfl := Option.some.inj hm
                  refine E_drop (List.Sublist.cons _ (List.Sublist.cons _ (List.Sublist.cons _ (List.Sublist.cons _ (List.Sublist.cons _ (List.Sublist.refl _)))))) ?_
                  refine E_weak (Hp.le_trans (Hp.le_trans (Hp.le_trans (Hp.le_trans hle118 hle211) hle280) hle419) hle449) ?_
                  exact end1 rfl rfl ⟨rfl, rfl, rfl⟩
                · have hm := ite_f' hb453 hm
                  refine C_skip ?_
                  refine E_then ?_
                  refine C_seq ?_
                  refine C_region ?_
                  refine W_move rfl rfl rfl ?_
                  refine W_perm (List.Perm.trans (List.Perm.swap _ _ _) (List.Perm.trans (List.Perm.cons _ (List.Perm.swap _ _ _)) (List.Perm.cons _ (List.Perm.cons _ (List.Perm.swap _ _ _))))) ?_
                  obtain ⟨r454, hc455, hm⟩ := bind_some hm
                  refine W_call Proofs.Try.call18 rfl rfl rfl (fun w ht => by have h := m_shed_Shed_Off_c (hm := hc455) h441 h444 h447 ht; exact h) ?_
                  rintro _ _ _ ⟨rfl, v456, xs457, rfl, rfl, h458⟩
                  have h458 := h458 H448
                  refine W_move rfl rfl rfl ?_
                  refine W_freeze (h458).rd rfl (fun H459 hle460 h461 => ?_)
                  refine W_perm (List.Perm.trans (List.Perm.cons _ (List.Perm.cons _ (List.Perm.swap _ _ _))) (List.Perm.trans (List.Perm.cons _ (List.Perm.swap _ _ _)) (List.Perm.swap _ _ _))) ?_
                  refine W_freeze ((h438.mono hle460)).rd rfl (fun H462 hle463 h464 => ?_)
                  refine W_buildSliceO (α := (List ByteArray)) (css := [[v456], [v436]]) (zs := [.slice none 0 0, .slice none 0 0]) (out := [v456, v436]) (ys := [r454, r434.1]) rfl rfl rfl ⟨(RdS.cells (h461.mono hle463)), (RdS.cells h464), trivial⟩ Proofs.Try.runUnderlying64 Proofs.Try.sizeOf39 rfl Proofs.Try.zeroValue39 (by kernel_rfl) rfl rfl rfl rfl ⟨[v456], [v436], rfl, ⟨v456, rfl, (h461.mono hle463)⟩, ⟨[v436], [], rfl, ⟨v436, rfl, h464⟩, rfl⟩⟩ rfl ?_
                  intro v465 xs466 hr467
                  obtain ⟨r468, hc469, hm⟩ := bind_some hm
                  refine W_call Proofs.Try.call23 rfl rfl rfl (fun w ht => by obtain ⟨H0_, hl0_, ht0_, hr0_, bk0_⟩ := ht.lendRow hr467 rfl; have h := m_slices_Concat_string_string_c (hm := hc469) hr0_ ht0_; exact lend_back bk0_ (h)) ?_
                  rintro _ _ _ ⟨rfl, ⟨_, rfl, v470, xs471, rfl, rfl, h472⟩⟩
                  have h472 := h472 H462
                  refine W_move rfl rfl rfl ?_
                  refine W_perm (List.Perm.trans (List.Perm.swap _ _ _) (List.Perm.trans (List.Perm.cons _ (List.Perm.cons _ (List.Perm.cons _ (List.Perm.cons _ (List.Perm.swap _ _ _))))) (List.Perm.trans (List.Perm.cons _ (List.Perm.cons _ (List.Perm.cons _ (List.Perm.swap _ _ _)))) (List.Perm.trans (List.Perm.cons _ (List.Perm.cons _ (List.Perm.swap _ _ _))) (List.Perm.cons _ (List.Perm.swap _ _ _)))))) ?_
                  obtain ⟨r473, hc474, hm⟩ := bind_some hm
                  refine W_call Proofs.Try.call22 rfl rfl rfl (fun w ht => by obtain ⟨H0_, hl0_, ht0_, hr0_, bk0_⟩ := ht.lendRow h472 rfl; obtain ⟨H1_, hl1_, ht1_, hr1_, bk1_⟩ := ht0_.lendRow ((((h433.mono hle449).mono hle460).mono hle463).mono hl0_) rfl; have h := m_slices_Equal_string_string_c (hm := hc474) (hr0_.mono hl1_) hr1_ ht1_; exact lend_back bk0_ (lend_back bk1_ (h))) ?_
                  rintro _ _ _ ⟨rfl, ⟨_, rfl, ⟨_, rfl, rfl, rfl⟩⟩⟩
                  refine W_un rfl rfl rfl rfl ?_
                  refine W_end ?_
                  refine E_then ?_
                  refine C_cond (b := !r473) rfl (fun hb475 => ?_) (fun hb475 => ?_)
                  · have hm := ite_t' hb475 hm
                    refine C_seq ?_
                    refine C_region ?_
                    refine W_assign rfl rfl rfl ?_
                    refine W_end ?_
                    refine E_then ?_
                    refine C_ret ?_
                    refine E_ret_block ?_
                    refine E_ret_then ?_
                    refine E_ret_then ?_
                    refine E_ret_block ?_
                    refine E_ret_then ?_
                    obtain rfl := Option.some.inj hm
                    refine E_drop (List.Sublist.cons _ (List.Sublist.cons _ (List.Sublist.cons _ (List.Sublist.cons _ (List.Sublist.cons _ (List.Sublist.cons _ (List.Sublist.refl _))))))) ?_
                    refine E_weak (Hp.le_trans (Hp.le_trans (Hp.le_trans (Hp.le_trans (Hp.le_trans (Hp.le_trans hle118 hle211) hle280) hle419) hle449) hle460) hle463) ?_
                    exact end1 rfl rfl ⟨rfl, rfl, rfl⟩
                  · have hm := ite_f' hb475 hm
                    refine C_skip ?_
                    refine E_normal_block ?_
                    refine E_then ?_
                    refine C_region ?_
                    refine W_bin rfl rfl rfl rfl rfl ?_
                    refine W_move rfl rfl rfl ?_
                    refine W_end ?_
                    refine E_drop (List.Sublist.cons _ (List.Sublist.cons _ (List.Sublist.cons _ (List.Sublist.refl _)))) ?_
                    exact E_keepJ (E_back (Nat.lt_succ_self _) ⟨k282 + 1, zs424, r434.2.2.stages, r434.2.2.count, r434.2.2.acted, v440, v442, xs443, v445, xs446, hd427, rfl, (by rw [hn421]; exact hm), ((h441.mono hle460).mono hle463), ((h444.mono hle460).mono hle463), ((h447.mono hle460).mono hle463), (Hp.le_trans (Hp.le_trans (Hp.le_trans hle419 hle449) hle460) hle463), rfl, rfl⟩) (List.Perm.trans (List.Perm.swap _ _ _) (List.Perm.cons _ (List.Perm.swap _ _ _))) ⟨rfl, rfl, rfl, (congrArg (fun z => some (Value.int .i64 z)) (i64_succN hy425 (toNat_max (by decide)))), trivial⟩
              · refine C_region ?_
                refine W_move rfl rfl rfl ?_
                refine W_bin rfl rfl rfl rfl rfl ?_
                refine W_move rfl rfl rfl ?_
                cases hb476 : (decide (r434.2.1 = 0))
                · refine W_move rfl rfl rfl ?_
                  refine W_bin rfl rfl rfl rfl rfl ?_
                  refine W_move rfl rfl rfl ?_
                  cases hb477 : (decide (r434.2.1 = 11))
                  · refine W_no rfl rfl rfl ?_
                    refine W_no rfl rfl rfl ?_
                    refine W_no rfl rfl rfl ?_
                    refine W_pick rfl rfl rfl rfl ?_
                    refine W_pick rfl rfl rfl rfl ?_
                    refine W_end ?_
                    exact E_keepJ (J452 _ _ _ ⟨rfl, rfl, rfl⟩) (List.Perm.refl _) ⟨rfl, rfl, rfl, rfl, rfl, rfl, (by show some (Value.bool (true)) = some (Value.bool ((!decide (r434.2.1 = 0)) && ((!decide (r434.2.1 = 11)) || (decide (0 < (r429.length : Int)))))); simp only [hb130, hb476, hb477, Bool.and_true, Bool.true_and, Bool.false_and, Bool.and_false, Bool.or_true, Bool.true_or, Bool.or_false, Bool.false_or, Bool.not_true, Bool.not_false]), trivial⟩
                  · refine W_move rfl rfl rfl ?_
                    refine W_lenO (List.mem_cons_of_mem _ (List.mem_cons_of_mem _ (List.mem_cons_of_mem _ (List.mem_cons_of_mem _ (List.mem_cons_self ..))))) rfl rfl Proofs.Try.runUnderlying39 rfl ?_
                    refine W_bin rfl rfl rfl rfl rfl ?_
                    refine W_pick rfl rfl rfl rfl ?_
                    refine W_pick rfl rfl rfl rfl ?_
                    refine W_end ?_
                    exact E_keepJ (J452 _ _ _ ⟨rfl, rfl, rfl⟩) (List.Perm.refl _) ⟨rfl, rfl, rfl, rfl, rfl, rfl, (by show some (Value.bool (decide (0 < (r429.length : Int)))) = some (Value.bool ((!decide (r434.2.1 = 0)) && ((!decide (r434.2.1 = 11)) || (decide (0 < (r429.length : Int)))))); simp only [hb130, hb476, hb477, Bool.and_true, Bool.true_and, Bool.false_and, Bool.and_false, Bool.or_true, Bool.true_or, Bool.or_false, Bool.false_or, Bool.not_true, Bool.not_false]), trivial⟩
                · refine W_no rfl rfl rfl ?_
                  refine W_no rfl rfl rfl ?_
                  refine W_no rfl rfl rfl ?_
                  refine W_no rfl rfl rfl ?_
                  refine W_no rfl rfl rfl ?_
                  refine W_no rfl rfl rfl ?_
                  refine W_no rfl rfl rfl ?_
                  refine W_pick rfl rfl rfl rfl ?_
                  refine W_end ?_
                  exact E_keepJ (J452 _ _ _ ⟨rfl, rfl, rfl⟩) (List.Perm.refl _) ⟨rfl, rfl, rfl, rfl, rfl, rfl, (by show some (Value.bool (false)) = some (Value.bool ((!decide (r434.2.1 = 0)) && ((!decide (r434.2.1 = 11)) || (decide (0 < (r429.length : Int)))))); simp only [hb130, hb476, Bool.and_true, Bool.true_and, Bool.false_and, Bool.and_false, Bool.or_true, Bool.true_or, Bool.or_false, Bool.false_or, Bool.not_true, Bool.not_false]), trivial⟩
            · obtain rfl := rngN_f hd426 hb428
              have hm : ((m_shed_Shed_Step (S_shed_Shed.mk l408 l412 l416) 0).bind fun r478 => (m_shed_New p0_l).bind fun r494 => optC r494.1 (some false) (fun sp496 => if !decide (r494.2 = 0) then (some false) else (forI (fun k y s n => m_gridhallkeep4_ShedBack_b3 k y s.1 s.2.1 s.2.2.1 s.2.2.2.1 s.2.2.2.2.1 s.2.2.2.2.2 n) (fun s => (m_gridhallkeep4_shedFact).bind fun r712 => if r712 then ((m_shed_Shed_Off (S_shed_Shed.mk s.2.2.2.1 s.2.2.2.2.1 s.2.2.2.2.2)).bind fun r715 => (m_shed_Shed_Off (S_shed_Shed.mk s.1 s.2.1 s.2.2.1)).bind fun r720 => some (decide ((r715.length : Int) = (r720.length : Int)))) else (some false)) 0 (slc frequencies 0 ((min (frequencies.length : Int) 20 : Int).toNat)) (sp496.stages, sp496.count, sp496.acted, r478.2.2.stages, r478.2.2.count, r478.2.2.acted)))) = some r := hm
              refine C_exit (E_exit_then ?_)
              refine E_exit_then ?_
              refine E_exit_hit ?_
              refine E_then ?_
              refine C_seq ?_
              refine C_region ?_
              refine W_move rfl rfl rfl ?_
              refine W_perm (List.Perm.trans (List.Perm.cons _ (List.Perm.swap _ _ _)) (List.Perm.swap _ _ _)) ?_
              obtain ⟨r478, hc479, hm⟩ := bind_some hm
              refine W_call Proofs.Try.call17 rfl rfl rfl (fun w ht => by have h := m_shed_Shed_Step_c (hm := hc479) h409 hr413 hr417 ht; exact h) ?_
              rintro _ H492 _ ⟨hle493, v480, xs481, v484, v486, xs487, v489, xs490, rfl, rfl, h482, h485, h488, h491⟩
              refine W_end ?_
              refine E_then ?_
              refine C_seq ?_
              refine C_region ?_
              refine W_move rfl rfl rfl ?_
              obtain ⟨r494, hc495, hm⟩ := bind_some hm
              refine W_call Proofs.Try.call15 rfl rfl rfl (fun w ht => by have h := m_shed_New_c (hm := hc495) (((((h0.mono hle118).mono hle211).mono hle280).mono hle419).mono hle493) ht; exact h) ?_
              rintro _ H512 _ (⟨hn506, hle508, rfl, rfl⟩ | ⟨sp496, hn509, hle511, b497, v498, v500, xs501, v503, xs504, rfl, rfl, h499, h502, h505⟩)
              · have hm := optC_n hn506 hm
                refine W_move rfl rfl rfl ?_
                refine W_extract rfl rfl rfl rfl ?_
                refine W_extract rfl rfl rfl rfl ?_
                refine W_assign rfl rfl rfl ?_
                refine W_assign rfl rfl rfl ?_
                refine W_end ?_
                refine E_then ?_
                refine C_seq ?_
                refine C_seq_join (fun H' M' L' => H512 = H' ∧ .obj b104 (.cells [v484, v486, v489].toArray 58 (0, 0)) :: .row v486 3 (Rep.sz Int) r478.2.2.count.length xs487 :: .row v489 3 (Rep.sz Int) r478.2.2.acted.length xs490 :: M = M' ∧ [(1, v135), (5, .pointer (some ⟨b104, 0, none⟩)), (15, .pointer none), (125, .bool (true))] = L') ?_ (fun J514 => ?_)
                · rintro _ _ _ ⟨rfl, rfl, rfl⟩
                  refine C_cond (b := true) rfl (fun _ => ?_) (fun hb => Bool.noConfusion hb)
                  refine C_seq ?_
                  refine C_region ?_
                  refine W_assign rfl rfl rfl ?_
                  refine W_end ?_
                  refine E_then ?_
                  refine C_ret ?_
                  refine E_ret_then ?_
                  obtain rfl := Option.some.inj hm
                  refine E_drop (List.Sublist.cons _ (List.Sublist.cons _ (List.Sublist.cons _ (List.Sublist.refl _)))) ?_
                  refine E_weak (Hp.le_trans (Hp.le_trans (Hp.le_trans (Hp.le_trans (Hp.le_trans hle118 hle211) hle280) hle419) hle493) hle508) ?_
                  exact end1 rfl rfl ⟨rfl, rfl, rfl⟩
                · refine C_region ?_
                  refine W_move rfl rfl rfl ?_
                  refine W_bin rfl rfl rfl rfl rfl ?_
                  refine W_move rfl rfl rfl ?_
                  cases hb515 : (decide (r494.2 = 0))
                  · refine W_no rfl rfl rfl ?_
                    refine W_no rfl rfl rfl ?_
                    refine W_pick rfl rfl rfl rfl ?_
                    refine W_end ?_
                    refine E_drop (List.Sublist.cons _ (List.Sublist.refl _)) ?_
                    exact E_keepJ (J514 _ _ _ ⟨rfl, rfl, rfl⟩) (List.Perm.refl _) ⟨rfl, rfl, rfl, rfl, trivial⟩
                  · refine W_move rfl rfl rfl ?_
                    refine W_ptrNil rfl rfl Proofs.Try.runUnderlying36 rfl rfl ?_
                    refine W_pick rfl rfl rfl rfl ?_
                    refine W_end ?_
                    refine E_drop (List.Sublist.cons _ (List.Sublist.refl _)) ?_
                    exact E_keepJ (J514 _ _ _ ⟨rfl, rfl, rfl⟩) (List.Perm.refl _) ⟨rfl, rfl, rfl, rfl, trivial⟩
              · have hm := optC_s hn509 hm
                refine W_move rfl rfl rfl ?_
                refine W_extract rfl rfl rfl rfl ?_
                refine W_extract rfl rfl rfl rfl ?_
                refine W_assign rfl rfl rfl ?_
                refine W_assign rfl rfl rfl ?_
                refine W_end ?_
                refine E_then ?_
                refine C_seq ?_
                refine C_seq_join (fun H' M' L' => H512 = H' ∧ .obj b497 (.cells [v498, v500, v503].toArray 58 (0, 0)) :: .row v500 3 (Rep.sz Int) sp496.count.length xs501 :: .row v503 3 (Rep.sz Int) sp496.acted.length xs504 :: .obj b104 (.cells [v484, v486, v489].toArray 58 (0, 0)) :: .row v486 3 (Rep.sz Int) r478.2.2.count.length xs487 :: .row v489 3 (Rep.sz Int) r478.2.2.acted.length xs490 :: M = M' ∧ [(1, v135), (5, .pointer (some ⟨b104, 0, none⟩)), (15, .pointer (some ⟨b497, 0, none⟩)), (125, .bool (!decide (r494.2 = 0)))] = L') ?_ (fun J517 => ?_)
                · rintro _ _ _ ⟨rfl, rfl, rfl⟩
                  refine C_cond (b := !decide (r494.2 = 0)) rfl (fun hb518 => ?_) (fun hb518 => ?_)
                  · have hm := ite_t' hb518 hm
                    refine C_seq ?_
                    refine C_region ?_
                    refine W_assign rfl rfl rfl ?_
                    refine W_end ?_
                    refine E_then ?_
                    refine C_ret ?_
                    refine E_ret_then ?_
                    obtain rfl := Option.some.inj hm
                    refine E_drop (List.Sublist.cons _ (List.Sublist.cons _ (List.Sublist.cons _ (List.Sublist.cons _ (List.Sublist.cons _ (List.Sublist.cons _ (List.Sublist.refl _))))))) ?_
                    refine E_weak (Hp.le_trans (Hp.le_trans (Hp.le_trans (Hp.le_trans (Hp.le_trans hle118 hle211) hle280) hle419) hle493) hle511) ?_
                    exact end1 rfl rfl ⟨rfl, rfl, rfl⟩
                  · have hm := ite_f' hb518 hm
                    refine C_skip ?_
                    refine E_then ?_
                    refine C_seq ?_
                    refine C_seq ?_
                    refine C_region ?_
                    refine W_move rfl rfl rfl ?_
                    refine W_lenR rfl rfl Proofs.Try.runUnderlying35 rfl (((((h136.mono hle211).mono hle280).mono hle419).mono hle493).mono hle511) ?_
                    refine W_move rfl rfl rfl ?_
                    refine W_end ?_
                    refine E_then ?_
                    refine C_block ?_
                    refine C_keep (L' := [(5, .pointer (some ⟨b104, 0, none⟩)), (15, .pointer (some ⟨b497, 0, none⟩)), (126, v135), (127, .int .i64 (((slc frequencies 0 ((min (frequencies.length : Int) 20 : Int).toNat)).length : Int))), (128, .int .i64 (((0 : Nat) : Int)))]) ⟨rfl, rfl, rfl, rfl, rfl, trivial⟩ (List.Perm.trans (List.Perm.swap _ _ _) (List.Perm.trans (List.Perm.cons _ (List.Perm.swap _ _ _)) (List.Perm.trans (List.Perm.cons _ (List.Perm.cons _ (List.Perm.cons _ (List.Perm.swap _ _ _)))) (List.Perm.trans (List.Perm.cons _ (List.Perm.cons _ (List.Perm.swap _ _ _))) (List.Perm.trans (List.Perm.cons _ (List.Perm.cons _ (List.Perm.cons _ (List.Perm.cons _ (List.Perm.swap _ _ _))))) (List.Perm.cons _ (List.Perm.cons _ (List.Perm.cons _ (List.Perm.swap _ _ _))))))))) ?_
                    refine C_loop (fun n H' M' L' => ∃ (k519 : Nat) (zs670' : List Int), ∃ l643 : (List S_api_ShedStage), ∃ l647 : List Int, ∃ l651 : List Int, ∃ l654 : (List S_api_ShedStage), ∃ l658 : List Int, ∃ l662 : List Int, ∃ v642 : Value, ∃ v645 : Value, ∃ xs646 : List Value, ∃ v649 : Value, ∃ xs650 : List Value, ∃ v653 : Value, ∃ v656 : Value, ∃ xs657 : List Value, ∃ v660 : Value, ∃ xs661 : List Value, (slc frequencies 0 ((min (frequencies.length : Int) 20 : Int).toNat)).drop k519 = zs670' ∧ zs670'.length = n ∧ forI (fun k y s n => m_gridhallkeep4_ShedBack_b3 k y s.1 s.2.1 s.2.2.1 s.2.2.2.1 s.2.2.2.2.1 s.2.2.2.2.2 n) (fun s => (m_gridhallkeep4_shedFact).bind fun r712 => if r712 then ((m_shed_Shed_Off (S_shed_Shed.mk s.2.2.2.1 s.2.2.2.2.1 s.2.2.2.2.2)).bind fun r715 => (m_shed_Shed_Off (S_shed_Shed.mk s.1 s.2.1 s.2.2.1)).bind fun r720 => some (decide ((r715.length : Int) = (r720.length : Int)))) else (some false)) k519 zs670' (l643, l647, l651, l654, l658, l662) = some r ∧ RdS H' v642 l643 ∧ Rw H' v645 xs646 l647 ∧ Rw H' v649 xs650 l651 ∧ RdS H' v653 l654 ∧ Rw H' v656 xs657 l658 ∧ Rw H' v660 xs661 l662 ∧ H512.le H' ∧ .row v645 3 (Rep.sz Int) l647.length xs646 :: .row v649 3 (Rep.sz Int) l651.length xs650 :: .row v656 3 (Rep.sz Int) l658.length xs657 :: .row v660 3 (Rep.sz Int) l662.length xs661 :: .obj b497 (.cells [v642, v645, v649].toArray 58 (0, 0)) :: .obj b104 (.cells [v653, v656, v660].toArray 58 (0, 0)) :: M = M' ∧ [(5, .pointer (some ⟨b104, 0, none⟩)), (15, .pointer (some ⟨b497, 0, none⟩)), (126, v135), (127, .int .i64 (((slc frequencies 0 ((min (frequencies.length : Int) 20 : Int).toNat)).length : Int))), (128, .int .i64 ((k519 : Int)))] = L') _ ⟨0, _, sp496.stages, sp496.count, sp496.acted, r478.2.2.stages, r478.2.2.count, r478.2.2.acted, v498, v500, xs501, v503, xs504, v484, v486, xs487, v489, xs490, rfl, rfl, hm, h499, h502, h505, (h485.mono hle511), (h488.mono hle511), (h491.mono hle511), (Hp.le_refl _), rfl, rfl⟩ ?_
                    rintro _ H664 _ _ ⟨k519, zs670', l643, l647, l651, l654, l658, l662, v642, v645, xs646, v649, xs650, v653, v656, xs657, v660, xs661, hd672, rfl, hm, h644, hr648, hr652, h655, hr659, hr663, hle665, rfl, rfl⟩
                    refine C_seq ?_
                    refine C_region ?_
                    refine W_bin rfl rfl rfl rfl rfl ?_
                    refine W_end (E_then ?_)
                    refine C_seq ?_
                    refine C_cond (b := decide ((k519 : Int) < ((slc frequencies 0 ((min (frequencies.length : Int) 20 : Int).toNat)).length : Int))) rfl (fun hb674 => ?_) (fun hb674 => ?_)
                    · obtain ⟨y669, zs670, rfl, hy671, hd673⟩ := rng_t hd672 hb674
                      have hm : m_gridhallkeep4_ShedBack_b3 k519 y669 l643 l647 l651 l654 l658 l662 (forI (fun k y s n => m_gridhallkeep4_ShedBack_b3 k y s.1 s.2.1 s.2.2.1 s.2.2.2.1 s.2.2.2.2.1 s.2.2.2.2.2 n) (fun s => (m_gridhallkeep4_shedFact).bind fun r712 => if r712 then ((m_shed_Shed_Off (S_shed_Shed.mk s.2.2.2.1 s.2.2.2.2.1 s.2.2.2.2.2)).bind fun r715 => (m_shed_Shed_Off (S_shed_Shed.mk s.1 s.2.1 s.2.2.1)).bind fun r720 => some (decide ((r715.length : Int) = (r720.length : Int)))) else (some false)) (k519 + 1) zs670) = some r := hm
                      generalize hn667 : forI (fun k y s n => m_gridhallkeep4_ShedBack_b3 k y s.1 s.2.1 s.2.2.1 s.2.2.2.1 s.2.2.2.2.1 s.2.2.2.2.2 n) (fun s => (m_gridhallkeep4_shedFact).bind fun r712 => if r712 then ((m_shed_Shed_Off (S_shed_Shed.mk s.2.2.2.1 s.2.2.2.2.1 s.2.2.2.2.2)).bind fun r715 => (m_shed_Shed_Off (S_shed_Shed.mk s.1 s.2.1 s.2.2.1)).bind fun r720 => some (decide ((r715.length : Int) = (r720.length : Int)))) else (some false)) (k519 + 1) zs670 = nx666 at hm
                      unfold m_gridhallkeep4_ShedBack_b3 at hm
                      refine C_skip (E_then ?_)
                      refine C_seq ?_
                      refine C_block ?_
                      refine C_seq ?_
                      refine C_region ?_
                      obtain ⟨_, rfl, hc675⟩ := (h136).elem hy671
                      refine W_indexS rfl rfl Proofs.Try.runUnderlying35 Proofs.Try.sizeOf3 rfl ((((((h136.mono hle211).mono hle280).mono hle419).mono hle493).mono hle511).mono hle665) rfl (Int.natCast_nonneg _) hy671 ?_
                      refine W_load rfl rfl Proofs.Try.isAgg3 rfl (HCells.one ((((((hc675.mono hle211).mono hle280).mono hle419).mono hle493).mono hle511).mono hle665) 0 rfl).at ?_
                      refine W_assign rfl rfl rfl ?_
                      refine W_end ?_
                      refine E_then ?_
                      refine C_seq ?_
                      refine C_region ?_
                      refine W_move rfl rfl rfl ?_
                      refine W_move rfl rfl rfl ?_
                      refine W_perm (List.Perm.trans (List.Perm.cons _ (List.Perm.cons _ (List.Perm.cons _ (List.Perm.cons _ (List.Perm.swap _ _ _))))) (List.Perm.trans (List.Perm.cons _ (List.Perm.cons _ (List.Perm.cons _ (List.Perm.swap _ _ _)))) (List.Perm.trans (List.Perm.cons _ (List.Perm.cons _ (List.Perm.swap _ _ _))) (List.Perm.trans (List.Perm.cons _ (List.Perm.swap _ _ _)) (List.Perm.trans (List.Perm.swap _ _ _) (List.Perm.trans (List.Perm.cons _ (List.Perm.cons _ (List.Perm.swap _ _ _))) (List.Perm.trans (List.Perm.cons _ (List.Perm.swap _ _ _)) (List.Perm.trans (List.Perm.cons _ (List.Perm.cons _ (List.Perm.cons _ (List.Perm.swap _ _ _)))) (List.Perm.cons _ (List.Perm.cons _ (List.Perm.swap _ _ _))))))))))) ?_
                      obtain ⟨r676, hc677, hm⟩ := bind_some hm
                      refine W_call Proofs.Try.call17 rfl rfl rfl (fun w ht => by have h := m_shed_Shed_Step_c (hm := hc677) h655 hr659 hr663 ht; exact h) ?_
                      rintro _ H690 _ ⟨hle691, v678, xs679, v682, v684, xs685, v687, xs688, rfl, rfl, h680, h683, h686, h689⟩
                      refine W_move rfl rfl rfl ?_
                      refine W_extract rfl rfl rfl rfl ?_
                      refine W_extract rfl rfl rfl rfl ?_
                      refine W_assign rfl rfl rfl ?_
                      refine W_assign rfl rfl rfl ?_
                      refine W_end ?_
                      refine E_then ?_
                      refine C_seq ?_
                      refine C_region ?_
                      refine W_move rfl rfl rfl ?_
                      refine W_move rfl rfl rfl ?_
                      refine W_perm (List.Perm.trans (List.Perm.cons _ (List.Perm.cons _ (List.Perm.cons _ (List.Perm.cons _ (List.Perm.cons _ (List.Perm.swap _ _ _)))))) (List.Perm.trans (List.Perm.cons _ (List.Perm.cons _ (List.Perm.cons _ (List.Perm.cons _ (List.Perm.swap _ _ _))))) (List.Perm.trans (List.Perm.cons _ (List.Perm.cons _ (List.Perm.cons _ (List.Perm.swap _ _ _)))) (List.Perm.trans (List.Perm.cons _ (List.Perm.cons _ (List.Perm.swap _ _ _))) (List.Perm.trans (List.Perm.cons _ (List.Perm.swap _ _ _)) (List.Perm.trans (List.Perm.swap _ _ _) (List.Perm.trans (List.Perm.cons _ (List.Perm.cons _ (List.Perm.cons _ (List.Perm.cons _ (List.Perm.swap _ _ _))))) (List.Perm.trans (List.Perm.cons _ (List.Perm.cons _ (List.Perm.cons _ (List.Perm.swap _ _ _)))) (List.Perm.trans (List.Perm.cons _ (List.Perm.cons _ (List.Perm.swap _ _ _))) (List.Perm.trans (List.Perm.cons _ (List.Perm.swap _ _ _)) (List.Perm.trans (List.Perm.cons _ (List.Perm.cons _ (List.Perm.cons _ (List.Perm.cons _ (List.Perm.cons _ (List.Perm.swap _ _ _)))))) (List.Perm.trans (List.Perm.cons _ (List.Perm.cons _ (List.Perm.cons _ (List.Perm.cons _ (List.Perm.swap _ _ _))))) (List.Perm.trans (List.Perm.cons _ (List.Perm.cons _ (List.Perm.cons _ (List.Perm.swap _ _ _)))) (List.Perm.cons _ (List.Perm.cons _ (List.Perm.swap _ _ _)))))))))))))))) ?_
                      obtain ⟨r692, hc693, hm⟩ := bind_some hm
                      refine W_call Proofs.Try.call17 rfl rfl rfl (fun w ht => by have h := m_shed_Shed_Step_c (hm := hc693) (h644.mono hle691) (hr648.mono hle691) (hr652.mono hle691) ht; exact h) ?_
                      rintro _ H706 _ ⟨hle707, v694, xs695, v698, v700, xs701, v703, xs704, rfl, rfl, h696, h699, h702, h705⟩
                      refine W_move rfl rfl rfl ?_
                      refine W_extract rfl rfl rfl rfl ?_
                      refine W_extract rfl rfl rfl rfl ?_
                      refine W_assign rfl rfl rfl ?_
                      refine W_assign rfl rfl rfl ?_
                      refine W_end ?_
                      refine E_then ?_
                      refine C_seq ?_
                      refine C_region ?_
                      refine W_move rfl rfl rfl ?_
                      refine W_move rfl rfl rfl ?_
                      refine W_bin rfl rfl rfl rfl rfl ?_
                      refine W_move rfl rfl rfl ?_
                      cases hb708 : (decide (r676.2.1 = r692.2.1))
                      · have hm := ite_f' hb708 hm
                        refine W_no rfl rfl rfl ?_
                        refine W_no rfl rfl rfl ?_
                        refine W_no rfl rfl rfl ?_
                        refine W_no rfl rfl rfl ?_
                        refine W_pick rfl rfl rfl rfl ?_
                        refine W_end ?_
                        refine E_then ?_
                        refine C_cond (b := true) rfl (fun _ => ?_) (fun hb => Bool.noConfusion hb)
                        refine C_seq ?_
                        refine C_region ?_
                        refine W_assign rfl rfl rfl ?_
                        refine W_end ?_
                        refine E_then ?_
                        refine C_ret ?_
                        refine E_ret_block ?_
                        refine E_ret_then ?_
                        refine E_ret_then ?_
                        refine E_ret_block ?_
                        refine E_ret_then ?_
                        obtain rfl := Option.some.inj hm
                        refine E_drop (List.Sublist.cons _ (List.Sublist.cons _ (List.Sublist.cons _ (List.Sublist.cons _ (List.Sublist.cons _ (List.Sublist.cons _ (List.Sublist.cons _ (List.Sublist.cons _ (List.Sublist.refl _))))))))) ?_
                        refine E_weak (Hp.le_trans (Hp.le_trans (Hp.le_trans (Hp.le_trans (Hp.le_trans (Hp.le_trans (Hp.le_trans (Hp.le_trans hle118 hle211) hle280) hle419) hle493) hle511) hle665) hle691) hle707) ?_
                        exact end1 rfl rfl ⟨rfl, rfl, rfl⟩
                      · have hm := ite_t' hb708 hm
                        refine W_move rfl rfl rfl ?_
                        refine W_move rfl rfl rfl ?_
                        refine W_perm (List.Perm.trans (List.Perm.cons _ (List.Perm.cons _ (List.Perm.cons _ (List.Perm.swap _ _ _)))) (List.Perm.trans (List.Perm.cons _ (List.Perm.cons _ (List.Perm.swap _ _ _))) (List.Perm.trans (List.Perm.cons _ (List.Perm.swap _ _ _)) (List.Perm.swap _ _ _)))) ?_
                        obtain ⟨r709, hc710, hm⟩ := bind_some hm
                        refine W_call Proofs.Try.call22 rfl rfl rfl (fun w ht => by obtain ⟨H0_, hl0_, ht0_, hr0_, bk0_⟩ := ht.lendRow (h680.mono hle707) rfl; obtain ⟨H1_, hl1_, ht1_, hr1_, bk1_⟩ := ht0_.lendRow (h696.mono hl0_) rfl; have h := m_slices_Equal_string_string_c (hm := hc710) (hr0_.mono hl1_) hr1_ ht1_; exact lend_back bk0_ (lend_back bk1_ (h))) ?_
                        rintro _ _ _ ⟨rfl, ⟨_, rfl, ⟨_, rfl, rfl, rfl⟩⟩⟩
                        refine W_un rfl rfl rfl rfl ?_
                        refine W_pick rfl rfl rfl rfl ?_
                        refine W_end ?_
                        refine E_then ?_
                        refine C_cond (b := !r709) rfl (fun hb711 => ?_) (fun hb711 => ?_)
                        · have hm := ite_t' hb711 hm
                          refine C_seq ?_
                          refine C_region ?_
                          refine W_assign rfl rfl rfl ?_
                          refine W_end ?_
                          refine E_then ?_
                          refine C_ret ?_
                          refine E_ret_block ?_
                          refine E_ret_then ?_
                          refine E_ret_then ?_
                          refine E_ret_block ?_
                          refine E_ret_then ?_
                          obtain rfl := Option.some.inj hm
                          refine E_drop (List.Sublist.cons _ (List.Sublist.cons _ (List.Sublist.cons _ (List.Sublist.cons _ (List.Sublist.cons _ (List.Sublist.cons _ (List.Sublist.cons _ (List.Sublist.cons _ (List.Sublist.refl _))))))))) ?_
                          refine E_weak (Hp.le_trans (Hp.le_trans (Hp.le_trans (Hp.le_trans (Hp.le_trans (Hp.le_trans (Hp.le_trans (Hp.le_trans hle118 hle211) hle280) hle419) hle493) hle511) hle665) hle691) hle707) ?_
                          exact end1 rfl rfl ⟨rfl, rfl, rfl⟩
                        · have hm := ite_f' hb711 hm
                          refine C_skip ?_
                          refine E_normal_block ?_
                          refine E_then ?_
                          refine C_region ?_
                          refine W_bin rfl rfl rfl rfl rfl ?_
                          refine W_move rfl rfl rfl ?_
                          refine W_end ?_
                          refine E_drop (List.Sublist.cons _ (List.Sublist.cons _ (List.Sublist.refl _))) ?_
                          exact E_keepJ (E_back (Nat.lt_succ_self _) ⟨k519 + 1, zs670, r692.2.2.stages, r692.2.2.count, r692.2.2.acted, r676.2.2.stages, r676.2.2.count, r676.2.2.acted, v698, v700, xs701, v703, xs704, v682, v684, xs685, v687, xs688, hd673, rfl, (by rw [hn667]; exact hm), h699, h702, h705, (h683.mono hle707), (h686.mono hle707), (h689.mono hle707), (Hp.le_trans (Hp.le_trans hle665 hle691) hle707), rfl, rfl⟩) (List.Perm.trans (List.Perm.swap _ _ _) (List.Perm.trans (List.Perm.cons _ (List.Perm.swap _ _ _)) (List.Perm.trans (List.Perm.cons _ (List.Perm.cons _ (List.Perm.cons _ (List.Perm.swap _ _ _)))) (List.Perm.trans (List.Perm.cons _ (List.Perm.cons _ (List.Perm.swap _ _ _))) (List.Perm.trans (List.Perm.cons _ (List.Perm.cons _ (List.Perm.cons _ (List.Perm.cons _ (List.Perm.swap _ _ _))))) (List.Perm.cons _ (List.Perm.cons _ (List.Perm.cons _ (List.Perm.swap _ _ _))))))))) ⟨rfl, rfl, rfl, rfl, (congrArg (fun z => some (Value.int .i64 z)) (i64_succ hy671 (((((((h136.mono hle211).mono hle280).mono hle419).mono hle493).mono hle511).mono hle665)).lenMax)), trivial⟩
                    · obtain rfl := rng_f hd672 hb674
                      have hm : ((m_gridhallkeep4_shedFact).bind fun r712 => if r712 then ((m_shed_Shed_Off (S_shed_Shed.mk l654 l658 l662)).bind fun r715 => (m_shed_Shed_Off (S_shed_Shed.mk l643 l647 l651)).bind fun r720 => some (decide ((r715.length : Int) = (r720.length : Int)))) else (some false)) = some r := hm
                      refine C_exit (E_exit_then ?_)
                      refine E_exit_then ?_
                      refine E_exit_hit ?_
                      refine E_then ?_
                      refine C_seq ?_
                      refine C_region ?_
                      obtain ⟨r712, hc713, hm⟩ := bind_some hm
                      refine W_call Proofs.Try.call16 rfl rfl rfl (fun w ht => by have h := m_gridhallkeep4_shedFact_c (hm := hc713)  ht; exact h) ?_
                      rintro _ _ _ ⟨rfl, rfl, rfl⟩
                      refine W_move rfl rfl rfl ?_
                      cases hb714 : (r712)
                      · have hm := ite_f' hb714 hm
                        refine W_no rfl rfl rfl ?_
                        refine W_no rfl rfl rfl ?_
                        refine W_no rfl rfl rfl ?_
                        refine W_no rfl rfl rfl ?_
                        refine W_no rfl rfl rfl ?_
                        refine W_no rfl rfl rfl ?_
                        refine W_no rfl rfl rfl ?_
                        refine W_pick rfl rfl rfl rfl ?_
                        refine W_assign rfl rfl rfl ?_
                        refine W_end ?_
                        refine E_then ?_
                        refine C_ret ?_
                        obtain rfl := Option.some.inj hm
                        refine E_drop (List.Sublist.cons _ (List.Sublist.cons _ (List.Sublist.cons _ (List.Sublist.cons _ (List.Sublist.cons _ (List.Sublist.cons _ (List.Sublist.refl _))))))) ?_
                        refine E_weak (Hp.le_trans (Hp.le_trans (Hp.le_trans (Hp.le_trans (Hp.le_trans (Hp.le_trans hle118 hle211) hle280) hle419) hle493) hle511) hle665) ?_
                        exact end1 rfl rfl ⟨rfl, rfl, rfl⟩
                      · have hm := ite_t' hb714 hm
                        refine W_move rfl rfl rfl ?_
                        refine W_perm (List.Perm.trans (List.Perm.cons _ (List.Perm.cons _ (List.Perm.cons _ (List.Perm.cons _ (List.Perm.swap _ _ _))))) (List.Perm.trans (List.Perm.cons _ (List.Perm.cons _ (List.Perm.cons _ (List.Perm.swap _ _ _)))) (List.Perm.trans (List.Perm.cons _ (List.Perm.cons _ (List.Perm.swap _ _ _))) (List.Perm.trans (List.Perm.cons _ (List.Perm.swap _ _ _)) (List.Perm.trans (List.Perm.swap _ _ _) (List.Perm.trans (List.Perm.cons _ (List.Perm.cons _ (List.Perm.swap _ _ _))) (List.Perm.trans (List.Perm.cons _ (List.Perm.swap _ _ _)) (List.Perm.trans (List.Perm.cons _ (List.Perm.cons _ (List.Perm.cons _ (List.Perm.swap _ _ _)))) (List.Perm.cons _ (List.Perm.cons _ (List.Perm.swap _ _ _))))))))))) ?_
                        obtain ⟨r715, hc716, hm⟩ := bind_some hm
                        refine W_call Proofs.Try.call18 rfl rfl rfl (fun w ht => by have h := m_shed_Shed_Off_c (hm := hc716) h655 hr659 hr663 ht; exact h) ?_
                        rintro _ _ _ ⟨rfl, v717, xs718, rfl, rfl, h719⟩
                        have h719 := h719 H664
                        refine W_lenO (List.mem_cons_self ..) rfl rfl Proofs.Try.runUnderlying39 rfl ?_
                        refine W_move rfl rfl rfl ?_
                        refine W_perm (List.Perm.trans (List.Perm.cons _ (List.Perm.cons _ (List.Perm.cons _ (List.Perm.cons _ (List.Perm.cons _ (List.Perm.swap _ _ _)))))) (List.Perm.trans (List.Perm.cons _ (List.Perm.cons _ (List.Perm.cons _ (List.Perm.cons _ (List.Perm.swap _ _ _))))) (List.Perm.trans (List.Perm.cons _ (List.Perm.cons _ (List.Perm.cons _ (List.Perm.swap _ _ _)))) (List.Perm.trans (List.Perm.cons _ (List.Perm.cons _ (List.Perm.swap _ _ _))) (List.Perm.trans (List.Perm.cons _ (List.Perm.swap _ _ _)) (List.Perm.trans (List.Perm.swap _ _ _) (List.Perm.trans (List.Perm.cons _ (List.Perm.cons _ (List.Perm.cons _ (List.Perm.cons _ (List.Perm.swap _ _ _))))) (List.Perm.trans (List.Perm.cons _ (List.Perm.cons _ (List.Perm.cons _ (List.Perm.swap _ _ _)))) (List.Perm.trans (List.Perm.cons _ (List.Perm.cons _ (List.Perm.swap _ _ _))) (List.Perm.trans (List.Perm.cons _ (List.Perm.swap _ _ _)) (List.Perm.trans (List.Perm.cons _ (List.Perm.cons _ (List.Perm.cons _ (List.Perm.cons _ (List.Perm.cons _ (List.Perm.swap _ _ _)))))) (List.Perm.trans (List.Perm.cons _ (List.Perm.cons _ (List.Perm.cons _ (List.Perm.cons _ (List.Perm.swap _ _ _))))) (List.Perm.trans (List.Perm.cons _ (List.Perm.cons _ (List.Perm.cons _ (List.Perm.swap _ _ _)))) (List.Perm.cons _ (List.Perm.cons _ (List.Perm.swap _ _ _)))))))))))))))) ?_
                        obtain ⟨r720, hc721, hm⟩ := bind_some hm
                        refine W_call Proofs.Try.call18 rfl rfl rfl (fun w ht => by have h := m_shed_Shed_Off_c (hm := hc721) h644 hr648 hr652 ht; exact h) ?_
                        rintro _ _ _ ⟨rfl, v722, xs723, rfl, rfl, h724⟩
                        have h724 := h724 H664
                        refine W_lenO (List.mem_cons_self ..) rfl rfl Proofs.Try.runUnderlying39 rfl ?_
                        refine W_bin rfl rfl rfl rfl rfl ?_
                        refine W_pick rfl rfl rfl rfl ?_
                        refine W_assign rfl rfl rfl ?_
                        refine W_end ?_
                        refine E_then ?_
                        refine C_ret ?_
                        obtain rfl := Option.some.inj hm
                        refine E_drop (List.Sublist.cons _ (List.Sublist.cons _ (List.Sublist.cons _ (List.Sublist.cons _ (List.Sublist.cons _ (List.Sublist.cons _ (List.Sublist.cons _ (List.Sublist.cons _ (List.Sublist.refl _))))))))) ?_
                        refine E_weak (Hp.le_trans (Hp.le_trans (Hp.le_trans (Hp.le_trans (Hp.le_trans (Hp.le_trans hle118 hle211) hle280) hle419) hle493) hle511) hle665) ?_
                        exact end1 rfl rfl ⟨rfl, rfl, rfl⟩
                · refine C_region ?_
                  refine W_move rfl rfl rfl ?_
                  refine W_bin rfl rfl rfl rfl rfl ?_
                  refine W_move rfl rfl rfl ?_
                  cases hb725 : (decide (r494.2 = 0))
                  · refine W_no rfl rfl rfl ?_
                    refine W_no rfl rfl rfl ?_
                    refine W_pick rfl rfl rfl rfl ?_
                    refine W_end ?_
                    refine E_drop (List.Sublist.cons_cons _ (List.Sublist.cons_cons _ (List.Sublist.cons_cons _ (List.Sublist.cons _ (List.Sublist.refl _))))) ?_
                    exact E_keepJ (J517 _ _ _ ⟨rfl, rfl, rfl⟩) (List.Perm.refl _) ⟨rfl, rfl, rfl, (by show some (Value.bool (true)) = some (Value.bool (!decide (r494.2 = 0))); simp only [hb130, hb725, Bool.and_true, Bool.true_and, Bool.false_and, Bool.and_false, Bool.or_true, Bool.true_or, Bool.or_false, Bool.false_or, Bool.not_true, Bool.not_false]), trivial⟩
                  · refine W_move rfl rfl rfl ?_
                    refine W_ptrNil rfl rfl Proofs.Try.runUnderlying36 rfl rfl ?_
                    refine W_pick rfl rfl rfl rfl ?_
                    refine W_end ?_
                    refine E_drop (List.Sublist.cons_cons _ (List.Sublist.cons_cons _ (List.Sublist.cons_cons _ (List.Sublist.cons _ (List.Sublist.refl _))))) ?_
                    exact E_keepJ (J517 _ _ _ ⟨rfl, rfl, rfl⟩) (List.Perm.refl _) ⟨rfl, rfl, rfl, (by show some (Value.bool (false)) = some (Value.bool (!decide (r494.2 = 0))); simp only [hb130, hb725, Bool.and_true, Bool.true_and, Bool.false_and, Bool.and_false, Bool.or_true, Bool.true_or, Bool.or_false, Bool.false_or, Bool.not_true, Bool.not_false]), trivial⟩
          · refine C_seq ?_
            refine C_region ?_
            refine W_move rfl rfl rfl ?_
            refine W_perm (List.Perm.trans (List.Perm.cons _ (List.Perm.swap _ _ _)) (List.Perm.swap _ _ _)) ?_
            obtain ⟨r726, hc727, hm⟩ := bind_some hm
            refine W_call Proofs.Try.call18 rfl rfl rfl (fun w ht => by have h := m_shed_Shed_Off_c (hm := hc727) h201 hr205 hr209 ht; exact h) ?_
            rintro _ _ _ ⟨rfl, v728, xs729, rfl, rfl, h730⟩
            have h730 := h730 H210
            refine W_lenO (List.mem_cons_self ..) rfl rfl Proofs.Try.runUnderlying39 rfl ?_
            refine W_assign rfl rfl rfl ?_
            refine W_end ?_
            refine E_then ?_
            refine C_seq ?_
            refine C_region ?_
            refine W_move rfl rfl rfl ?_
            refine W_bin rfl rfl rfl rfl rfl ?_
            refine W_end ?_
            refine E_then ?_
            refine C_cond (b := decide (0 < (r726.length : Int))) rfl (fun hb731 => ?_) (fun hb731 => ?_)
            · have hm := ite_t' hb731 hm
              refine C_seq ?_
              refine C_region ?_
              refine W_move rfl rfl rfl ?_
              refine W_perm (List.Perm.trans (List.Perm.swap _ _ _) (List.Perm.trans (List.Perm.cons _ (List.Perm.swap _ _ _)) (List.Perm.cons _ (List.Perm.cons _ (List.Perm.swap _ _ _))))) ?_
              obtain ⟨r732, hc733, hm⟩ := bind_some hm
              refine W_call Proofs.Try.call21 rfl rfl rfl (fun w ht => by have h := m_shed_Shed_Back_c (hm := hc733) h201 hr205 hr209 ht; exact h) ?_
              rintro _ H746 _ ⟨hle747, v734, xs735, v738, v740, xs741, v743, xs744, rfl, rfl, h736, h739, h742, h745⟩
              refine W_move rfl rfl rfl ?_
              refine W_extract rfl rfl rfl rfl ?_
              refine W_extract rfl rfl rfl rfl ?_
              refine W_assign rfl rfl rfl ?_
              refine W_assign rfl rfl rfl ?_
              refine W_end ?_
              refine E_then ?_
              refine C_seq ?_
              refine C_region ?_
              refine W_move rfl rfl rfl ?_
              refine W_bin rfl rfl rfl rfl rfl ?_
              refine W_move rfl rfl rfl ?_
              cases hb748 : (decide (r732.2.1 = 11))
              · have hm := ite_f' hb748 hm
                refine W_no rfl rfl rfl ?_
                refine W_no rfl rfl rfl ?_
                refine W_no rfl rfl rfl ?_
                refine W_pick rfl rfl rfl rfl ?_
                refine W_move rfl rfl rfl ?_
                refine W_no rfl rfl rfl ?_
                refine W_no rfl rfl rfl ?_
                refine W_no rfl rfl rfl ?_
                refine W_no rfl rfl rfl ?_
                refine W_no rfl rfl rfl ?_
                refine W_pick rfl rfl rfl rfl ?_
                refine W_end ?_
                refine E_then ?_
                refine C_cond (b := true) rfl (fun _ => ?_) (fun hb => Bool.noConfusion hb)
                refine C_seq ?_
                refine C_region ?_
                refine W_assign rfl rfl rfl ?_
                refine W_end ?_
                refine E_then ?_
                refine C_ret ?_
                refine E_ret_then ?_
                obtain rfl := Option.some.inj hm
                refine E_drop (List.Sublist.cons _ (List.Sublist.cons _ (List.Sublist.cons _ (List.Sublist.cons _ (List.Sublist.cons _ (List.Sublist.refl _)))))) ?_
                refine E_weak (Hp.le_trans (Hp.le_trans hle118 hle211) hle747) ?_
                exact end1 rfl rfl ⟨rfl, rfl, rfl⟩
              · have hm := ite_t' hb748 hm
                refine W_move rfl rfl rfl ?_
                refine W_lenO (List.mem_cons_self ..) rfl rfl Proofs.Try.runUnderlying39 rfl ?_
                refine W_bin rfl rfl rfl rfl rfl ?_
                refine W_pick rfl rfl rfl rfl ?_
                refine W_move rfl rfl rfl ?_
                cases hb749 : (decide (0 < (r732.1.length : Int)))
                · have hm := ite_f' hb749 hm
                  refine W_move rfl rfl rfl ?_
                  refine W_perm (List.Perm.trans (List.Perm.swap _ _ _) (List.Perm.trans (List.Perm.cons _ (List.Perm.swap _ _ _)) (List.Perm.cons _ (List.Perm.cons _ (List.Perm.swap _ _ _))))) ?_
                  obtain ⟨r750, hc751, hm⟩ := bind_some hm
                  refine W_call Proofs.Try.call18 rfl rfl rfl (fun w ht => by have h := m_shed_Shed_Off_c (hm := hc751) h739 h742 h745 ht; exact h) ?_
                  rintro _ _ _ ⟨rfl, v752, xs753, rfl, rfl, h754⟩
                  have h754 := h754 H746
                  refine W_lenO (List.mem_cons_self ..) rfl rfl Proofs.Try.runUnderlying39 rfl ?_
                  refine W_move rfl rfl rfl ?_
                  refine W_bin rfl rfl rfl rfl rfl ?_
                  refine W_pick rfl rfl rfl rfl ?_
                  refine W_end ?_
                  refine E_then ?_
                  refine C_cond (b := !decide ((r750.length : Int) = (r726.length : Int))) rfl (fun hb755 => ?_) (fun hb755 => ?_)
                  · have hm := ite_t' hb755 hm
                    refine C_seq ?_
                    refine C_region ?_
                    refine W_assign rfl rfl rfl ?_
                    refine W_end ?_
                    refine E_then ?_
                    refine C_ret ?_
                    refine E_ret_then ?_
                    obtain rfl := Option.some.inj hm
                    refine E_drop (List.Sublist.cons _ (List.Sublist.cons _ (List.Sublist.cons _ (List.Sublist.cons _ (List.Sublist.cons _ (List.Sublist.cons _ (List.Sublist.refl _))))))) ?_
                    refine E_weak (Hp.le_trans (Hp.le_trans hle118 hle211) hle747) ?_
                    exact end1 rfl rfl ⟨rfl, rfl, rfl⟩
                  · have hm := ite_f' hb755 hm
                    refine C_skip ?_
                    refine E_drop (List.Sublist.cons _ (List.Sublist.cons_cons _ (List.Sublist.cons_cons _ (List.Sublist.cons_cons _ (List.Sublist.cons _ (List.Sublist.cons _ (List.Sublist.refl _))))))) ?_
                    exact E_keepJ (J281 _ _ _ ⟨r732.2.2.stages, r732.2.2.count, r732.2.2.acted, v738, v740, xs741, v743, xs744, hm, h739, h742, h745, hle747, rfl, rfl⟩) (List.Perm.trans (List.Perm.swap _ _ _) (List.Perm.cons _ (List.Perm.swap _ _ _))) ⟨rfl, rfl, rfl, trivial⟩
                · have hm := ite_t' hb749 hm
                  refine W_no rfl rfl rfl ?_
                  refine W_no rfl rfl rfl ?_
                  refine W_no rfl rfl rfl ?_
                  refine W_no rfl rfl rfl ?_
                  refine W_no rfl rfl rfl ?_
                  refine W_pick rfl rfl rfl rfl ?_
                  refine W_end ?_
                  refine E_then ?_
                  refine C_cond (b := true) rfl (fun _ => ?_) (fun hb => Bool.noConfusion hb)
                  refine C_seq ?_
                  refine C_region ?_
                  refine W_assign rfl rfl rfl ?_
                  refine W_end ?_
                  refine E_then ?_
                  refine C_ret ?_
                  refine E_ret_then ?_
                  obtain rfl := Option.some.inj hm
                  refine E_drop (List.Sublist.cons _ (List.Sublist.cons _ (List.Sublist.cons _ (List.Sublist.cons _ (List.Sublist.cons _ (List.Sublist.refl _)))))) ?_
                  refine E_weak (Hp.le_trans (Hp.le_trans hle118 hle211) hle747) ?_
                  exact end1 rfl rfl ⟨rfl, rfl, rfl⟩
            · have hm := ite_f' hb731 hm
              refine C_skip ?_
              refine E_drop (List.Sublist.cons _ (List.Sublist.refl _)) ?_
              exact E_keepJ (J281 _ _ _ ⟨l200, l204, l208, v199, v202, xs203, v206, xs207, hm, h201, hr205, hr209, (Hp.le_refl _), rfl, rfl⟩) (List.Perm.trans (List.Perm.swap _ _ _) (List.Perm.cons _ (List.Perm.swap _ _ _))) ⟨rfl, rfl, rfl, trivial⟩
    · refine C_region ?_
      refine W_move rfl rfl rfl ?_
      refine W_bin rfl rfl rfl rfl rfl ?_
      refine W_move rfl rfl rfl ?_
      cases hb756 : (decide (r101.2 = 0))
      · refine W_no rfl rfl rfl ?_
        refine W_no rfl rfl rfl ?_
        refine W_pick rfl rfl rfl rfl ?_
        refine W_end ?_
        exact E_keepJ (J129 _ _ _ ⟨rfl, rfl, rfl⟩) (List.Perm.refl _) ⟨rfl, rfl, rfl, rfl, (by show some (Value.bool (true)) = some (Value.bool (!decide (r101.2 = 0))); simp only [hb756, Bool.and_true, Bool.true_and, Bool.false_and, Bool.and_false, Bool.or_true, Bool.true_or, Bool.or_false, Bool.false_or, Bool.not_true, Bool.not_false]), trivial⟩
      · refine W_move rfl rfl rfl ?_
        refine W_ptrNil rfl rfl Proofs.Try.runUnderlying36 rfl rfl ?_
        refine W_pick rfl rfl rfl rfl ?_
        refine W_end ?_
        exact E_keepJ (J129 _ _ _ ⟨rfl, rfl, rfl⟩) (List.Perm.refl _) ⟨rfl, rfl, rfl, rfl, (by show some (Value.bool (false)) = some (Value.bool (!decide (r101.2 = 0))); simp only [hb756, Bool.and_true, Bool.true_and, Bool.false_and, Bool.and_false, Bool.or_true, Bool.true_or, Bool.or_false, Bool.false_or, Bool.not_true, Bool.not_false]), trivial⟩
end Go.Sim
