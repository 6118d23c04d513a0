/-
  Printed by a program: each Go function computes its model.
-/
import Derived.Test.YtfmhkgnbceoclaaConB3
namespace Go.Sim
open Go Go.Proofs.Try
set_option linter.unusedVariables false
set_option linter.unusedSimpArgs false
set_option maxRecDepth 100000
theorem m_slices_ContainsFunc_string_string__gridhallkeep4_BlackstartPlans_2_c {B : Nat} {w0 w : World} {H : Hp} {M : List Res} {p0_s : (List ByteArray)} {p1_f_0_0 : S_api_Network} {p1_f_0_1 : (List Int)} {p1_f_1 : S_api_BlackstartStep} {v0 : Value} {b0 : Nat} {b1 : Nat} {v1 : Value} {v2 : Value} {v3 : Value} {v4 : Value} {v5 : Value} {v6 : Value} {b2 : Nat} {v7 : Value} {b3 : Nat} {v8 : Value} {r : Bool} (hm : m_slices_ContainsFunc_string_string__gridhallkeep4_BlackstartPlans_2 p0_s p1_f_0_0 p1_f_0_1 p1_f_1 = some r) (h0 : RdS H v0 p0_s) (h1 : RdS H v1 p1_f_0_0.Nodes) (h2 : RdS H v2 p1_f_0_0.Switches) (h3 : RdS H v3 p1_f_0_0.Branches) (h4 : RdS H v4 p1_f_0_0.Gens) (h5 : RdS H v5 p1_f_0_0.Loads) (h6 : RdS H v6 p1_f_0_0.Stores) (h7 : RdS H v7 p1_f_0_1) (h8 : RdS H v8 p1_f_1.Devices) (ht : St B w0 H (.obj b0 (.cells ([.func (.func 12) [].toArray [.pointer (some ⟨b1, 0, none⟩), .pointer (some ⟨b2, 0, none⟩)].toArray] : List Value).toArray 49 (0, 0)) :: .obj b1 (.cells [v1, v2, v3, v4, v5, v6].toArray 29 (0, 0)) :: .obj b2 (.cells [v7].toArray 42 (0, 0)) :: .obj b3 (.cells [.string (p1_f_1.Gen), v8].toArray 38 (0, 0)) :: M) w) :
  Calls prog 14 [v0, .func (.func 15) [].toArray [.pointer (some ⟨b0, 0, none⟩), .pointer (some ⟨b3, 0, none⟩)].toArray].toArray w (Ret B w0 fun H' M' v => H = H' ∧ .obj b0 (.cells ([.func (.func 12) [].toArray [.pointer (some ⟨b1, 0, none⟩), .pointer (some ⟨b2, 0, none⟩)].toArray] : List Value).toArray 49 (0, 0)) :: .obj b1 (.cells [v1, v2, v3, v4, v5, v6].toArray 29 (0, 0)) :: .obj b2 (.cells [v7].toArray 42 (0, 0)) :: .obj b3 (.cells [.string (p1_f_1.Gen), v8].toArray 38 (0, 0)) :: M = M' ∧ .bool (r) = v) := by
 unfold m_slices_ContainsFunc_string_string__gridhallkeep4_BlackstartPlans_2 at hm
 refine enter func14 rfl rfl rfl ht ?_
 refine C_seq (C_region ?_)
 refine W_assign rfl rfl rfl ?_
 refine W_end (E_then (C_seq (C_region ?_)))
 refine W_move rfl rfl rfl ?_
 refine W_move rfl rfl rfl ?_
 obtain ⟨r101, hc102, hm⟩ := bind_some hm
 refine W_call call32 rfl rfl rfl (fun w ht => by have h := m_slices_IndexFunc_string_string__gridhallkeep4_BlackstartPlans_2_c (hm := hc102) h0 h1 h2 h3 h4 h5 h6 h7 h8 ht; exact h) ?_
 rintro _ _ _ ⟨rfl, rfl, rfl⟩
 refine W_bin rfl rfl rfl rfl rfl ?_
 refine W_assign rfl rfl rfl ?_
 refine W_end (E_then (C_ret ?_))
 obtain rfl := Option.some.inj hm
 refine E_weak (Hp.le_refl _) ?_
 exact end1 rfl rfl ⟨rfl, rfl, rfl⟩

theorem m_gridhallkeep4_BlackstartPlans_c {B : Nat} {w0 w : World} {H : Hp} {M : List Res} {p0_n : S_api_Network} {sources : (List ByteArray)} {v0 : Value} {v1 : Value} {v2 : Value} {v3 : Value} {v4 : Value} {v5 : Value} {v6 : Value} {r : Bool} (hm : m_gridhallkeep4_BlackstartPlans p0_n sources = some r) (h0 : RdS H v0 p0_n.Nodes) (h1 : RdS H v1 p0_n.Switches) (h2 : RdS H v2 p0_n.Branches) (h3 : RdS H v3 p0_n.Gens) (h4 : RdS H v4 p0_n.Loads) (h5 : RdS H v5 p0_n.Stores) (h6 : RdS H v6 sources) (ht : St B w0 H (M) w) :
  Calls prog 4 [.agg [v0, v1, v2, v3, v4, v5].toArray, v6].toArray w (Ret B w0 fun H' M' v => H = H' ∧ M = M' ∧ .bool (r) = v) := by
 unfold m_gridhallkeep4_BlackstartPlans at hm
 refine enter func4 rfl rfl rfl ht ?_
 refine C_seq (C_region ?_)
 refine W_box (cs := [v0, v1, v2, v3, v4, v5]) rfl rfl rfl rfl (fun b101 => ?_)
 refine W_assign rfl rfl rfl ?_
 refine W_end (E_then (C_seq (C_region ?_)))
 refine W_loadAgg rfl rfl isAgg29 sizeOf29 rfl (own_all (List.mem_cons_self ..)) rfl ?_
 obtain ⟨r102, hc103, hm⟩ := bind_some hm
 refine W_call call6 rfl rfl rfl (fun w ht => by have h := m_gridhallkeep4_cut_c (hm := hc103) h0 h1 h2 h3 h4 h5 ht; exact h) ?_
 rintro _ H116 _ ⟨hle117, v104, v106, v108, v110, v112, v114, rfl, rfl, h105, h107, h109, h111, h113, h115⟩
 refine W_store (cs := [v104, v106, v108, v110, v112, v114]) (out := [v104, v106, v108, v110, v112, v114]) rfl sizeOf29 rfl rfl rfl rfl rfl (all_cons (RdS.one1 h105) (all_cons (RdS.one1 h107) (all_cons (RdS.one1 h109) (all_cons (RdS.one1 h111) (all_cons (RdS.one1 h113) (all_cons (RdS.one1 h115) all_nil)))))) (over_all rfl) ?_
 refine W_end (E_then (C_seq (C_region ?_)))
 refine W_loadAgg rfl rfl isAgg29 sizeOf29 rfl (own_all (List.mem_cons_self ..)) rfl ?_
 refine W_move rfl rfl rfl ?_
 obtain ⟨r118, hc119, hm⟩ := bind_some hm
 refine W_call call7 rfl rfl rfl (fun w ht => by have h := m_blackstart_Plan_c (hm := hc119) h105 h107 h109 h111 h113 h115 (h6.mono hle117) ht; exact h) ?_
 rintro _ H123 _ ⟨hle124, v120, xs121, rfl, rfl, h122⟩
 refine W_move rfl rfl rfl ?_
 refine W_extract rfl rfl rfl rfl ?_
 refine W_extract rfl rfl rfl rfl ?_
 refine W_assign rfl rfl rfl ?_
 refine W_assign rfl rfl rfl ?_
 refine W_end (E_then (C_seq (C_seq (C_region ?_))))
 refine W_move rfl rfl rfl ?_
 refine W_bin rfl rfl rfl rfl rfl ?_
 refine W_end (E_then ?_)
 refine C_cond (b := !decide (r118.2 = 0)) rfl (fun hb125 => ?_) (fun hb125 => ?_)
 ·have hm := ite_t' hb125 hm
  obtain ⟨r129, hc130, hm⟩ := bind_some hm
  refine C_seq_join (fun H' M' L' => H123 = H' ∧ M = M' ∧ [(4, .bool (r129 && (decide ((r118.1.length : Int) = 0))))] = L') ?_ (fun J131 => ?_)
  ·rintro _ _ _ ⟨rfl, rfl, rfl⟩
   refine C_ret (E_ret_then ?_)
   obtain rfl := Option.some.inj hm
   refine E_weak (Hp.le_trans hle117 hle124) ?_
   exact end1 rfl rfl ⟨rfl, rfl, rfl⟩
  ·refine C_region ?_
   refine W_call call8 rfl rfl rfl (fun w ht => by have h := m_gridhallkeep4_blackstartFact_c (hm := hc130)  ht; exact h) ?_
   rintro _ _ _ ⟨rfl, rfl, rfl⟩
   refine W_move rfl rfl rfl ?_
   cases hb132 : (r129)
   ·refine W_no rfl rfl rfl ?_
    refine W_no rfl rfl rfl ?_
    refine W_no rfl rfl rfl ?_
    refine W_pick rfl rfl rfl rfl ?_
    refine W_assign rfl rfl rfl ?_
    refine W_end ?_
    refine E_drop (List.Sublist.cons _ (List.Sublist.cons _ (List.Sublist.refl _))) ?_
    exact E_keepJ (J131 _ _ _ ⟨rfl, rfl, rfl⟩) (List.Perm.refl _) ⟨(by show some (Value.bool (false)) = some (Value.bool (r129 && (decide ((r118.1.length : Int) = 0)))); first | (simp only [hb125, hb132, Bool.and_true, Bool.true_and, Bool.false_and, Bool.and_false, Bool.or_true, Bool.true_or, Bool.or_false, Bool.false_or, Bool.not_true, Bool.not_false]; done) | (simp only [hb125, hb132]; first | done | simp only [Bool.and_true, Bool.true_and, Bool.false_and, Bool.and_false, Bool.or_true, Bool.true_or, Bool.or_false, Bool.false_or, Bool.not_true, Bool.not_false])), trivial⟩
   ·refine W_move rfl rfl rfl ?_
    refine W_lenO (List.mem_cons_self ..) rfl rfl runUnderlying31 rfl ?_
    refine W_bin rfl rfl rfl rfl rfl ?_
    refine W_pick rfl rfl rfl rfl ?_
    refine W_assign rfl rfl rfl ?_
    refine W_end ?_
    refine E_drop (List.Sublist.cons _ (List.Sublist.cons _ (List.Sublist.refl _))) ?_
    exact E_keepJ (J131 _ _ _ ⟨rfl, rfl, rfl⟩) (List.Perm.refl _) ⟨(by show some (Value.bool (decide ((r118.1.length : Int) = 0))) = some (Value.bool (r129 && (decide ((r118.1.length : Int) = 0)))); first | (simp only [hb125, hb132, Bool.and_true, Bool.true_and, Bool.false_and, Bool.and_false, Bool.or_true, Bool.true_or, Bool.or_false, Bool.false_or, Bool.not_true, Bool.not_false]; done) | (simp only [hb125, hb132]; first | done | simp only [Bool.and_true, Bool.true_and, Bool.false_and, Bool.and_false, Bool.or_true, Bool.true_or, Bool.or_false, Bool.false_or, Bool.not_true, Bool.not_false])), trivial⟩
 ·have hm := ite_f' hb125 hm
  refine C_skip (E_then (C_seq (C_region ?_)))
  refine W_loadAgg rfl rfl isAgg29 sizeOf29 rfl (own_all (List.mem_cons_of_mem _ (List.mem_cons_self ..))) rfl ?_
  refine W_move rfl rfl rfl ?_
  refine W_move rfl rfl rfl ?_
  refine W_freeze (h122).rd rfl (fun H133 hle134 h135 => ?_)
  obtain ⟨r136, hc137, hm⟩ := bind_some hm
  refine W_call call10 rfl rfl rfl (fun w ht => by have h := m_blackstart_Verify_c (hm := hc137) ((h105.mono hle124).mono hle134) ((h107.mono hle124).mono hle134) ((h109.mono hle124).mono hle134) ((h111.mono hle124).mono hle134) ((h113.mono hle124).mono hle134) ((h115.mono hle124).mono hle134) (((h6.mono hle117).mono hle124).mono hle134) h135 ht; exact h) ?_
  rintro _ H150 _ ⟨hle151, v138, v140, v142, v144, v146, v148, rfl, rfl, h139, h141, h143, h145, h147, h149⟩
  refine W_move rfl rfl rfl ?_
  refine W_extract rfl rfl rfl rfl ?_
  refine W_extract rfl rfl rfl rfl ?_
  refine W_extract rfl rfl rfl rfl ?_
  refine W_alloc (cs := [.slice none 0 0, .slice none 0 0, .slice none 0 0, .slice none 0 0, .slice none 0 0, .slice none 0 0]) rfl rfl zeroValue29 rfl (fun b152 => ?_)
  refine W_store (cs := [v138, v140, v142, v144, v146, v148]) (out := [v138, v140, v142, v144, v146, v148]) rfl sizeOf29 rfl rfl rfl rfl rfl (all_cons (RdS.one1 h139) (all_cons (RdS.one1 h141) (all_cons (RdS.one1 h143) (all_cons (RdS.one1 h145) (all_cons (RdS.one1 h147) (all_cons (RdS.one1 h149) all_nil)))))) (over_all rfl) ?_
  refine W_assign rfl rfl rfl ?_
  refine W_assign rfl rfl rfl ?_
  refine W_end (E_then (C_seq ?_))
  refine C_seq_join (fun H' M' L' => H150 = H' ∧ .obj b152 (.cells [v138, v140, v142, v144, v146, v148].toArray 29 (0, 0)) :: .obj b101 (.cells [v104, v106, v108, v110, v112, v114].toArray 29 (0, 0)) :: M = M' ∧ [(1, v6), (2, .pointer (some ⟨b101, 0, none⟩)), (5, v120), (7, .pointer (some ⟨b152, 0, none⟩)), (55, .bool (((!decide (r136.2.2 = 0)) || (!decide (r136.2.1 = 0))) || (!decide ((IntKind.i64.wrap ((r118.1.length : Int) + (sources.length : Int))) = (r102.Gens.length : Int)))))] = L') ?_ (fun J155 => ?_)
  ·rintro _ _ _ ⟨rfl, rfl, rfl⟩
   refine C_cond (b := ((!decide (r136.2.2 = 0)) || (!decide (r136.2.1 = 0))) || (!decide ((IntKind.i64.wrap ((r118.1.length : Int) + (sources.length : Int))) = (r102.Gens.length : Int)))) rfl (fun hb156 => ?_) (fun hb156 => ?_)
   ·have hm := ite_t' hb156 hm
    refine C_seq (C_region ?_)
    refine W_assign rfl rfl rfl ?_
    refine W_end (E_then (C_ret (E_ret_then ?_)))
    obtain rfl := Option.some.inj hm
    refine E_drop (List.Sublist.cons _ (List.Sublist.cons _ (List.Sublist.refl _))) ?_
    refine E_weak (Hp.le_trans (Hp.le_trans (Hp.le_trans hle117 hle124) hle134) hle151) ?_
    exact end1 rfl rfl ⟨rfl, rfl, rfl⟩
   ·have hm := ite_f' hb156 hm
    refine C_skip (E_then (C_seq (C_region ?_)))
    refine W_loadAgg rfl rfl isAgg29 sizeOf29 rfl (own_all (List.mem_cons_self ..)) rfl ?_
    obtain ⟨r157, hc158, hm⟩ := bind_some hm
    refine W_call call11 rfl rfl rfl (fun w ht => by have h := m_islands_Places_c (hm := hc158) h139 h141 h143 h145 h147 h149 ht; exact h) ?_
    rintro _ _ _ ⟨rfl, v159, xs160, rfl, rfl, h161⟩
    have h161 := h161 H150
    refine W_move rfl rfl rfl ?_
    refine W_extract rfl rfl rfl rfl ?_
    refine W_extract rfl rfl rfl rfl ?_
    refine W_alloc (cs := [.slice none 0 0]) rfl rfl zeroValue42 rfl (fun b162 => ?_)
    refine W_store (cs := [v159]) (out := [v159]) rfl sizeOf42 rfl rfl (Rw.cells h161) rfl rfl (all_cons (Rw.one h161) all_nil) (over_all rfl) ?_
    refine W_assign rfl rfl rfl ?_
    refine W_end (E_then (C_seq ?_))
    refine C_seq_join (fun H' M' L' => H150 = H' ∧ .obj b162 (.cells [v159].toArray 42 (0, 0)) :: .row v159 3 (Rep.sz Int) r157.1.length xs160 :: .obj b101 (.cells [v104, v106, v108, v110, v112, v114].toArray 29 (0, 0)) :: M = M' ∧ [(1, v6), (2, .pointer (some ⟨b101, 0, none⟩)), (5, v120), (10, .pointer (some ⟨b162, 0, none⟩)), (70, .bool ((!decide (r157.2 = 0)) || (!decide ((r157.1.length : Int) = (r102.Nodes.length : Int)))))] = L') ?_ (fun J164 => ?_)
    ·rintro _ _ _ ⟨rfl, rfl, rfl⟩
     refine C_cond (b := (!decide (r157.2 = 0)) || (!decide ((r157.1.length : Int) = (r102.Nodes.length : Int)))) rfl (fun hb165 => ?_) (fun hb165 => ?_)
     ·have hm := ite_t' hb165 hm
      refine C_seq (C_region ?_)
      refine W_assign rfl rfl rfl ?_
      refine W_end (E_then (C_ret (E_ret_then ?_)))
      obtain rfl := Option.some.inj hm
      refine E_drop (List.Sublist.cons _ (List.Sublist.cons _ (List.Sublist.cons _ (List.Sublist.refl _)))) ?_
      refine E_weak (Hp.le_trans (Hp.le_trans (Hp.le_trans hle117 hle124) hle134) hle151) ?_
      exact end1 rfl rfl ⟨rfl, rfl, rfl⟩
     ·have hm := ite_f' hb165 hm
      refine C_skip (E_then (C_seq (C_region ?_)))
      refine W_makeFunc rfl rfl rfl rfl ?_
      refine W_alloc (cs := [.nilFunc]) rfl rfl zeroValue49 rfl (fun b166 => ?_)
      refine W_store (cs := [.func (.func 12) [].toArray [.pointer (some ⟨b101, 0, none⟩), .pointer (some ⟨b162, 0, none⟩)].toArray]) (out := [.func (.func 12) [].toArray [.pointer (some ⟨b101, 0, none⟩), .pointer (some ⟨b162, 0, none⟩)].toArray]) rfl sizeOf49 rfl rfl rfl rfl rfl (all_cons rfl all_nil) (over_all rfl) ?_
      refine W_end (E_then (C_seq (C_seq (C_region ?_))))
      refine W_move rfl rfl rfl ?_
      refine W_lenR rfl rfl runUnderlying31 rfl (h135.mono hle151) ?_
      refine W_move rfl rfl rfl ?_
      refine W_end (E_then (C_block ?_))
      refine C_keep (L' := [(1, v6), (12, .pointer (some ⟨b166, 0, none⟩)), (72, v120), (73, .int .i64 ((r118.1.length : Int))), (74, .int .i64 (((0 : Nat) : Int)))]) ⟨rfl, rfl, rfl, rfl, rfl, trivial⟩ (List.Perm.refl _) ?_
      refine C_loop (fun n H' M' L' => ∃ (k167 : Nat) (zs189' : List S_api_BlackstartStep), (r118.1).drop k167 = zs189' ∧ zs189'.length = n ∧ forI (fun k y s184 n => m_gridhallkeep4_BlackstartPlans_b1 sources r102 r157 k y n) (fun _ => (m_gridhallkeep4_blackstartFact).bind fun r201 => some r201) k167 zs189' () = some r ∧ H150.le H' ∧ .obj b166 (.cells ([.func (.func 12) [].toArray [.pointer (some ⟨b101, 0, none⟩), .pointer (some ⟨b162, 0, none⟩)].toArray] : List Value).toArray 49 (0, 0)) :: .obj b162 (.cells [v159].toArray 42 (0, 0)) :: .row v159 3 (Rep.sz Int) r157.1.length xs160 :: .obj b101 (.cells [v104, v106, v108, v110, v112, v114].toArray 29 (0, 0)) :: M = M' ∧ [(1, v6), (12, .pointer (some ⟨b166, 0, none⟩)), (72, v120), (73, .int .i64 ((r118.1.length : Int))), (74, .int .i64 ((k167 : Int)))] = L') _ ⟨0, _, rfl, rfl, hm, (Hp.le_refl _), rfl, rfl⟩ ?_
      rintro _ H182 _ _ ⟨k167, zs189', hd191, rfl, hm, hle183, rfl, rfl⟩
      refine C_seq (C_region ?_)
      refine W_bin rfl rfl rfl rfl rfl ?_
      refine W_end (E_then (C_seq ?_))
      refine C_cond (b := decide ((k167 : Int) < (r118.1.length : Int))) rfl (fun hb193 => ?_) (fun hb193 => ?_)
      ·obtain ⟨y188, zs189, rfl, hy190, hd192⟩ := rng_t hd191 hb193
       have hm : m_gridhallkeep4_BlackstartPlans_b1 sources r102 r157 k167 y188 (forI (fun k y s184 n => m_gridhallkeep4_BlackstartPlans_b1 sources r102 r157 k y n) (fun _ => (m_gridhallkeep4_blackstartFact).bind fun r201 => some r201) (k167 + 1) zs189) = some r := hm
       generalize hn186 : forI (fun k y s184 n => m_gridhallkeep4_BlackstartPlans_b1 sources r102 r157 k y n) (fun _ => (m_gridhallkeep4_blackstartFact).bind fun r201 => some r201) (k167 + 1) zs189 = nx185 at hm
       unfold m_gridhallkeep4_BlackstartPlans_b1 at hm
       refine C_skip (E_then (C_seq (C_block (C_seq (C_region ?_)))))
       obtain ⟨_, ⟨v195, rfl, h196⟩, hc194⟩ := (h135).elem hy190
       refine W_indexS rfl rfl runUnderlying31 sizeOf38 rfl ((h135.mono hle151).mono hle183) rfl (Int.natCast_nonneg _) hy190 ?_
       refine W_loadAgg rfl rfl isAgg38 sizeOf38 rfl ((hc194.mono hle151).mono hle183).at rfl ?_
       refine W_alloc (cs := [.string (⟨#[]⟩), .slice none 0 0]) rfl rfl zeroValue38 rfl (fun b197 => ?_)
       refine W_store (cs := [.string (y188.Gen), v195]) (out := [.string (y188.Gen), v195]) rfl sizeOf38 rfl rfl rfl rfl rfl (all_cons rfl (all_cons (RdS.one1 ((h196.mono hle151).mono hle183)) all_nil)) (over_all rfl) ?_
       refine W_end (E_then (C_seq (C_region ?_)))
       refine W_move rfl rfl rfl ?_
       refine W_makeFunc rfl rfl rfl rfl ?_
       refine W_perm (List.Perm.trans (List.Perm.cons _ (List.Perm.cons _ (List.Perm.swap _ _ _))) (List.Perm.trans (List.Perm.cons _ (List.Perm.swap _ _ _)) (List.Perm.trans (List.Perm.swap _ _ _) (List.Perm.trans (List.Perm.cons _ (List.Perm.swap _ _ _)) (List.Perm.trans (List.Perm.cons _ (List.Perm.cons _ (List.Perm.cons _ (List.Perm.swap _ _ _)))) (List.Perm.trans (List.Perm.cons _ (List.Perm.cons _ (List.Perm.swap _ _ _))) (List.Perm.cons _ (List.Perm.cons _ (List.Perm.cons _ (List.Perm.swap _ _ _)))))))))) ?_
       obtain ⟨r198, hc199, hm⟩ := bind_some hm
       refine W_call call14 rfl rfl rfl (fun w ht => by obtain ⟨H0_, hl0_, ht0_, hr0_, bk0_⟩ := ht.lendRow (h161.mono hle183) rfl; have h := m_slices_ContainsFunc_string_string__gridhallkeep4_BlackstartPlans_2_c (hm := hc199) ((((((h6.mono hle117).mono hle124).mono hle134).mono hle151).mono hle183).mono hl0_) (((((h105.mono hle124).mono hle134).mono hle151).mono hle183).mono hl0_) (((((h107.mono hle124).mono hle134).mono hle151).mono hle183).mono hl0_) (((((h109.mono hle124).mono hle134).mono hle151).mono hle183).mono hl0_) (((((h111.mono hle124).mono hle134).mono hle151).mono hle183).mono hl0_) (((((h113.mono hle124).mono hle134).mono hle151).mono hle183).mono hl0_) (((((h115.mono hle124).mono hle134).mono hle151).mono hle183).mono hl0_) hr0_ (((h196.mono hle151).mono hle183).mono hl0_) ht0_; exact lend_back bk0_ (h)) ?_
       rintro _ _ _ ⟨rfl, ⟨_, rfl, rfl, rfl⟩⟩
       refine W_un rfl rfl rfl rfl ?_
       refine W_end (E_then ?_)
       refine C_cond (b := !r198) rfl (fun hb200 => ?_) (fun hb200 => ?_)
       ·have hm := ite_t' hb200 hm
        refine C_seq (C_region ?_)
        refine W_assign rfl rfl rfl ?_
        refine W_end (E_then (C_ret (E_ret_block (E_ret_then (E_ret_then (E_ret_block (E_ret_then ?_)))))))
        obtain rfl := Option.some.inj hm
        refine E_drop (List.Sublist.cons _ (List.Sublist.cons _ (List.Sublist.cons _ (List.Sublist.cons _ (List.Sublist.cons _ (List.Sublist.refl _)))))) ?_
        refine E_weak (Hp.le_trans (Hp.le_trans (Hp.le_trans (Hp.le_trans hle117 hle124) hle134) hle151) hle183) ?_
        exact end1 rfl rfl ⟨rfl, rfl, rfl⟩
       ·have hm := ite_f' hb200 hm
        refine C_skip (E_normal_block (E_then (C_region ?_)))
        refine W_bin rfl rfl rfl rfl rfl ?_
        refine W_move rfl rfl rfl ?_
        refine W_end ?_
        refine E_drop (List.Sublist.cons_cons _ (List.Sublist.cons_cons _ (List.Sublist.cons_cons _ (List.Sublist.cons_cons _ (List.Sublist.cons _ (List.Sublist.refl _)))))) ?_
        exact E_keepJ (E_back (Nat.lt_succ_self _) ⟨k167 + 1, zs189, hd192, rfl, (by rw [hn186]; exact hm), hle183, rfl, rfl⟩) (List.Perm.trans (List.Perm.swap _ _ _) (List.Perm.trans (List.Perm.cons _ (List.Perm.cons _ (List.Perm.swap _ _ _))) (List.Perm.cons _ (List.Perm.swap _ _ _)))) ⟨rfl, rfl, rfl, rfl, (congrArg (fun z => some (Value.int .i64 z)) (i64_succ hy190 (((h135.mono hle151).mono hle183)).lenMax)), trivial⟩
      ·obtain rfl := rng_f hd191 hb193
       have hm : ((m_gridhallkeep4_blackstartFact).bind fun r201 => some r201) = some r := hm
       refine C_exit (E_exit_then (E_exit_then (E_exit_hit (E_then (C_seq (C_region ?_))))))
       obtain ⟨r201, hc202, hm⟩ := bind_some hm
       refine W_call call8 rfl rfl rfl (fun w ht => by have h := m_gridhallkeep4_blackstartFact_c (hm := hc202)  ht; exact h) ?_
       rintro _ _ _ ⟨rfl, rfl, rfl⟩
       refine W_assign rfl rfl rfl ?_
       refine W_end (E_then (C_ret ?_))
       obtain rfl := Option.some.inj hm
       refine E_drop (List.Sublist.cons _ (List.Sublist.cons _ (List.Sublist.cons _ (List.Sublist.cons _ (List.Sublist.refl _))))) ?_
       refine E_weak (Hp.le_trans (Hp.le_trans (Hp.le_trans (Hp.le_trans hle117 hle124) hle134) hle151) hle183) ?_
       exact end1 rfl rfl ⟨rfl, rfl, rfl⟩
    ·refine C_region ?_
     refine W_move rfl rfl rfl ?_
     refine W_bin rfl rfl rfl rfl rfl ?_
     refine W_move rfl rfl rfl ?_
     cases hb203 : (decide (r157.2 = 0))
     ·refine W_no rfl rfl rfl ?_
      refine W_no rfl rfl rfl ?_
      refine W_no rfl rfl rfl ?_
      refine W_no rfl rfl rfl ?_
      refine W_no rfl rfl rfl ?_
      refine W_no rfl rfl rfl ?_
      refine W_pick rfl rfl rfl rfl ?_
      refine W_end ?_
      refine E_drop (List.Sublist.cons_cons _ (List.Sublist.cons_cons _ (List.Sublist.cons _ (List.Sublist.refl _)))) ?_
      exact E_keepJ (J164 _ _ _ ⟨rfl, rfl, rfl⟩) (List.Perm.refl _) ⟨rfl, rfl, rfl, rfl, (by show some (Value.bool (true)) = some (Value.bool ((!decide (r157.2 = 0)) || (!decide ((r157.1.length : Int) = (r102.Nodes.length : Int))))); first | (simp only [hb125, hb156, hb203, Bool.and_true, Bool.true_and, Bool.false_and, Bool.and_false, Bool.or_true, Bool.true_or, Bool.or_false, Bool.false_or, Bool.not_true, Bool.not_false]; done) | (simp only [hb125, hb156, hb203]; first | done | simp only [Bool.and_true, Bool.true_and, Bool.false_and, Bool.and_false, Bool.or_true, Bool.true_or, Bool.or_false, Bool.false_or, Bool.not_true, Bool.not_false])), trivial⟩
     ·refine W_load rfl rfl isAgg42 rfl (own_at (List.mem_cons_self ..) rfl) ?_
      refine W_lenO (List.mem_cons_of_mem _ (List.mem_cons_self ..)) rfl rfl runUnderlying42 rfl ?_
      refine W_field (o := 0) rfl rfl runUnderlying29 rfl sizeOf22 rfl rfl rfl ?_
      refine W_load rfl rfl isAgg22 rfl (own_at (List.mem_cons_of_mem _ (List.mem_cons_of_mem _ (List.mem_cons_of_mem _ (List.mem_cons_self ..)))) rfl) ?_
      refine W_lenR rfl rfl runUnderlying22 rfl (((h105.mono hle124).mono hle134).mono hle151) ?_
      refine W_bin rfl rfl rfl rfl rfl ?_
      refine W_pick rfl rfl rfl rfl ?_
      refine W_end ?_
      refine E_drop (List.Sublist.cons_cons _ (List.Sublist.cons_cons _ (List.Sublist.cons _ (List.Sublist.refl _)))) ?_
      exact E_keepJ (J164 _ _ _ ⟨rfl, rfl, rfl⟩) (List.Perm.refl _) ⟨rfl, rfl, rfl, rfl, (by show some (Value.bool (!decide ((r157.1.length : Int) = (r102.Nodes.length : Int)))) = some (Value.bool ((!decide (r157.2 = 0)) || (!decide ((r157.1.length : Int) = (r102.Nodes.length : Int))))); first | (simp only [hb125, hb156, hb203, Bool.and_true, Bool.true_and, Bool.false_and, Bool.and_false, Bool.or_true, Bool.true_or, Bool.or_false, Bool.false_or, Bool.not_true, Bool.not_false]; done) | (simp only [hb125, hb156, hb203]; first | done | simp only [Bool.and_true, Bool.true_and, Bool.false_and, Bool.and_false, Bool.or_true, Bool.true_or, Bool.or_false, Bool.false_or, Bool.not_true, Bool.not_false])), trivial⟩
  ·refine C_region ?_
   refine W_move rfl rfl rfl ?_
   refine W_bin rfl rfl rfl rfl rfl ?_
   refine W_move rfl rfl rfl ?_
   cases hb204 : (decide (r136.2.2 = 0))
   ·refine W_no rfl rfl rfl ?_
    refine W_no rfl rfl rfl ?_
    refine W_pick rfl rfl rfl rfl ?_
    refine W_move rfl rfl rfl ?_
    refine W_no rfl rfl rfl ?_
    refine W_no rfl rfl rfl ?_
    refine W_no rfl rfl rfl ?_
    refine W_no rfl rfl rfl ?_
    refine W_no rfl rfl rfl ?_
    refine W_no rfl rfl rfl ?_
    refine W_no rfl rfl rfl ?_
    refine W_no rfl rfl rfl ?_
    refine W_no rfl rfl rfl ?_
    refine W_pick rfl rfl rfl rfl ?_
    refine W_end ?_
    exact E_keepJ (J155 _ _ _ ⟨rfl, rfl, rfl⟩) (List.Perm.refl _) ⟨rfl, rfl, rfl, rfl, (by show some (Value.bool (true)) = some (Value.bool (((!decide (r136.2.2 = 0)) || (!decide (r136.2.1 = 0))) || (!decide ((IntKind.i64.wrap ((r118.1.length : Int) + (sources.length : Int))) = (r102.Gens.length : Int))))); first | (simp only [hb125, hb204, Bool.and_true, Bool.true_and, Bool.false_and, Bool.and_false, Bool.or_true, Bool.true_or, Bool.or_false, Bool.false_or, Bool.not_true, Bool.not_false]; done) | (simp only [hb125, hb204]; first | done | simp only [Bool.and_true, Bool.true_and, Bool.false_and, Bool.and_false, Bool.or_true, Bool.true_or, Bool.or_false, Bool.false_or, Bool.not_true, Bool.not_false])), trivial⟩
   ·refine W_move rfl rfl rfl ?_
    refine W_bin rfl rfl rfl rfl rfl ?_
    refine W_pick rfl rfl rfl rfl ?_
    refine W_move rfl rfl rfl ?_
    cases hb205 : (decide (r136.2.1 = 0))
    ·refine W_no rfl rfl rfl ?_
     refine W_no rfl rfl rfl ?_
     refine W_no rfl rfl rfl ?_
     refine W_no rfl rfl rfl ?_
     refine W_no rfl rfl rfl ?_
     refine W_no rfl rfl rfl ?_
     refine W_no rfl rfl rfl ?_
     refine W_no rfl rfl rfl ?_
     refine W_no rfl rfl rfl ?_
     refine W_pick rfl rfl rfl rfl ?_
     refine W_end ?_
     exact E_keepJ (J155 _ _ _ ⟨rfl, rfl, rfl⟩) (List.Perm.refl _) ⟨rfl, rfl, rfl, rfl, (by show some (Value.bool (true)) = some (Value.bool (((!decide (r136.2.2 = 0)) || (!decide (r136.2.1 = 0))) || (!decide ((IntKind.i64.wrap ((r118.1.length : Int) + (sources.length : Int))) = (r102.Gens.length : Int))))); first | (simp only [hb125, hb204, hb205, Bool.and_true, Bool.true_and, Bool.false_and, Bool.and_false, Bool.or_true, Bool.true_or, Bool.or_false, Bool.false_or, Bool.not_true, Bool.not_false]; done) | (simp only [hb125, hb204, hb205]; first | done | simp only [Bool.and_true, Bool.true_and, Bool.false_and, Bool.and_false, Bool.or_true, Bool.true_or, Bool.or_false, Bool.false_or, Bool.not_true, Bool.not_false])), trivial⟩
    ·refine W_move rfl rfl rfl ?_
     refine W_lenR rfl rfl runUnderlying31 rfl (h135.mono hle151) ?_
     refine W_move rfl rfl rfl ?_
     refine W_lenR rfl rfl runUnderlying22 rfl ((((h6.mono hle117).mono hle124).mono hle134).mono hle151) ?_
     refine W_bin rfl rfl rfl rfl rfl ?_
     refine W_field (o := 3) rfl rfl runUnderlying29 rfl sizeOf25 rfl rfl rfl ?_
     refine W_load rfl rfl isAgg25 rfl (own_at (List.mem_cons_of_mem _ (List.mem_cons_self ..)) rfl) ?_
     refine W_lenR rfl rfl runUnderlying25 rfl (((h111.mono hle124).mono hle134).mono hle151) ?_
     refine W_bin rfl rfl rfl rfl rfl ?_
     refine W_pick rfl rfl rfl rfl ?_
     refine W_end ?_
     exact E_keepJ (J155 _ _ _ ⟨rfl, rfl, rfl⟩) (List.Perm.refl _) ⟨rfl, rfl, rfl, rfl, (by show some (Value.bool (!decide ((IntKind.i64.wrap ((r118.1.length : Int) + (sources.length : Int))) = (r102.Gens.length : Int)))) = some (Value.bool (((!decide (r136.2.2 = 0)) || (!decide (r136.2.1 = 0))) || (!decide ((IntKind.i64.wrap ((r118.1.length : Int) + (sources.length : Int))) = (r102.Gens.length : Int))))); first | (simp only [hb125, hb204, hb205, Bool.and_true, Bool.true_and, Bool.false_and, Bool.and_false, Bool.or_true, Bool.true_or, Bool.or_false, Bool.false_or, Bool.not_true, Bool.not_false]; done) | (simp only [hb125, hb204, hb205]; first | done | simp only [Bool.and_true, Bool.true_and, Bool.false_and, Bool.and_false, Bool.or_true, Bool.true_or, Bool.or_false, Bool.false_or, Bool.not_true, Bool.not_false])), trivial⟩

theorem m_blackstart_Path_c {B : Nat} {w0 w : World} {H : Hp} {M : List Res} {p0_n : S_api_Network} {p1_a : ByteArray} {p2_b : ByteArray} {v0 : Value} {v1 : Value} {v2 : Value} {v3 : Value} {v4 : Value} {v5 : Value} {r : (List ByteArray) × Int} (hm : m_blackstart_Path p0_n p1_a p2_b = some r) (h0 : RdS H v0 p0_n.Nodes) (h1 : RdS H v1 p0_n.Switches) (h2 : RdS H v2 p0_n.Branches) (h3 : RdS H v3 p0_n.Gens) (h4 : RdS H v4 p0_n.Loads) (h5 : RdS H v5 p0_n.Stores) (ht : St B w0 H (M) w) :
  Calls prog 17 [.agg [v0, v1, v2, v3, v4, v5].toArray, .string (p1_a), .string (p2_b)].toArray w (Ret B w0 fun H' M' v => H = H' ∧ ∃ qv0 : Value, ∃ qxs0 : List Value, .row qv0 9 (Rep.sz ByteArray) r.1.length qxs0 :: M = M' ∧ .tuple #[qv0, .int .i64 (r.2)] = v ∧ RwF qv0 qxs0 r.1) := by
 unfold m_blackstart_Path at hm
 refine enter func17 rfl rfl rfl ht ?_
 refine C_seq (C_region ?_)
 refine W_box (cs := [v0, v1, v2, v3, v4, v5]) rfl rfl rfl rfl (fun b101 => ?_)
 refine W_assign rfl rfl rfl ?_
 refine W_assign rfl rfl rfl ?_
 refine W_end (E_then (C_seq (C_seq (C_region ?_))))
 refine W_loadAgg rfl rfl isAgg29 sizeOf29 rfl (own_all (List.mem_cons_self ..)) rfl ?_
 obtain ⟨r102, hc103, hm⟩ := bind_some hm
 refine W_call call16 rfl rfl rfl (fun w ht => by have h := m_netmodel_Check_c (hm := hc103) h0 h1 h2 h3 h4 h5 ht; exact h) ?_
 rintro _ _ _ ⟨rfl, rfl, rfl⟩
 refine W_assign rfl rfl rfl ?_
 refine W_end (E_then (C_seq (C_region ?_)))
 refine W_move rfl rfl rfl ?_
 refine W_bin rfl rfl rfl rfl rfl ?_
 refine W_end (E_then ?_)
 refine C_cond (b := !decide (r102 = 0)) rfl (fun hb104 => ?_) (fun hb104 => ?_)
 ·have hm := ite_t' hb104 hm
  refine C_seq (C_region ?_)
  refine W_move rfl rfl rfl ?_
  refine W_assign rfl rfl rfl ?_
  refine W_assign rfl rfl rfl ?_
  refine W_end (E_then (C_ret (E_ret_then ?_)))
  refine E_nilRow 9 (Rep.sz ByteArray) ?_
  obtain rfl := Option.some.inj hm
  refine E_drop (List.Sublist.cons_cons _ (List.Sublist.cons _ (List.Sublist.refl _))) ?_
  refine E_weak (Hp.le_refl _) ?_
  exact end2 rfl rfl rfl ⟨rfl, (.slice none 0 0), [], rfl, rfl, (Rw.nil (H := H)).toF⟩
 ·have hm := ite_f' hb104 hm
  refine C_skip (E_then (C_seq (C_seq (C_region ?_))))
  refine W_move rfl rfl rfl ?_
  refine W_move rfl rfl rfl ?_
  refine W_buildArr (css := [[.string (p1_a)], [.string (p2_b)]]) (zs := [.string (⟨#[]⟩), .string (⟨#[]⟩)]) (out := [.string (p1_a), .string (p2_b)]) (places := [(0, 1), (1, 1)]) rfl rfl rfl ⟨rfl, rfl, trivial⟩ zeroValue85 rfl runUnderlying85 sizeOf9 rfl rfl ?_
  refine W_move rfl rfl rfl ?_
  refine W_end (E_then (C_block ?_))
  refine C_keep (L' := [(1, .string (p1_a)), (2, .string (p2_b)), (3, .pointer (some ⟨b101, 0, none⟩)), (20, .agg [.string (p1_a), .string (p2_b)].toArray), (21, .int .i64 (((0 : Nat) : Int)))]) ⟨rfl, rfl, rfl, rfl, rfl, trivial⟩ (List.Perm.refl _) ?_
  refine C_loop (fun n H' M' L' => ∃ (k105 : Nat) (zs125' : Nat), k105 + zs125' = (2 : Int).toNat ∧ zs125' = n ∧ forN (fun k s120 n => m_blackstart_Path_b1 p0_n p1_a p2_b k n) (fun _ => (m_blackstart_path p0_n p1_a p2_b).bind fun r136 => if !r136.2 then (some (([] : List ByteArray), 8)) else (some (r136.1, 0))) zs125' k105 () = some r ∧ H.le H' ∧ .obj b101 (.cells [v0, v1, v2, v3, v4, v5].toArray 29 (0, 0)) :: M = M' ∧ [(1, .string (p1_a)), (2, .string (p2_b)), (3, .pointer (some ⟨b101, 0, none⟩)), (20, .agg [.string (p1_a), .string (p2_b)].toArray), (21, .int .i64 ((k105 : Int)))] = L') _ ⟨0, _, Nat.zero_add _, rfl, hm, (Hp.le_refl _), rfl, rfl⟩ ?_
  rintro _ H118 _ _ ⟨k105, zs125', hd127, rfl, hm, hle119, rfl, rfl⟩
  refine C_seq (C_region ?_)
  refine W_bin rfl rfl rfl rfl rfl ?_
  refine W_end (E_then (C_seq ?_))
  refine C_cond (b := decide ((k105 : Int) < 2)) rfl (fun hb129 => ?_) (fun hb129 => ?_)
  ·obtain ⟨zs125, rfl, hd128, hy126⟩ := rngN_t hd127 hb129
   have hm : m_blackstart_Path_b1 p0_n p1_a p2_b k105 (forN (fun k s120 n => m_blackstart_Path_b1 p0_n p1_a p2_b k n) (fun _ => (m_blackstart_path p0_n p1_a p2_b).bind fun r136 => if !r136.2 then (some (([] : List ByteArray), 8)) else (some (r136.1, 0))) zs125 (k105 + 1)) = some r := hm
   generalize hn122 : forN (fun k s120 n => m_blackstart_Path_b1 p0_n p1_a p2_b k n) (fun _ => (m_blackstart_path p0_n p1_a p2_b).bind fun r136 => if !r136.2 then (some (([] : List ByteArray), 8)) else (some (r136.1, 0))) zs125 (k105 + 1) = nx121 at hm
   unfold m_blackstart_Path_b1 at hm
   refine C_skip (E_then (C_seq (C_block (C_seq (C_region ?_)))))
   obtain ⟨y130, h131, he132, hm⟩ := idx_some hm
   refine W_indexV rfl rfl runUnderlying85 isAgg9 sizeOf9 rfl rfl h131 (List.getElem?_eq_some_iff.1 he132).1 (cells_map (f := Value.string) (l := [p1_a, p2_b]) he132) ?_
   refine W_assign rfl rfl rfl ?_
   refine W_end (E_then (C_seq (C_region ?_)))
   refine W_field (o := 0) rfl rfl runUnderlying29 rfl sizeOf22 rfl rfl rfl ?_
   refine W_load rfl rfl isAgg22 rfl (own_at (List.mem_cons_self ..) rfl) ?_
   refine W_move rfl rfl rfl ?_
   obtain ⟨r133, hc134, hm⟩ := bind_some hm
   refine W_call call24 rfl rfl rfl (fun w ht => by have h := m_slices_Contains_string_string_c (hm := hc134) (h0.mono hle119) ht; exact h) ?_
   rintro _ _ _ ⟨rfl, rfl, rfl⟩
   refine W_un rfl rfl rfl rfl ?_
   refine W_end (E_then ?_)
   refine C_cond (b := !r133) rfl (fun hb135 => ?_) (fun hb135 => ?_)
   ·have hm := ite_t' hb135 hm
    refine C_seq (C_region ?_)
    refine W_assign rfl rfl rfl ?_
    refine W_assign rfl rfl rfl ?_
    refine W_end (E_then (C_ret (E_ret_block (E_ret_then (E_ret_then (E_ret_block (E_ret_then ?_)))))))
    refine E_nilRow 9 (Rep.sz ByteArray) ?_
    obtain rfl := Option.some.inj hm
    refine E_drop (List.Sublist.cons_cons _ (List.Sublist.cons _ (List.Sublist.refl _))) ?_
    refine E_weak hle119 ?_
    exact end2 rfl rfl rfl ⟨rfl, (.slice none 0 0), [], rfl, rfl, (Rw.nil (H := H)).toF⟩
   ·have hm := ite_f' hb135 hm
    refine C_skip (E_normal_block (E_then (C_region ?_)))
    refine W_bin rfl rfl rfl rfl rfl ?_
    refine W_move rfl rfl rfl ?_
    refine W_end ?_
    exact E_keepJ (E_back (Nat.lt_succ_self _) ⟨k105 + 1, zs125, hd128, rfl, (by rw [hn122]; exact hm), hle119, rfl, rfl⟩) (List.Perm.refl _) ⟨rfl, rfl, rfl, rfl, (congrArg (fun z => some (Value.int .i64 z)) (i64_succN hy126 (toNat_max (by decide)))), trivial⟩
  ·obtain rfl := rngN_f hd127 hb129
   have hm : ((m_blackstart_path p0_n p1_a p2_b).bind fun r136 => if !r136.2 then (some (([] : List ByteArray), 8)) else (some (r136.1, 0))) = some r := hm
   refine C_exit (E_exit_then (E_exit_then (E_exit_hit (E_then (C_seq (C_region ?_))))))
   refine W_loadAgg rfl rfl isAgg29 sizeOf29 rfl (own_all (List.mem_cons_self ..)) rfl ?_
   refine W_move rfl rfl rfl ?_
   refine W_move rfl rfl rfl ?_
   obtain ⟨r136, hc137, hm⟩ := bind_some hm
   refine W_call call25 rfl rfl rfl (fun w ht => by have h := m_blackstart_path_c (hm := hc137) (h0.mono hle119) (h1.mono hle119) (h2.mono hle119) (h3.mono hle119) (h4.mono hle119) (h5.mono hle119) ht; exact h) ?_
   rintro _ _ _ ⟨rfl, v138, xs139, rfl, rfl, h140⟩
   have h140 := h140 H118
   refine W_move rfl rfl rfl ?_
   refine W_extract rfl rfl rfl rfl ?_
   refine W_extract rfl rfl rfl rfl ?_
   refine W_assign rfl rfl rfl ?_
   refine W_assign rfl rfl rfl ?_
   refine W_end (E_then (C_seq (C_seq (C_region ?_))))
   refine W_move rfl rfl rfl ?_
   refine W_un rfl rfl rfl rfl ?_
   refine W_end (E_then ?_)
   refine C_cond (b := !r136.2) rfl (fun hb141 => ?_) (fun hb141 => ?_)
   ·have hm := ite_t' hb141 hm
    refine C_seq (C_region ?_)
    refine W_assign rfl rfl rfl ?_
    refine W_assign rfl rfl rfl ?_
    refine W_end (E_then (C_ret (E_ret_then ?_)))
    refine E_nilRow 9 (Rep.sz ByteArray) ?_
    obtain rfl := Option.some.inj hm
    refine E_drop (List.Sublist.cons_cons _ (List.Sublist.cons _ (List.Sublist.cons _ (List.Sublist.refl _)))) ?_
    refine E_weak hle119 ?_
    exact end2 rfl rfl rfl ⟨rfl, (.slice none 0 0), [], rfl, rfl, (Rw.nil (H := H)).toF⟩
   ·have hm := ite_f' hb141 hm
    refine C_skip (E_then (C_seq (C_region ?_)))
    refine W_move rfl rfl rfl ?_
    refine W_assign rfl rfl rfl ?_
    refine W_assign rfl rfl rfl ?_
    refine W_end (E_then (C_ret ?_))
    obtain rfl := Option.some.inj hm
    refine E_drop (List.Sublist.cons_cons _ (List.Sublist.cons _ (List.Sublist.refl _))) ?_
    refine E_weak hle119 ?_
    exact end2 rfl rfl rfl ⟨rfl, v138, xs139, rfl, rfl, (h140).toF⟩

theorem delete20_c {B : Nat} {w0 w : World} {H : Hp} {M : List Res} {l : List ByteArray} {v0 : Value} {xs : List Value} {i j : Int} (h0 : Rw H v0 xs l) (hz : 0 ≤ i ∧ i < j ∧ j ≤ (l.length : Int)) (ht : St B w0 H (.row v0 9 (Rep.sz ByteArray) l.length xs :: M) w) :
  Calls prog 20 [v0, .int .i64 i, .int .i64 j].toArray w (Ret B w0 fun H' M' v => H = H' ∧ ∃ (v' : Value) (xs' : List Value), .row v' 9 (Rep.sz ByteArray) (l.take i.toNat ++ l.drop j.toNat).length xs' :: M = M' ∧ v' = v ∧ RwF v' xs' (l.take i.toNat ++ l.drop j.toNat)) := by
 obtain ⟨i, rfl⟩ : ∃ m : Nat, i = m := ⟨i.toNat, by omega⟩
 obtain ⟨j, rfl⟩ : ∃ m : Nat, j = m := ⟨j.toNat, by omega⟩
 have hij : i < j := by omega
 have hj : j ≤ l.length := by omega
 rw [Int.toNat_natCast, Int.toNat_natCast]
 refine enter func20 rfl rfl rfl ht ?_
 refine C_rowSome (by omega) (fun gb off cap hv hcap => ?_)
 subst hv
 refine C_seq (C_region ?_)
 refine W_assign rfl rfl rfl ?_
 refine W_end (E_then (C_seq (C_region ?_)))
 refine W_move rfl rfl rfl ?_
 refine W_move rfl rfl rfl ?_
 refine W_move rfl rfl rfl ?_
 refine W_move rfl rfl rfl ?_
 refine W_lenS rfl rfl runUnderlying22 rfl ?_
 refine W_sliceV (m := l.length) (h := j) (l := i) rfl rfl runUnderlying22 sizeOf9 rfl (.inr ⟨_, rfl⟩) (.inr ⟨_, _, _, rfl, rfl, by omega, by omega, by omega⟩) (.inr ⟨_, _, _, rfl, rfl, by omega, by omega, by omega⟩) (.inr ⟨_, _, _, rfl, rfl, by omega, by omega, by omega⟩) rfl ?_
 refine W_end (E_then (C_seq (C_seq (C_region ?_))))
 refine W_move rfl rfl rfl ?_
 refine W_move rfl rfl rfl ?_
 refine W_bin rfl rfl rfl rfl rfl ?_
 refine W_end (E_then ?_)
 refine C_cond (b := decide ((i : Int) = (j : Int))) rfl (fun hb => absurd (of_decide_eq_true hb) (by omega)) (fun _ => ?_)
 refine C_skip (E_then (C_seq (C_region ?_)))
 refine W_move rfl rfl rfl ?_
 refine W_lenS rfl rfl runUnderlying22 rfl ?_
 refine W_assign rfl rfl rfl ?_
 refine W_end (E_then (C_seq ?_))
 refine C_region_tok0 6 (phiT [(fun H rs v => [] = rs ∧ .slice (some ⟨gb, off, none⟩) l.length cap = v), (fun H rs v => [] = rs ∧ .int .i64 (i : Int) = v), (fun H rs v => [] = rs ∧ .slice (some ⟨gb, off, none⟩) i cap = v), (fun H rs v => [] = rs ∧ .slice (some ⟨gb, off, none⟩) l.length cap = v), (fun H rs v => [] = rs ∧ .int .i64 (j : Int) = v), (fun H rs v => [] = rs ∧ .slice (some (if cap = j then ⟨gb, off, none⟩ else ⟨gb, off + j * Rep.sz ByteArray, none⟩)) (l.length - j) (cap - j) = v)]) [[], [], [], [], [], []] [[], [], [], [], [], []] [] [0, 1, 2, 3, 4, 5] Facts.mixed (by kernel_rfl) rfl rfl rfl (by kernel_rfl) (phiT_mono ⟨eq_monoT _ _, eq_monoT _ _, eq_monoT _ _, eq_monoT _ _, eq_monoT _ _, eq_monoT _ _, trivial⟩) ⟨?_, ?_, ?_, ?_, ?_, ?_, trivial⟩ ?_
 ·intro HX hX X Rest hR
  intro hU hUp
  refine W_move rfl rfl rfl ?_
  exact W_end (OneT_end [] (Hp.le_refl _) ⟨rfl, rfl⟩)
 ·intro HX hX X Rest hR
  intro hU hUp
  refine W_move rfl rfl rfl ?_
  exact W_end (OneT_end [] (Hp.le_refl _) ⟨rfl, rfl⟩)
 ·intro HX hX X Rest hR
  rintro _ _ ⟨rfl, rfl⟩
  rintro _ _ ⟨rfl, rfl⟩
  intro hU hUp
  refine W_sliceV (m := cap) (h := i) (l := 0) rfl rfl runUnderlying22 sizeOf9 rfl (.inl rfl) (.inl ⟨rfl, rfl⟩) (.inr ⟨_, _, _, rfl, rfl, by omega, by omega, by omega⟩) (.inl ⟨rfl, rfl⟩) (by rw [if_neg (by omega), Nat.sub_zero, Nat.sub_zero, Option.map_some, Addr.add_lit, Nat.zero_mul, Nat.add_zero]) ?_
  exact W_end (OneT_end [] (Hp.le_refl _) ⟨rfl, rfl⟩)
 ·intro HX hX X Rest hR
  intro hU hUp
  refine W_move rfl rfl rfl ?_
  exact W_end (OneT_end [] (Hp.le_refl _) ⟨rfl, rfl⟩)
 ·intro HX hX X Rest hR
  intro hU hUp
  refine W_move rfl rfl rfl ?_
  exact W_end (OneT_end [] (Hp.le_refl _) ⟨rfl, rfl⟩)
 ·intro HX hX X Rest hR
  rintro _ _ ⟨rfl, rfl⟩
  rintro _ _ ⟨rfl, rfl⟩
  intro hU hUp
  refine W_sliceV (m := cap) (h := l.length) (l := j) rfl rfl runUnderlying22 sizeOf9 rfl (.inl rfl) (.inl ⟨rfl, rfl⟩) (.inl ⟨rfl, rfl⟩) (.inr ⟨_, _, _, rfl, rfl, by omega, by omega, by omega⟩) (v' := .slice (some (if cap = j then ⟨gb, off, none⟩ else ⟨gb, off + j * Rep.sz ByteArray, none⟩)) (l.length - j) (cap - j)) (by
   by_cases h : cap = j
   ·rw [if_pos h, if_pos h]
   ·rw [if_neg h, if_neg h, Option.map_some, Addr.add_lit] <;> rfl) ?_
  exact W_end (OneT_end [] (Hp.le_refl _) ⟨rfl, rfl⟩)
 intro H1 hle1
 rintro _ _ ⟨rfl, rfl⟩
 rintro _ _ ⟨rfl, rfl⟩
 rintro _ _ ⟨rfl, rfl⟩
 rintro _ _ ⟨rfl, rfl⟩
 rintro _ _ ⟨rfl, rfl⟩
 rintro _ _ ⟨rfl, rfl⟩
 refine W_appendDel (α := ByteArray) (l := l) (i := i) (j := j) (bytes := 16) rfl rfl underlying22 ⟨_, rfl, rfl, rfl, rfl⟩ rfl rfl h0 hij hj rfl rfl (fun h => if_neg (by omega)) ?_
 intro gb2 off2 xs2 h2 hcap2
 have hln : (l.take i ++ l.drop j).length = i + (l.length - j) := by simp; omega
 refine W_assign rfl rfl rfl ?_
 refine W_end (E_then (C_seq (C_region ?_)))
 refine W_move rfl rfl rfl ?_
 refine W_move rfl rfl rfl ?_
 refine W_lenS rfl rfl runUnderlying22 rfl ?_
 refine W_move rfl rfl rfl ?_
 refine W_sliceV (m := cap) (h := l.length) (l := (l.take i ++ l.drop j).length) rfl rfl runUnderlying22 sizeOf9 rfl (.inl rfl) (.inl ⟨rfl, rfl⟩) (.inr ⟨_, _, _, rfl, rfl, by omega, by omega, by omega⟩) (.inr ⟨_, _, _, rfl, rfl, by omega, by omega, by omega⟩) (by rw [if_neg (by omega), Option.map_some, Addr.add_lit]) ?_
 refine W_clearTail (sz := Rep.sz ByteArray) (n2 := l.length - (l.take i ++ l.drop j).length) rfl underlying22 zeroValue9 rfl rfl rfl rfl rfl (by omega) ?_
 refine W_end (E_then (C_seq (C_region ?_)))
 refine W_move rfl rfl rfl ?_
 refine W_assign rfl rfl rfl ?_
 refine W_end (E_then (C_ret ?_))
 refine E_weak hle1 ?_
 exact end1 rfl rfl ⟨rfl, _, xs2, rfl, rfl, h2.toF⟩

theorem m_netmodel_find_1_c {B : Nat} {w0 w : World} {H : Hp} {M : List Res} {p0_x : S_api_Switch} {p1_c1 : ByteArray} {b0 : Nat} {r : Bool} (hm : m_netmodel_find_1 p0_x p1_c1 = r) (ht : St B w0 H (.obj b0 (.cells ([.string (p1_c1)] : List Value).toArray 9 (0, 0)) :: M) w) :
  Calls prog 62 [.agg [.string (p0_x.Name), .string (p0_x.A), .string (p0_x.B_), .bool (p0_x.Breaker), .bool (p0_x.Open)].toArray, .pointer (some ⟨b0, 0, none⟩)].toArray w (Ret B w0 fun H' M' v => H = H' ∧ .obj b0 (.cells ([.string (p1_c1)] : List Value).toArray 9 (0, 0)) :: M = M' ∧ .bool (r) = v) := by
 unfold m_netmodel_find_1 at hm
 refine enter func62 rfl rfl rfl ht ?_
 refine C_seq (C_region ?_)
 refine W_box (cs := [.string (p0_x.Name), .string (p0_x.A), .string (p0_x.B_), .bool (p0_x.Breaker), .bool (p0_x.Open)]) rfl rfl rfl rfl (fun b101 => ?_)
 refine W_assign rfl rfl rfl ?_
 refine W_end (E_then (C_seq (C_region ?_)))
 refine W_field (o := 0) rfl rfl runUnderlying70 rfl sizeOf9 rfl rfl rfl ?_
 refine W_load rfl rfl isAgg9 rfl (own_at (List.mem_cons_self ..) rfl) ?_
 refine W_load rfl rfl isAgg9 rfl (own_at (List.mem_cons_of_mem _ (List.mem_cons_self ..)) rfl) ?_
 refine W_bin rfl rfl rfl rfl rfl ?_
 refine W_assign rfl rfl rfl ?_
 refine W_end (E_then (C_ret ?_))
 obtain rfl := hm
 refine E_drop (List.Sublist.cons _ (List.Sublist.refl _)) ?_
 refine E_weak (Hp.le_refl _) ?_
 exact end1 rfl rfl ⟨rfl, rfl, rfl⟩

theorem m_slices_IndexFunc_api_Switch_api_Switch__netmodel_find_1_c {B : Nat} {w0 w : World} {H : Hp} {M : List Res} {p0_s : (List S_api_Switch)} {p1_f_0 : ByteArray} {v0 : Value} {b0 : Nat} {r : Int} (hm : m_slices_IndexFunc_api_Switch_api_Switch__netmodel_find_1 p0_s p1_f_0 = some r) (h0 : RdS H v0 p0_s) (ht : St B w0 H (.obj b0 (.cells ([.string (p1_f_0)] : List Value).toArray 9 (0, 0)) :: M) w) :
  Calls prog 46 [v0, .func (.func 62) [].toArray [.pointer (some ⟨b0, 0, none⟩)].toArray].toArray w (Ret B w0 fun H' M' v => H = H' ∧ .obj b0 (.cells ([.string (p1_f_0)] : List Value).toArray 9 (0, 0)) :: M = M' ∧ .int .i64 (r) = v) := by
 unfold m_slices_IndexFunc_api_Switch_api_Switch__netmodel_find_1 at hm
 refine enter func46 rfl rfl rfl ht ?_
 refine C_seq (C_region ?_)
 refine W_assign rfl rfl rfl ?_
 refine W_end (E_then (C_seq (C_seq (C_region ?_))))
 refine W_move rfl rfl rfl ?_
 refine W_lenR rfl rfl runUnderlying23 rfl h0 ?_
 refine W_move rfl rfl rfl ?_
 refine W_end (E_then (C_block ?_))
 refine C_keep (L' := [(0, v0), (1, .func (.func 62) [].toArray [.pointer (some ⟨b0, 0, none⟩)].toArray), (7, .int .i64 ((p0_s.length : Int))), (8, .int .i64 (((0 : Nat) : Int)))]) ⟨rfl, rfl, rfl, rfl, trivial⟩ (List.Perm.refl _) ?_
 refine C_loop (fun n H' M' L' => ∃ (k101 : Nat) (zs119' : Nat), k101 + zs119' = ((p0_s.length : Int) : Int).toNat ∧ zs119' = n ∧ forN (fun k s114 n => m_slices_IndexFunc_api_Switch_api_Switch__netmodel_find_1_b1 p0_s p1_f_0 k n) (fun _ => some (-1)) zs119' k101 () = some r ∧ H.le H' ∧ .obj b0 (.cells ([.string (p1_f_0)] : List Value).toArray 9 (0, 0)) :: M = M' ∧ [(0, v0), (1, .func (.func 62) [].toArray [.pointer (some ⟨b0, 0, none⟩)].toArray), (7, .int .i64 ((p0_s.length : Int))), (8, .int .i64 ((k101 : Int)))] = L') _ ⟨0, _, Nat.zero_add _, rfl, hm, (Hp.le_refl _), rfl, rfl⟩ ?_
 rintro _ H112 _ _ ⟨k101, zs119', hd121, rfl, hm, hle113, rfl, rfl⟩
 refine C_seq (C_region ?_)
 refine W_bin rfl rfl rfl rfl rfl ?_
 refine W_end (E_then (C_seq ?_))
 refine C_cond (b := decide ((k101 : Int) < (p0_s.length : Int))) rfl (fun hb123 => ?_) (fun hb123 => ?_)
 ·obtain ⟨zs119, rfl, hd122, hy120⟩ := rngN_t hd121 hb123
  have hm : m_slices_IndexFunc_api_Switch_api_Switch__netmodel_find_1_b1 p0_s p1_f_0 k101 (forN (fun k s114 n => m_slices_IndexFunc_api_Switch_api_Switch__netmodel_find_1_b1 p0_s p1_f_0 k n) (fun _ => some (-1)) zs119 (k101 + 1)) = some r := hm
  generalize hn116 : forN (fun k s114 n => m_slices_IndexFunc_api_Switch_api_Switch__netmodel_find_1_b1 p0_s p1_f_0 k n) (fun _ => some (-1)) zs119 (k101 + 1) = nx115 at hm
  unfold m_slices_IndexFunc_api_Switch_api_Switch__netmodel_find_1_b1 at hm
  refine C_skip (E_then (C_seq (C_block (C_seq (C_region ?_)))))
  refine W_move rfl rfl rfl ?_
  refine W_assign rfl rfl rfl ?_
  refine W_end (E_then (C_seq (C_region ?_)))
  refine W_move rfl rfl rfl ?_
  refine W_move rfl rfl rfl ?_
  refine W_move rfl rfl rfl ?_
  obtain ⟨y124, h125, he126, hm⟩ := idx_some hm
  obtain ⟨_, ⟨rfl⟩, hc127⟩ := (h0).elem he126
  refine W_indexS rfl rfl runUnderlying23 sizeOf70 rfl (h0.mono hle113) rfl h125 he126 ?_
  refine W_loadAgg rfl rfl isAgg70 sizeOf70 rfl (hc127.mono hle113).at rfl ?_
  refine W_callv call62 rfl rfl rfl rfl (fun w ht => by have h := m_netmodel_find_1_c (hm := (rfl : m_netmodel_find_1 y124 p1_f_0 = _))  ht; exact h) ?_
  rintro _ _ _ ⟨rfl, rfl, rfl⟩
  refine W_end (E_then ?_)
  refine C_cond (b := (m_netmodel_find_1 y124 p1_f_0)) rfl (fun hb128 => ?_) (fun hb128 => ?_)
  ·have hm := ite_t' hb128 hm
   refine C_seq (C_region ?_)
   refine W_move rfl rfl rfl ?_
   refine W_assign rfl rfl rfl ?_
   refine W_end (E_then (C_ret (E_ret_block (E_ret_then (E_ret_then (E_ret_block (E_ret_then ?_)))))))
   obtain rfl := Option.some.inj hm
   refine E_weak hle113 ?_
   exact end1 rfl rfl ⟨rfl, rfl, rfl⟩
  ·have hm := ite_f' hb128 hm
   refine C_skip (E_normal_block (E_then (C_region ?_)))
   refine W_bin rfl rfl rfl rfl rfl ?_
   refine W_move rfl rfl rfl ?_
   refine W_end ?_
   exact E_keepJ (E_back (Nat.lt_succ_self _) ⟨k101 + 1, zs119, hd122, rfl, (by rw [hn116]; exact hm), hle113, rfl, rfl⟩) (List.Perm.refl _) ⟨rfl, rfl, rfl, (congrArg (fun z => some (Value.int .i64 z)) (i64_succN hy120 (toNat_max (len_max (h0).lenMax)))), trivial⟩
 ·obtain rfl := rngN_f hd121 hb123
  have hm : (some (-1)) = some r := hm
  refine C_exit (E_exit_then (E_exit_then (E_exit_hit (E_then (C_seq (C_region ?_))))))
  refine W_assign rfl rfl rfl ?_
  refine W_end (E_then (C_ret ?_))
  obtain rfl := Option.some.inj hm
  refine E_weak hle113 ?_
  exact end1 rfl rfl ⟨rfl, rfl, rfl⟩

theorem m_netmodel_find_2_c {B : Nat} {w0 w : World} {H : Hp} {M : List Res} {p0_x : S_api_Branch} {p1_c1 : ByteArray} {b0 : Nat} {r : Bool} (hm : m_netmodel_find_2 p0_x p1_c1 = r) (ht : St B w0 H (.obj b0 (.cells ([.string (p1_c1)] : List Value).toArray 9 (0, 0)) :: M) w) :
  Calls prog 64 [.agg [.string (p0_x.Name), .string (p0_x.From), .string (p0_x.To), .int .i64 (p0_x.X), .int .i64 (p0_x.Tap), .int .i64 (p0_x.Shift), .int .i64 (p0_x.Limit), .int .i64 (p0_x.Short), .int .i64 (p0_x.Hold)].toArray, .pointer (some ⟨b0, 0, none⟩)].toArray w (Ret B w0 fun H' M' v => H = H' ∧ .obj b0 (.cells ([.string (p1_c1)] : List Value).toArray 9 (0, 0)) :: M = M' ∧ .bool (r) = v) := by
 unfold m_netmodel_find_2 at hm
 refine enter func64 rfl rfl rfl ht ?_
 refine C_seq (C_region ?_)
 refine W_box (cs := [.string (p0_x.Name), .string (p0_x.From), .string (p0_x.To), .int .i64 (p0_x.X), .int .i64 (p0_x.Tap), .int .i64 (p0_x.Shift), .int .i64 (p0_x.Limit), .int .i64 (p0_x.Short), .int .i64 (p0_x.Hold)]) rfl rfl rfl rfl (fun b101 => ?_)
 refine W_assign rfl rfl rfl ?_
 refine W_end (E_then (C_seq (C_region ?_)))
 refine W_field (o := 0) rfl rfl runUnderlying83 rfl sizeOf9 rfl rfl rfl ?_
 refine W_load rfl rfl isAgg9 rfl (own_at (List.mem_cons_self ..) rfl) ?_
 refine W_load rfl rfl isAgg9 rfl (own_at (List.mem_cons_of_mem _ (List.mem_cons_self ..)) rfl) ?_
 refine W_bin rfl rfl rfl rfl rfl ?_
 refine W_assign rfl rfl rfl ?_
 refine W_end (E_then (C_ret ?_))
 obtain rfl := hm
 refine E_drop (List.Sublist.cons _ (List.Sublist.refl _)) ?_
 refine E_weak (Hp.le_refl _) ?_
 exact end1 rfl rfl ⟨rfl, rfl, rfl⟩

theorem m_slices_IndexFunc_api_Branch_api_Branch__netmodel_find_2_c {B : Nat} {w0 w : World} {H : Hp} {M : List Res} {p0_s : (List S_api_Branch)} {p1_f_0 : ByteArray} {v0 : Value} {b0 : Nat} {r : Int} (hm : m_slices_IndexFunc_api_Branch_api_Branch__netmodel_find_2 p0_s p1_f_0 = some r) (h0 : RdS H v0 p0_s) (ht : St B w0 H (.obj b0 (.cells ([.string (p1_f_0)] : List Value).toArray 9 (0, 0)) :: M) w) :
  Calls prog 63 [v0, .func (.func 64) [].toArray [.pointer (some ⟨b0, 0, none⟩)].toArray].toArray w (Ret B w0 fun H' M' v => H = H' ∧ .obj b0 (.cells ([.string (p1_f_0)] : List Value).toArray 9 (0, 0)) :: M = M' ∧ .int .i64 (r) = v) := by
 unfold m_slices_IndexFunc_api_Branch_api_Branch__netmodel_find_2 at hm
 refine enter func63 rfl rfl rfl ht ?_
 refine C_seq (C_region ?_)
 refine W_assign rfl rfl rfl ?_
 refine W_end (E_then (C_seq (C_seq (C_region ?_))))
 refine W_move rfl rfl rfl ?_
 refine W_lenR rfl rfl runUnderlying24 rfl h0 ?_
 refine W_move rfl rfl rfl ?_
 refine W_end (E_then (C_block ?_))
 refine C_keep (L' := [(0, v0), (1, .func (.func 64) [].toArray [.pointer (some ⟨b0, 0, none⟩)].toArray), (7, .int .i64 ((p0_s.length : Int))), (8, .int .i64 (((0 : Nat) : Int)))]) ⟨rfl, rfl, rfl, rfl, trivial⟩ (List.Perm.refl _) ?_
 refine C_loop (fun n H' M' L' => ∃ (k101 : Nat) (zs119' : Nat), k101 + zs119' = ((p0_s.length : Int) : Int).toNat ∧ zs119' = n ∧ forN (fun k s114 n => m_slices_IndexFunc_api_Branch_api_Branch__netmodel_find_2_b1 p0_s p1_f_0 k n) (fun _ => some (-1)) zs119' k101 () = some r ∧ H.le H' ∧ .obj b0 (.cells ([.string (p1_f_0)] : List Value).toArray 9 (0, 0)) :: M = M' ∧ [(0, v0), (1, .func (.func 64) [].toArray [.pointer (some ⟨b0, 0, none⟩)].toArray), (7, .int .i64 ((p0_s.length : Int))), (8, .int .i64 ((k101 : Int)))] = L') _ ⟨0, _, Nat.zero_add _, rfl, hm, (Hp.le_refl _), rfl, rfl⟩ ?_
 rintro _ H112 _ _ ⟨k101, zs119', hd121, rfl, hm, hle113, rfl, rfl⟩
 refine C_seq (C_region ?_)
 refine W_bin rfl rfl rfl rfl rfl ?_
 refine W_end (E_then (C_seq ?_))
 refine C_cond (b := decide ((k101 : Int) < (p0_s.length : Int))) rfl (fun hb123 => ?_) (fun hb123 => ?_)
 ·obtain ⟨zs119, rfl, hd122, hy120⟩ := rngN_t hd121 hb123
  have hm : m_slices_IndexFunc_api_Branch_api_Branch__netmodel_find_2_b1 p0_s p1_f_0 k101 (forN (fun k s114 n => m_slices_IndexFunc_api_Branch_api_Branch__netmodel_find_2_b1 p0_s p1_f_0 k n) (fun _ => some (-1)) zs119 (k101 + 1)) = some r := hm
  generalize hn116 : forN (fun k s114 n => m_slices_IndexFunc_api_Branch_api_Branch__netmodel_find_2_b1 p0_s p1_f_0 k n) (fun _ => some (-1)) zs119 (k101 + 1) = nx115 at hm
  unfold m_slices_IndexFunc_api_Branch_api_Branch__netmodel_find_2_b1 at hm
  refine C_skip (E_then (C_seq (C_block (C_seq (C_region ?_)))))
  refine W_move rfl rfl rfl ?_
  refine W_assign rfl rfl rfl ?_
  refine W_end (E_then (C_seq (C_region ?_)))
  refine W_move rfl rfl rfl ?_
  refine W_move rfl rfl rfl ?_
  refine W_move rfl rfl rfl ?_
  obtain ⟨y124, h125, he126, hm⟩ := idx_some hm
  obtain ⟨_, ⟨rfl⟩, hc127⟩ := (h0).elem he126
  refine W_indexS rfl rfl runUnderlying24 sizeOf83 rfl (h0.mono hle113) rfl h125 he126 ?_
  refine W_loadAgg rfl rfl isAgg83 sizeOf83 rfl (hc127.mono hle113).at rfl ?_
  refine W_callv call64 rfl rfl rfl rfl (fun w ht => by have h := m_netmodel_find_2_c (hm := (rfl : m_netmodel_find_2 y124 p1_f_0 = _))  ht; exact h) ?_
  rintro _ _ _ ⟨rfl, rfl, rfl⟩
  refine W_end (E_then ?_)
  refine C_cond (b := (m_netmodel_find_2 y124 p1_f_0)) rfl (fun hb128 => ?_) (fun hb128 => ?_)
  ·have hm := ite_t' hb128 hm
   refine C_seq (C_region ?_)
   refine W_move rfl rfl rfl ?_
   refine W_assign rfl rfl rfl ?_
   refine W_end (E_then (C_ret (E_ret_block (E_ret_then (E_ret_then (E_ret_block (E_ret_then ?_)))))))
   obtain rfl := Option.some.inj hm
   refine E_weak hle113 ?_
   exact end1 rfl rfl ⟨rfl, rfl, rfl⟩
  ·have hm := ite_f' hb128 hm
   refine C_skip (E_normal_block (E_then (C_region ?_)))
   refine W_bin rfl rfl rfl rfl rfl ?_
   refine W_move rfl rfl rfl ?_
   refine W_end ?_
   exact E_keepJ (E_back (Nat.lt_succ_self _) ⟨k101 + 1, zs119, hd122, rfl, (by rw [hn116]; exact hm), hle113, rfl, rfl⟩) (List.Perm.refl _) ⟨rfl, rfl, rfl, (congrArg (fun z => some (Value.int .i64 z)) (i64_succN hy120 (toNat_max (len_max (h0).lenMax)))), trivial⟩
 ·obtain rfl := rngN_f hd121 hb123
  have hm : (some (-1)) = some r := hm
  refine C_exit (E_exit_then (E_exit_then (E_exit_hit (E_then (C_seq (C_region ?_))))))
  refine W_assign rfl rfl rfl ?_
  refine W_end (E_then (C_ret ?_))
  obtain rfl := Option.some.inj hm
  refine E_weak hle113 ?_
  exact end1 rfl rfl ⟨rfl, rfl, rfl⟩

theorem m_netmodel_find_3_c {B : Nat} {w0 w : World} {H : Hp} {M : List Res} {p0_x : S_api_Gen} {p1_c1 : ByteArray} {b0 : Nat} {r : Bool} (hm : m_netmodel_find_3 p0_x p1_c1 = r) (ht : St B w0 H (.obj b0 (.cells ([.string (p1_c1)] : List Value).toArray 9 (0, 0)) :: M) w) :
  Calls prog 65 [.agg [.string (p0_x.Name), .string (p0_x.Node), .int .i64 (p0_x.Least), .int .i64 (p0_x.Most), .int .i64 (p0_x.Ramp)].toArray, .pointer (some ⟨b0, 0, none⟩)].toArray w (Ret B w0 fun H' M' v => H = H' ∧ .obj b0 (.cells ([.string (p1_c1)] : List Value).toArray 9 (0, 0)) :: M = M' ∧ .bool (r) = v) := by
 unfold m_netmodel_find_3 at hm
 refine enter func65 rfl rfl rfl ht ?_
 refine C_seq (C_region ?_)
 refine W_box (cs := [.string (p0_x.Name), .string (p0_x.Node), .int .i64 (p0_x.Least), .int .i64 (p0_x.Most), .int .i64 (p0_x.Ramp)]) rfl rfl rfl rfl (fun b101 => ?_)
 refine W_assign rfl rfl rfl ?_
 refine W_end (E_then (C_seq (C_region ?_)))
 refine W_field (o := 0) rfl rfl runUnderlying46 rfl sizeOf9 rfl rfl rfl ?_
 refine W_load rfl rfl isAgg9 rfl (own_at (List.mem_cons_self ..) rfl) ?_
 refine W_load rfl rfl isAgg9 rfl (own_at (List.mem_cons_of_mem _ (List.mem_cons_self ..)) rfl) ?_
 refine W_bin rfl rfl rfl rfl rfl ?_
 refine W_assign rfl rfl rfl ?_
 refine W_end (E_then (C_ret ?_))
 obtain rfl := hm
 refine E_drop (List.Sublist.cons _ (List.Sublist.refl _)) ?_
 refine E_weak (Hp.le_refl _) ?_
 exact end1 rfl rfl ⟨rfl, rfl, rfl⟩

theorem m_slices_IndexFunc_api_Gen_api_Gen__netmodel_find_3_c {B : Nat} {w0 w : World} {H : Hp} {M : List Res} {p0_s : (List S_api_Gen)} {p1_f_0 : ByteArray} {v0 : Value} {b0 : Nat} {r : Int} (hm : m_slices_IndexFunc_api_Gen_api_Gen__netmodel_find_3 p0_s p1_f_0 = some r) (h0 : RdS H v0 p0_s) (ht : St B w0 H (.obj b0 (.cells ([.string (p1_f_0)] : List Value).toArray 9 (0, 0)) :: M) w) :
  Calls prog 44 [v0, .func (.func 65) [].toArray [.pointer (some ⟨b0, 0, none⟩)].toArray].toArray w (Ret B w0 fun H' M' v => H = H' ∧ .obj b0 (.cells ([.string (p1_f_0)] : List Value).toArray 9 (0, 0)) :: M = M' ∧ .int .i64 (r) = v) := by
 unfold m_slices_IndexFunc_api_Gen_api_Gen__netmodel_find_3 at hm
 refine enter func44 rfl rfl rfl ht ?_
 refine C_seq (C_region ?_)
 refine W_assign rfl rfl rfl ?_
 refine W_end (E_then (C_seq (C_seq (C_region ?_))))
 refine W_move rfl rfl rfl ?_
 refine W_lenR rfl rfl runUnderlying25 rfl h0 ?_
 refine W_move rfl rfl rfl ?_
 refine W_end (E_then (C_block ?_))
 refine C_keep (L' := [(0, v0), (1, .func (.func 65) [].toArray [.pointer (some ⟨b0, 0, none⟩)].toArray), (7, .int .i64 ((p0_s.length : Int))), (8, .int .i64 (((0 : Nat) : Int)))]) ⟨rfl, rfl, rfl, rfl, trivial⟩ (List.Perm.refl _) ?_
 refine C_loop (fun n H' M' L' => ∃ (k101 : Nat) (zs119' : Nat), k101 + zs119' = ((p0_s.length : Int) : Int).toNat ∧ zs119' = n ∧ forN (fun k s114 n => m_slices_IndexFunc_api_Gen_api_Gen__netmodel_find_3_b1 p0_s p1_f_0 k n) (fun _ => some (-1)) zs119' k101 () = some r ∧ H.le H' ∧ .obj b0 (.cells ([.string (p1_f_0)] : List Value).toArray 9 (0, 0)) :: M = M' ∧ [(0, v0), (1, .func (.func 65) [].toArray [.pointer (some ⟨b0, 0, none⟩)].toArray), (7, .int .i64 ((p0_s.length : Int))), (8, .int .i64 ((k101 : Int)))] = L') _ ⟨0, _, Nat.zero_add _, rfl, hm, (Hp.le_refl _), rfl, rfl⟩ ?_
 rintro _ H112 _ _ ⟨k101, zs119', hd121, rfl, hm, hle113, rfl, rfl⟩
 refine C_seq (C_region ?_)
 refine W_bin rfl rfl rfl rfl rfl ?_
 refine W_end (E_then (C_seq ?_))
 refine C_cond (b := decide ((k101 : Int) < (p0_s.length : Int))) rfl (fun hb123 => ?_) (fun hb123 => ?_)
 ·obtain ⟨zs119, rfl, hd122, hy120⟩ := rngN_t hd121 hb123
  have hm : m_slices_IndexFunc_api_Gen_api_Gen__netmodel_find_3_b1 p0_s p1_f_0 k101 (forN (fun k s114 n => m_slices_IndexFunc_api_Gen_api_Gen__netmodel_find_3_b1 p0_s p1_f_0 k n) (fun _ => some (-1)) zs119 (k101 + 1)) = some r := hm
  generalize hn116 : forN (fun k s114 n => m_slices_IndexFunc_api_Gen_api_Gen__netmodel_find_3_b1 p0_s p1_f_0 k n) (fun _ => some (-1)) zs119 (k101 + 1) = nx115 at hm
  unfold m_slices_IndexFunc_api_Gen_api_Gen__netmodel_find_3_b1 at hm
  refine C_skip (E_then (C_seq (C_block (C_seq (C_region ?_)))))
  refine W_move rfl rfl rfl ?_
  refine W_assign rfl rfl rfl ?_
  refine W_end (E_then (C_seq (C_region ?_)))
  refine W_move rfl rfl rfl ?_
  refine W_move rfl rfl rfl ?_
  refine W_move rfl rfl rfl ?_
  obtain ⟨y124, h125, he126, hm⟩ := idx_some hm
  obtain ⟨_, ⟨rfl⟩, hc127⟩ := (h0).elem he126
  refine W_indexS rfl rfl runUnderlying25 sizeOf46 rfl (h0.mono hle113) rfl h125 he126 ?_
  refine W_loadAgg rfl rfl isAgg46 sizeOf46 rfl (hc127.mono hle113).at rfl ?_
  refine W_callv call65 rfl rfl rfl rfl (fun w ht => by have h := m_netmodel_find_3_c (hm := (rfl : m_netmodel_find_3 y124 p1_f_0 = _))  ht; exact h) ?_
  rintro _ _ _ ⟨rfl, rfl, rfl⟩
  refine W_end (E_then ?_)
  refine C_cond (b := (m_netmodel_find_3 y124 p1_f_0)) rfl (fun hb128 => ?_) (fun hb128 => ?_)
  ·have hm := ite_t' hb128 hm
   refine C_seq (C_region ?_)
   refine W_move rfl rfl rfl ?_
   refine W_assign rfl rfl rfl ?_
   refine W_end (E_then (C_ret (E_ret_block (E_ret_then (E_ret_then (E_ret_block (E_ret_then ?_)))))))
   obtain rfl := Option.some.inj hm
   refine E_weak hle113 ?_
   exact end1 rfl rfl ⟨rfl, rfl, rfl⟩
  ·have hm := ite_f' hb128 hm
   refine C_skip (E_normal_block (E_then (C_region ?_)))
   refine W_bin rfl rfl rfl rfl rfl ?_
   refine W_move rfl rfl rfl ?_
   refine W_end ?_
   exact E_keepJ (E_back (Nat.lt_succ_self _) ⟨k101 + 1, zs119, hd122, rfl, (by rw [hn116]; exact hm), hle113, rfl, rfl⟩) (List.Perm.refl _) ⟨rfl, rfl, rfl, (congrArg (fun z => some (Value.int .i64 z)) (i64_succN hy120 (toNat_max (len_max (h0).lenMax)))), trivial⟩
 ·obtain rfl := rngN_f hd121 hb123
  have hm : (some (-1)) = some r := hm
  refine C_exit (E_exit_then (E_exit_then (E_exit_hit (E_then (C_seq (C_region ?_))))))
  refine W_assign rfl rfl rfl ?_
  refine W_end (E_then (C_ret ?_))
  obtain rfl := Option.some.inj hm
  refine E_weak hle113 ?_
  exact end1 rfl rfl ⟨rfl, rfl, rfl⟩

theorem m_netmodel_find_4_c {B : Nat} {w0 w : World} {H : Hp} {M : List Res} {p0_x : S_api_Load} {p1_c1 : ByteArray} {b0 : Nat} {r : Bool} (hm : m_netmodel_find_4 p0_x p1_c1 = r) (ht : St B w0 H (.obj b0 (.cells ([.string (p1_c1)] : List Value).toArray 9 (0, 0)) :: M) w) :
  Calls prog 67 [.agg [.string (p0_x.Name), .string (p0_x.Node), .int .i64 (p0_x.Demand)].toArray, .pointer (some ⟨b0, 0, none⟩)].toArray w (Ret B w0 fun H' M' v => H = H' ∧ .obj b0 (.cells ([.string (p1_c1)] : List Value).toArray 9 (0, 0)) :: M = M' ∧ .bool (r) = v) := by
 unfold m_netmodel_find_4 at hm
 refine enter func67 rfl rfl rfl ht ?_
 refine C_seq (C_region ?_)
 refine W_box (cs := [.string (p0_x.Name), .string (p0_x.Node), .int .i64 (p0_x.Demand)]) rfl rfl rfl rfl (fun b101 => ?_)
 refine W_assign rfl rfl rfl ?_
 refine W_end (E_then (C_seq (C_region ?_)))
 refine W_field (o := 0) rfl rfl runUnderlying93 rfl sizeOf9 rfl rfl rfl ?_
 refine W_load rfl rfl isAgg9 rfl (own_at (List.mem_cons_self ..) rfl) ?_
 refine W_load rfl rfl isAgg9 rfl (own_at (List.mem_cons_of_mem _ (List.mem_cons_self ..)) rfl) ?_
 refine W_bin rfl rfl rfl rfl rfl ?_
 refine W_assign rfl rfl rfl ?_
 refine W_end (E_then (C_ret ?_))
 obtain rfl := hm
 refine E_drop (List.Sublist.cons _ (List.Sublist.refl _)) ?_
 refine E_weak (Hp.le_refl _) ?_
 exact end1 rfl rfl ⟨rfl, rfl, rfl⟩

theorem m_slices_IndexFunc_api_Load_api_Load__netmodel_find_4_c {B : Nat} {w0 w : World} {H : Hp} {M : List Res} {p0_s : (List S_api_Load)} {p1_f_0 : ByteArray} {v0 : Value} {b0 : Nat} {r : Int} (hm : m_slices_IndexFunc_api_Load_api_Load__netmodel_find_4 p0_s p1_f_0 = some r) (h0 : RdS H v0 p0_s) (ht : St B w0 H (.obj b0 (.cells ([.string (p1_f_0)] : List Value).toArray 9 (0, 0)) :: M) w) :
  Calls prog 66 [v0, .func (.func 67) [].toArray [.pointer (some ⟨b0, 0, none⟩)].toArray].toArray w (Ret B w0 fun H' M' v => H = H' ∧ .obj b0 (.cells ([.string (p1_f_0)] : List Value).toArray 9 (0, 0)) :: M = M' ∧ .int .i64 (r) = v) := by
 unfold m_slices_IndexFunc_api_Load_api_Load__netmodel_find_4 at hm
 refine enter func66 rfl rfl rfl ht ?_
 refine C_seq (C_region ?_)
 refine W_assign rfl rfl rfl ?_
 refine W_end (E_then (C_seq (C_seq (C_region ?_))))
 refine W_move rfl rfl rfl ?_
 refine W_lenR rfl rfl runUnderlying26 rfl h0 ?_
 refine W_move rfl rfl rfl ?_
 refine W_end (E_then (C_block ?_))
 refine C_keep (L' := [(0, v0), (1, .func (.func 67) [].toArray [.pointer (some ⟨b0, 0, none⟩)].toArray), (7, .int .i64 ((p0_s.length : Int))), (8, .int .i64 (((0 : Nat) : Int)))]) ⟨rfl, rfl, rfl, rfl, trivial⟩ (List.Perm.refl _) ?_
 refine C_loop (fun n H' M' L' => ∃ (k101 : Nat) (zs119' : Nat), k101 + zs119' = ((p0_s.length : Int) : Int).toNat ∧ zs119' = n ∧ forN (fun k s114 n => m_slices_IndexFunc_api_Load_api_Load__netmodel_find_4_b1 p0_s p1_f_0 k n) (fun _ => some (-1)) zs119' k101 () = some r ∧ H.le H' ∧ .obj b0 (.cells ([.string (p1_f_0)] : List Value).toArray 9 (0, 0)) :: M = M' ∧ [(0, v0), (1, .func (.func 67) [].toArray [.pointer (some ⟨b0, 0, none⟩)].toArray), (7, .int .i64 ((p0_s.length : Int))), (8, .int .i64 ((k101 : Int)))] = L') _ ⟨0, _, Nat.zero_add _, rfl, hm, (Hp.le_refl _), rfl, rfl⟩ ?_
 rintro _ H112 _ _ ⟨k101, zs119', hd121, rfl, hm, hle113, rfl, rfl⟩
 refine C_seq (C_region ?_)
 refine W_bin rfl rfl rfl rfl rfl ?_
 refine W_end (E_then (C_seq ?_))
 refine C_cond (b := decide ((k101 : Int) < (p0_s.length : Int))) rfl (fun hb123 => ?_) (fun hb123 => ?_)
 ·obtain ⟨zs119, rfl, hd122, hy120⟩ := rngN_t hd121 hb123
  have hm : m_slices_IndexFunc_api_Load_api_Load__netmodel_find_4_b1 p0_s p1_f_0 k101 (forN (fun k s114 n => m_slices_IndexFunc_api_Load_api_Load__netmodel_find_4_b1 p0_s p1_f_0 k n) (fun _ => some (-1)) zs119 (k101 + 1)) = some r := hm
  generalize hn116 : forN (fun k s114 n => m_slices_IndexFunc_api_Load_api_Load__netmodel_find_4_b1 p0_s p1_f_0 k n) (fun _ => some (-1)) zs119 (k101 + 1) = nx115 at hm
  unfold m_slices_IndexFunc_api_Load_api_Load__netmodel_find_4_b1 at hm
  refine C_skip (E_then (C_seq (C_block (C_seq (C_region ?_)))))
  refine W_move rfl rfl rfl ?_
  refine W_assign rfl rfl rfl ?_
  refine W_end (E_then (C_seq (C_region ?_)))
  refine W_move rfl rfl rfl ?_
  refine W_move rfl rfl rfl ?_
  refine W_move rfl rfl rfl ?_
  obtain ⟨y124, h125, he126, hm⟩ := idx_some hm
  obtain ⟨_, ⟨rfl⟩, hc127⟩ := (h0).elem he126
  refine W_indexS rfl rfl runUnderlying26 sizeOf93 rfl (h0.mono hle113) rfl h125 he126 ?_
  refine W_loadAgg rfl rfl isAgg93 sizeOf93 rfl (hc127.mono hle113).at rfl ?_
  refine W_callv call67 rfl rfl rfl rfl (fun w ht => by have h := m_netmodel_find_4_c (hm := (rfl : m_netmodel_find_4 y124 p1_f_0 = _))  ht; exact h) ?_
  rintro _ _ _ ⟨rfl, rfl, rfl⟩
  refine W_end (E_then ?_)
  refine C_cond (b := (m_netmodel_find_4 y124 p1_f_0)) rfl (fun hb128 => ?_) (fun hb128 => ?_)
  ·have hm := ite_t' hb128 hm
   refine C_seq (C_region ?_)
   refine W_move rfl rfl rfl ?_
   refine W_assign rfl rfl rfl ?_
   refine W_end (E_then (C_ret (E_ret_block (E_ret_then (E_ret_then (E_ret_block (E_ret_then ?_)))))))
   obtain rfl := Option.some.inj hm
   refine E_weak hle113 ?_
   exact end1 rfl rfl ⟨rfl, rfl, rfl⟩
  ·have hm := ite_f' hb128 hm
   refine C_skip (E_normal_block (E_then (C_region ?_)))
   refine W_bin rfl rfl rfl rfl rfl ?_
   refine W_move rfl rfl rfl ?_
   refine W_end ?_
   exact E_keepJ (E_back (Nat.lt_succ_self _) ⟨k101 + 1, zs119, hd122, rfl, (by rw [hn116]; exact hm), hle113, rfl, rfl⟩) (List.Perm.refl _) ⟨rfl, rfl, rfl, (congrArg (fun z => some (Value.int .i64 z)) (i64_succN hy120 (toNat_max (len_max (h0).lenMax)))), trivial⟩
 ·obtain rfl := rngN_f hd121 hb123
  have hm : (some (-1)) = some r := hm
  refine C_exit (E_exit_then (E_exit_then (E_exit_hit (E_then (C_seq (C_region ?_))))))
  refine W_assign rfl rfl rfl ?_
  refine W_end (E_then (C_ret ?_))
  obtain rfl := Option.some.inj hm
  refine E_weak hle113 ?_
  exact end1 rfl rfl ⟨rfl, rfl, rfl⟩

theorem m_netmodel_find_5_c {B : Nat} {w0 w : World} {H : Hp} {M : List Res} {p0_x : S_api_Store} {p1_c1 : ByteArray} {b0 : Nat} {r : Bool} (hm : m_netmodel_find_5 p0_x p1_c1 = r) (ht : St B w0 H (.obj b0 (.cells ([.string (p1_c1)] : List Value).toArray 9 (0, 0)) :: M) w) :
  Calls prog 69 [.agg [.string (p0_x.Name), .string (p0_x.Node), .int .i64 (p0_x.Charge), .int .i64 (p0_x.Discharge), .int .i64 (p0_x.Capacity)].toArray, .pointer (some ⟨b0, 0, none⟩)].toArray w (Ret B w0 fun H' M' v => H = H' ∧ .obj b0 (.cells ([.string (p1_c1)] : List Value).toArray 9 (0, 0)) :: M = M' ∧ .bool (r) = v) := by
 unfold m_netmodel_find_5 at hm
 refine enter func69 rfl rfl rfl ht ?_
 refine C_seq (C_region ?_)
 refine W_box (cs := [.string (p0_x.Name), .string (p0_x.Node), .int .i64 (p0_x.Charge), .int .i64 (p0_x.Discharge), .int .i64 (p0_x.Capacity)]) rfl rfl rfl rfl (fun b101 => ?_)
 refine W_assign rfl rfl rfl ?_
 refine W_end (E_then (C_seq (C_region ?_)))
 refine W_field (o := 0) rfl rfl runUnderlying96 rfl sizeOf9 rfl rfl rfl ?_
 refine W_load rfl rfl isAgg9 rfl (own_at (List.mem_cons_self ..) rfl) ?_
 refine W_load rfl rfl isAgg9 rfl (own_at (List.mem_cons_of_mem _ (List.mem_cons_self ..)) rfl) ?_
 refine W_bin rfl rfl rfl rfl rfl ?_
 refine W_assign rfl rfl rfl ?_
 refine W_end (E_then (C_ret ?_))
 obtain rfl := hm
 refine E_drop (List.Sublist.cons _ (List.Sublist.refl _)) ?_
 refine E_weak (Hp.le_refl _) ?_
 exact end1 rfl rfl ⟨rfl, rfl, rfl⟩

theorem m_slices_IndexFunc_api_Store_api_Store__netmodel_find_5_c {B : Nat} {w0 w : World} {H : Hp} {M : List Res} {p0_s : (List S_api_Store)} {p1_f_0 : ByteArray} {v0 : Value} {b0 : Nat} {r : Int} (hm : m_slices_IndexFunc_api_Store_api_Store__netmodel_find_5 p0_s p1_f_0 = some r) (h0 : RdS H v0 p0_s) (ht : St B w0 H (.obj b0 (.cells ([.string (p1_f_0)] : List Value).toArray 9 (0, 0)) :: M) w) :
  Calls prog 68 [v0, .func (.func 69) [].toArray [.pointer (some ⟨b0, 0, none⟩)].toArray].toArray w (Ret B w0 fun H' M' v => H = H' ∧ .obj b0 (.cells ([.string (p1_f_0)] : List Value).toArray 9 (0, 0)) :: M = M' ∧ .int .i64 (r) = v) := by
 unfold m_slices_IndexFunc_api_Store_api_Store__netmodel_find_5 at hm
 refine enter func68 rfl rfl rfl ht ?_
 refine C_seq (C_region ?_)
 refine W_assign rfl rfl rfl ?_
 refine W_end (E_then (C_seq (C_seq (C_region ?_))))
 refine W_move rfl rfl rfl ?_
 refine W_lenR rfl rfl runUnderlying27 rfl h0 ?_
 refine W_move rfl rfl rfl ?_
 refine W_end (E_then (C_block ?_))
 refine C_keep (L' := [(0, v0), (1, .func (.func 69) [].toArray [.pointer (some ⟨b0, 0, none⟩)].toArray), (7, .int .i64 ((p0_s.length : Int))), (8, .int .i64 (((0 : Nat) : Int)))]) ⟨rfl, rfl, rfl, rfl, trivial⟩ (List.Perm.refl _) ?_
 refine C_loop (fun n H' M' L' => ∃ (k101 : Nat) (zs119' : Nat), k101 + zs119' = ((p0_s.length : Int) : Int).toNat ∧ zs119' = n ∧ forN (fun k s114 n => m_slices_IndexFunc_api_Store_api_Store__netmodel_find_5_b1 p0_s p1_f_0 k n) (fun _ => some (-1)) zs119' k101 () = some r ∧ H.le H' ∧ .obj b0 (.cells ([.string (p1_f_0)] : List Value).toArray 9 (0, 0)) :: M = M' ∧ [(0, v0), (1, .func (.func 69) [].toArray [.pointer (some ⟨b0, 0, none⟩)].toArray), (7, .int .i64 ((p0_s.length : Int))), (8, .int .i64 ((k101 : Int)))] = L') _ ⟨0, _, Nat.zero_add _, rfl, hm, (Hp.le_refl _), rfl, rfl⟩ ?_
 rintro _ H112 _ _ ⟨k101, zs119', hd121, rfl, hm, hle113, rfl, rfl⟩
 refine C_seq (C_region ?_)
 refine W_bin rfl rfl rfl rfl rfl ?_
 refine W_end (E_then (C_seq ?_))
 refine C_cond (b := decide ((k101 : Int) < (p0_s.length : Int))) rfl (fun hb123 => ?_) (fun hb123 => ?_)
 ·obtain ⟨zs119, rfl, hd122, hy120⟩ := rngN_t hd121 hb123
  have hm : m_slices_IndexFunc_api_Store_api_Store__netmodel_find_5_b1 p0_s p1_f_0 k101 (forN (fun k s114 n => m_slices_IndexFunc_api_Store_api_Store__netmodel_find_5_b1 p0_s p1_f_0 k n) (fun _ => some (-1)) zs119 (k101 + 1)) = some r := hm
  generalize hn116 : forN (fun k s114 n => m_slices_IndexFunc_api_Store_api_Store__netmodel_find_5_b1 p0_s p1_f_0 k n) (fun _ => some (-1)) zs119 (k101 + 1) = nx115 at hm
  unfold m_slices_IndexFunc_api_Store_api_Store__netmodel_find_5_b1 at hm
  refine C_skip (E_then (C_seq (C_block (C_seq (C_region ?_)))))
  refine W_move rfl rfl rfl ?_
  refine W_assign rfl rfl rfl ?_
  refine W_end (E_then (C_seq (C_region ?_)))
  refine W_move rfl rfl rfl ?_
  refine W_move rfl rfl rfl ?_
  refine W_move rfl rfl rfl ?_
  obtain ⟨y124, h125, he126, hm⟩ := idx_some hm
  obtain ⟨_, ⟨rfl⟩, hc127⟩ := (h0).elem he126
  refine W_indexS rfl rfl runUnderlying27 sizeOf96 rfl (h0.mono hle113) rfl h125 he126 ?_
  refine W_loadAgg rfl rfl isAgg96 sizeOf96 rfl (hc127.mono hle113).at rfl ?_
  refine W_callv call69 rfl rfl rfl rfl (fun w ht => by have h := m_netmodel_find_5_c (hm := (rfl : m_netmodel_find_5 y124 p1_f_0 = _))  ht; exact h) ?_
  rintro _ _ _ ⟨rfl, rfl, rfl⟩
  refine W_end (E_then ?_)
  refine C_cond (b := (m_netmodel_find_5 y124 p1_f_0)) rfl (fun hb128 => ?_) (fun hb128 => ?_)
  ·have hm := ite_t' hb128 hm
   refine C_seq (C_region ?_)
   refine W_move rfl rfl rfl ?_
   refine W_assign rfl rfl rfl ?_
   refine W_end (E_then (C_ret (E_ret_block (E_ret_then (E_ret_then (E_ret_block (E_ret_then ?_)))))))
   obtain rfl := Option.some.inj hm
   refine E_weak hle113 ?_
   exact end1 rfl rfl ⟨rfl, rfl, rfl⟩
  ·have hm := ite_f' hb128 hm
   refine C_skip (E_normal_block (E_then (C_region ?_)))
   refine W_bin rfl rfl rfl rfl rfl ?_
   refine W_move rfl rfl rfl ?_
   refine W_end ?_
   exact E_keepJ (E_back (Nat.lt_succ_self _) ⟨k101 + 1, zs119, hd122, rfl, (by rw [hn116]; exact hm), hle113, rfl, rfl⟩) (List.Perm.refl _) ⟨rfl, rfl, rfl, (congrArg (fun z => some (Value.int .i64 z)) (i64_succN hy120 (toNat_max (len_max (h0).lenMax)))), trivial⟩
 ·obtain rfl := rngN_f hd121 hb123
  have hm : (some (-1)) = some r := hm
  refine C_exit (E_exit_then (E_exit_then (E_exit_hit (E_then (C_seq (C_region ?_))))))
  refine W_assign rfl rfl rfl ?_
  refine W_end (E_then (C_ret ?_))
  obtain rfl := Option.some.inj hm
  refine E_weak hle113 ?_
  exact end1 rfl rfl ⟨rfl, rfl, rfl⟩

theorem m_netmodel_find_c {B : Nat} {w0 w : World} {H : Hp} {M : List Res} {p0_n : S_api_Network} {name : ByteArray} {v0 : Value} {v1 : Value} {v2 : Value} {v3 : Value} {v4 : Value} {v5 : Value} {r : ByteArray × Int} (hm : m_netmodel_find p0_n name = some r) (h0 : RdS H v0 p0_n.Nodes) (h1 : RdS H v1 p0_n.Switches) (h2 : RdS H v2 p0_n.Branches) (h3 : RdS H v3 p0_n.Gens) (h4 : RdS H v4 p0_n.Loads) (h5 : RdS H v5 p0_n.Stores) (ht : St B w0 H (M) w) :
  Calls prog 56 [.agg [v0, v1, v2, v3, v4, v5].toArray, .string (name)].toArray w (Ret B w0 fun H' M' v => H = H' ∧ M = M' ∧ .tuple #[.string (r.1), .int .i64 (r.2)] = v) := by
 unfold m_netmodel_find at hm
 refine enter func56 rfl rfl rfl ht ?_
 refine C_seq (C_region ?_)
 refine W_box (cs := [v0, v1, v2, v3, v4, v5]) rfl rfl rfl rfl (fun b101 => ?_)
 refine W_box (cs := [.string (name)]) rfl rfl rfl rfl (fun b102 => ?_)
 refine W_assign rfl rfl rfl ?_
 refine W_assign rfl rfl rfl ?_
 refine W_end (E_then (C_seq (C_seq (C_region ?_))))
 refine W_field (o := 0) rfl rfl runUnderlying29 rfl sizeOf22 rfl rfl rfl ?_
 refine W_load rfl rfl isAgg22 rfl (own_at (List.mem_cons_of_mem _ (List.mem_cons_self ..)) rfl) ?_
 refine W_load rfl rfl isAgg9 rfl (own_at (List.mem_cons_self ..) rfl) ?_
 obtain ⟨r103, hc104, hm⟩ := bind_some hm
 refine W_call call31 rfl rfl rfl (fun w ht => by have h := m_slices_Index_string_string_c (hm := hc104) h0 ht; exact h) ?_
 rintro _ _ _ ⟨rfl, rfl, rfl⟩
 refine W_assign rfl rfl rfl ?_
 refine W_end (E_then (C_seq (C_region ?_)))
 refine W_move rfl rfl rfl ?_
 refine W_bin rfl rfl rfl rfl rfl ?_
 refine W_end (E_then ?_)
 refine C_cond (b := decide (0 ≤ r103)) rfl (fun hb105 => ?_) (fun hb105 => ?_)
 ·have hm := ite_t' hb105 hm
  refine C_seq (C_region ?_)
  refine W_move rfl rfl rfl ?_
  refine W_assign rfl rfl rfl ?_
  refine W_assign rfl rfl rfl ?_
  refine W_end (E_then (C_ret (E_ret_then ?_)))
  obtain rfl := Option.some.inj hm
  refine E_drop (List.Sublist.cons _ (List.Sublist.cons _ (List.Sublist.refl _))) ?_
  refine E_weak (Hp.le_refl _) ?_
  exact end2 rfl rfl rfl ⟨rfl, rfl, rfl⟩
 ·have hm := ite_f' hb105 hm
  refine C_skip (E_then (C_seq (C_seq (C_region ?_))))
  refine W_field (o := 1) rfl rfl runUnderlying29 rfl sizeOf23 rfl rfl rfl ?_
  refine W_load rfl rfl isAgg23 rfl (own_at (List.mem_cons_of_mem _ (List.mem_cons_self ..)) rfl) ?_
  refine W_makeFunc rfl rfl rfl rfl ?_
  obtain ⟨r106, hc107, hm⟩ := bind_some hm
  refine W_call call46 rfl rfl rfl (fun w ht => by have h := m_slices_IndexFunc_api_Switch_api_Switch__netmodel_find_1_c (hm := hc107) h1 ht; exact h) ?_
  rintro _ _ _ ⟨rfl, rfl, rfl⟩
  refine W_assign rfl rfl rfl ?_
  refine W_end (E_then (C_seq (C_region ?_)))
  refine W_move rfl rfl rfl ?_
  refine W_bin rfl rfl rfl rfl rfl ?_
  refine W_end (E_then ?_)
  refine C_cond (b := decide (0 ≤ r106)) rfl (fun hb108 => ?_) (fun hb108 => ?_)
  ·have hm := ite_t' hb108 hm
   refine C_seq (C_region ?_)
   refine W_move rfl rfl rfl ?_
   refine W_assign rfl rfl rfl ?_
   refine W_assign rfl rfl rfl ?_
   refine W_end (E_then (C_ret (E_ret_then ?_)))
   obtain rfl := Option.some.inj hm
   refine E_drop (List.Sublist.cons _ (List.Sublist.cons _ (List.Sublist.refl _))) ?_
   refine E_weak (Hp.le_refl _) ?_
   exact end2 rfl rfl rfl ⟨rfl, rfl, rfl⟩
  ·have hm := ite_f' hb108 hm
   refine C_skip (E_then (C_seq (C_seq (C_region ?_))))
   refine W_field (o := 2) rfl rfl runUnderlying29 rfl sizeOf24 rfl rfl rfl ?_
   refine W_load rfl rfl isAgg24 rfl (own_at (List.mem_cons_of_mem _ (List.mem_cons_self ..)) rfl) ?_
   refine W_makeFunc rfl rfl rfl rfl ?_
   obtain ⟨r109, hc110, hm⟩ := bind_some hm
   refine W_call call63 rfl rfl rfl (fun w ht => by have h := m_slices_IndexFunc_api_Branch_api_Branch__netmodel_find_2_c (hm := hc110) h2 ht; exact h) ?_
   rintro _ _ _ ⟨rfl, rfl, rfl⟩
   refine W_assign rfl rfl rfl ?_
   refine W_end (E_then (C_seq (C_region ?_)))
   refine W_move rfl rfl rfl ?_
   refine W_bin rfl rfl rfl rfl rfl ?_
   refine W_end (E_then ?_)
   refine C_cond (b := decide (0 ≤ r109)) rfl (fun hb111 => ?_) (fun hb111 => ?_)
   ·have hm := ite_t' hb111 hm
    refine C_seq (C_region ?_)
    refine W_move rfl rfl rfl ?_
    refine W_assign rfl rfl rfl ?_
    refine W_assign rfl rfl rfl ?_
    refine W_end (E_then (C_ret (E_ret_then ?_)))
    obtain rfl := Option.some.inj hm
    refine E_drop (List.Sublist.cons _ (List.Sublist.cons _ (List.Sublist.refl _))) ?_
    refine E_weak (Hp.le_refl _) ?_
    exact end2 rfl rfl rfl ⟨rfl, rfl, rfl⟩
   ·have hm := ite_f' hb111 hm
    refine C_skip (E_then (C_seq (C_seq (C_region ?_))))
    refine W_field (o := 3) rfl rfl runUnderlying29 rfl sizeOf25 rfl rfl rfl ?_
    refine W_load rfl rfl isAgg25 rfl (own_at (List.mem_cons_of_mem _ (List.mem_cons_self ..)) rfl) ?_
    refine W_makeFunc rfl rfl rfl rfl ?_
    obtain ⟨r112, hc113, hm⟩ := bind_some hm
    refine W_call call44 rfl rfl rfl (fun w ht => by have h := m_slices_IndexFunc_api_Gen_api_Gen__netmodel_find_3_c (hm := hc113) h3 ht; exact h) ?_
    rintro _ _ _ ⟨rfl, rfl, rfl⟩
    refine W_assign rfl rfl rfl ?_
    refine W_end (E_then (C_seq (C_region ?_)))
    refine W_move rfl rfl rfl ?_
    refine W_bin rfl rfl rfl rfl rfl ?_
    refine W_end (E_then ?_)
    refine C_cond (b := decide (0 ≤ r112)) rfl (fun hb114 => ?_) (fun hb114 => ?_)
    ·have hm := ite_t' hb114 hm
     refine C_seq (C_region ?_)
     refine W_move rfl rfl rfl ?_
     refine W_assign rfl rfl rfl ?_
     refine W_assign rfl rfl rfl ?_
     refine W_end (E_then (C_ret (E_ret_then ?_)))
     obtain rfl := Option.some.inj hm
     refine E_drop (List.Sublist.cons _ (List.Sublist.cons _ (List.Sublist.refl _))) ?_
     refine E_weak (Hp.le_refl _) ?_
     exact end2 rfl rfl rfl ⟨rfl, rfl, rfl⟩
    ·have hm := ite_f' hb114 hm
     refine C_skip (E_then (C_seq (C_seq (C_region ?_))))
     refine W_field (o := 4) rfl rfl runUnderlying29 rfl sizeOf26 rfl rfl rfl ?_
     refine W_load rfl rfl isAgg26 rfl (own_at (List.mem_cons_of_mem _ (List.mem_cons_self ..)) rfl) ?_
     refine W_makeFunc rfl rfl rfl rfl ?_
     obtain ⟨r115, hc116, hm⟩ := bind_some hm
     refine W_call call66 rfl rfl rfl (fun w ht => by have h := m_slices_IndexFunc_api_Load_api_Load__netmodel_find_4_c (hm := hc116) h4 ht; exact h) ?_
     rintro _ _ _ ⟨rfl, rfl, rfl⟩
     refine W_assign rfl rfl rfl ?_
     refine W_end (E_then (C_seq (C_region ?_)))
     refine W_move rfl rfl rfl ?_
     refine W_bin rfl rfl rfl rfl rfl ?_
     refine W_end (E_then ?_)
     refine C_cond (b := decide (0 ≤ r115)) rfl (fun hb117 => ?_) (fun hb117 => ?_)
     ·have hm := ite_t' hb117 hm
      refine C_seq (C_region ?_)
      refine W_move rfl rfl rfl ?_
      refine W_assign rfl rfl rfl ?_
      refine W_assign rfl rfl rfl ?_
      refine W_end (E_then (C_ret (E_ret_then ?_)))
      obtain rfl := Option.some.inj hm
      refine E_drop (List.Sublist.cons _ (List.Sublist.cons _ (List.Sublist.refl _))) ?_
      refine E_weak (Hp.le_refl _) ?_
      exact end2 rfl rfl rfl ⟨rfl, rfl, rfl⟩
     ·have hm := ite_f' hb117 hm
      refine C_skip (E_then (C_seq (C_seq (C_region ?_))))
      refine W_field (o := 5) rfl rfl runUnderlying29 rfl sizeOf27 rfl rfl rfl ?_
      refine W_load rfl rfl isAgg27 rfl (own_at (List.mem_cons_of_mem _ (List.mem_cons_self ..)) rfl) ?_
      refine W_makeFunc rfl rfl rfl rfl ?_
      obtain ⟨r118, hc119, hm⟩ := bind_some hm
      refine W_call call68 rfl rfl rfl (fun w ht => by have h := m_slices_IndexFunc_api_Store_api_Store__netmodel_find_5_c (hm := hc119) h5 ht; exact h) ?_
      rintro _ _ _ ⟨rfl, rfl, rfl⟩
      refine W_assign rfl rfl rfl ?_
      refine W_end (E_then (C_seq (C_region ?_)))
      refine W_move rfl rfl rfl ?_
      refine W_bin rfl rfl rfl rfl rfl ?_
      refine W_end (E_then ?_)
      refine C_cond (b := decide (0 ≤ r118)) rfl (fun hb120 => ?_) (fun hb120 => ?_)
      ·have hm := ite_t' hb120 hm
       refine C_seq (C_region ?_)
       refine W_move rfl rfl rfl ?_
       refine W_assign rfl rfl rfl ?_
       refine W_assign rfl rfl rfl ?_
       refine W_end (E_then (C_ret (E_ret_then ?_)))
       obtain rfl := Option.some.inj hm
       refine E_drop (List.Sublist.cons _ (List.Sublist.cons _ (List.Sublist.refl _))) ?_
       refine E_weak (Hp.le_refl _) ?_
       exact end2 rfl rfl rfl ⟨rfl, rfl, rfl⟩
      ·have hm := ite_f' hb120 hm
       refine C_skip (E_then (C_seq (C_region ?_)))
       refine W_assign rfl rfl rfl ?_
       refine W_assign rfl rfl rfl ?_
       refine W_end (E_then (C_ret ?_))
       obtain rfl := Option.some.inj hm
       refine E_drop (List.Sublist.cons _ (List.Sublist.cons _ (List.Sublist.refl _))) ?_
       refine E_weak (Hp.le_refl _) ?_
       exact end2 rfl rfl rfl ⟨rfl, rfl, rfl⟩

theorem m_netmodel_Find_c {B : Nat} {w0 w : World} {H : Hp} {M : List Res} {p0_n : S_api_Network} {name : ByteArray} {v0 : Value} {v1 : Value} {v2 : Value} {v3 : Value} {v4 : Value} {v5 : Value} {r : ByteArray × Int × Int} (hm : m_netmodel_Find p0_n name = some r) (h0 : RdS H v0 p0_n.Nodes) (h1 : RdS H v1 p0_n.Switches) (h2 : RdS H v2 p0_n.Branches) (h3 : RdS H v3 p0_n.Gens) (h4 : RdS H v4 p0_n.Loads) (h5 : RdS H v5 p0_n.Stores) (ht : St B w0 H (M) w) :
  Calls prog 36 [.agg [v0, v1, v2, v3, v4, v5].toArray, .string (name)].toArray w (Ret B w0 fun H' M' v => H = H' ∧ M = M' ∧ .tuple #[.string (r.1), .int .i64 (r.2.1), .int .i64 (r.2.2)] = v) := by
 unfold m_netmodel_Find at hm
 refine enter func36 rfl rfl rfl ht ?_
 refine C_seq (C_region ?_)
 refine W_box (cs := [v0, v1, v2, v3, v4, v5]) rfl rfl rfl rfl (fun b101 => ?_)
 refine W_assign rfl rfl rfl ?_
 refine W_assign rfl rfl rfl ?_
 refine W_assign rfl rfl rfl ?_
 refine W_end (E_then (C_seq (C_seq (C_region ?_))))
 refine W_loadAgg rfl rfl isAgg29 sizeOf29 rfl (own_all (List.mem_cons_self ..)) rfl ?_
 obtain ⟨r102, hc103, hm⟩ := bind_some hm
 refine W_call call16 rfl rfl rfl (fun w ht => by have h := m_netmodel_Check_c (hm := hc103) h0 h1 h2 h3 h4 h5 ht; exact h) ?_
 rintro _ _ _ ⟨rfl, rfl, rfl⟩
 refine W_assign rfl rfl rfl ?_
 refine W_end (E_then (C_seq (C_region ?_)))
 refine W_move rfl rfl rfl ?_
 refine W_bin rfl rfl rfl rfl rfl ?_
 refine W_end (E_then ?_)
 refine C_cond (b := !decide (r102 = 0)) rfl (fun hb104 => ?_) (fun hb104 => ?_)
 ·have hm := ite_t' hb104 hm
  refine C_seq (C_region ?_)
  refine W_move rfl rfl rfl ?_
  refine W_assign rfl rfl rfl ?_
  refine W_assign rfl rfl rfl ?_
  refine W_assign rfl rfl rfl ?_
  refine W_end (E_then (C_ret (E_ret_then ?_)))
  obtain rfl := Option.some.inj hm
  refine E_drop (List.Sublist.cons _ (List.Sublist.refl _)) ?_
  refine E_weak (Hp.le_refl _) ?_
  exact end3 rfl rfl rfl rfl ⟨rfl, rfl, rfl⟩
 ·have hm := ite_f' hb104 hm
  refine C_skip (E_then (C_seq (C_region ?_)))
  refine W_loadAgg rfl rfl isAgg29 sizeOf29 rfl (own_all (List.mem_cons_self ..)) rfl ?_
  refine W_move rfl rfl rfl ?_
  obtain ⟨r105, hc106, hm⟩ := bind_some hm
  refine W_call call56 rfl rfl rfl (fun w ht => by have h := m_netmodel_find_c (hm := hc106) h0 h1 h2 h3 h4 h5 ht; exact h) ?_
  rintro _ _ _ ⟨rfl, rfl, rfl⟩
  refine W_move rfl rfl rfl ?_
  refine W_extract rfl rfl rfl rfl ?_
  refine W_extract rfl rfl rfl rfl ?_
  refine W_assign rfl rfl rfl ?_
  refine W_assign rfl rfl rfl ?_
  refine W_end (E_then (C_seq (C_seq (C_region ?_))))
  refine W_move rfl rfl rfl ?_
  refine W_bin rfl rfl rfl rfl rfl ?_
  refine W_end (E_then ?_)
  refine C_cond (b := decide (r105.2 < 0)) rfl (fun hb107 => ?_) (fun hb107 => ?_)
  ·have hm := ite_t' hb107 hm
   refine C_seq (C_region ?_)
   refine W_assign rfl rfl rfl ?_
   refine W_assign rfl rfl rfl ?_
   refine W_assign rfl rfl rfl ?_
   refine W_end (E_then (C_ret (E_ret_then ?_)))
   obtain rfl := Option.some.inj hm
   refine E_drop (List.Sublist.cons _ (List.Sublist.refl _)) ?_
   refine E_weak (Hp.le_refl _) ?_
   exact end3 rfl rfl rfl rfl ⟨rfl, rfl, rfl⟩
  ·have hm := ite_f' hb107 hm
   refine C_skip (E_then (C_seq (C_region ?_)))
   refine W_move rfl rfl rfl ?_
   refine W_move rfl rfl rfl ?_
   refine W_assign rfl rfl rfl ?_
   refine W_assign rfl rfl rfl ?_
   refine W_assign rfl rfl rfl ?_
   refine W_end (E_then (C_ret ?_))
   obtain rfl := Option.some.inj hm
   refine E_drop (List.Sublist.cons _ (List.Sublist.refl _)) ?_
   refine E_weak (Hp.le_refl _) ?_
   exact end3 rfl rfl rfl rfl ⟨rfl, rfl, rfl⟩

theorem m_netmodel_Set_c {B : Nat} {w0 w : World} {H : Hp} {M : List Res} {p0_n : S_api_Network} {name : ByteArray} {p2_open : Bool} {v0 : Value} {v1 : Value} {v2 : Value} {v3 : Value} {v4 : Value} {v5 : Value} {r : S_api_Network × Int} (hm : m_netmodel_Set p0_n name p2_open = some r) (h0 : RdS H v0 p0_n.Nodes) (h1 : RdS H v1 p0_n.Switches) (h2 : RdS H v2 p0_n.Branches) (h3 : RdS H v3 p0_n.Gens) (h4 : RdS H v4 p0_n.Loads) (h5 : RdS H v5 p0_n.Stores) (ht : St B w0 H (M) w) :
  Calls prog 19 [.agg [v0, v1, v2, v3, v4, v5].toArray, .string (name), .bool (p2_open)].toArray w (Ret B w0 fun H' M' v => H.le H' ∧ ∃ qv0 : Value, ∃ qv1 : Value, ∃ qv2 : Value, ∃ qv3 : Value, ∃ qv4 : Value, ∃ qv5 : Value, M = M' ∧ .tuple #[.agg [qv0, qv1, qv2, qv3, qv4, qv5].toArray, .int .i64 (r.2)] = v ∧ RdS H' qv0 r.1.Nodes ∧ RdS H' qv1 r.1.Switches ∧ RdS H' qv2 r.1.Branches ∧ RdS H' qv3 r.1.Gens ∧ RdS H' qv4 r.1.Loads ∧ RdS H' qv5 r.1.Stores) := by
 unfold m_netmodel_Set at hm
 refine enter func19 rfl rfl rfl ht ?_
 refine C_seq (C_region ?_)
 refine W_box (cs := [v0, v1, v2, v3, v4, v5]) rfl rfl rfl rfl (fun b101 => ?_)
 refine W_alloc (cs := [.slice none 0 0, .slice none 0 0, .slice none 0 0, .slice none 0 0, .slice none 0 0, .slice none 0 0]) rfl rfl zeroValue29 rfl (fun b102 => ?_)
 refine W_assign rfl rfl rfl ?_
 refine W_end (E_then (C_seq (C_region ?_)))
 refine W_loadAgg rfl rfl isAgg29 sizeOf29 rfl (own_all (List.mem_cons_of_mem _ (List.mem_cons_self ..))) rfl ?_
 refine W_move rfl rfl rfl ?_
 obtain ⟨r103, hc104, hm⟩ := bind_some hm
 refine W_call call36 rfl rfl rfl (fun w ht => by have h := m_netmodel_Find_c (hm := hc104) h0 h1 h2 h3 h4 h5 ht; exact h) ?_
 rintro _ _ _ ⟨rfl, rfl, rfl⟩
 refine W_move rfl rfl rfl ?_
 refine W_extract rfl rfl rfl rfl ?_
 refine W_extract rfl rfl rfl rfl ?_
 refine W_extract rfl rfl rfl rfl ?_
 refine W_assign rfl rfl rfl ?_
 refine W_assign rfl rfl rfl ?_
 refine W_assign rfl rfl rfl ?_
 refine W_end (E_then (C_seq (C_block (C_seq (C_region ?_)))))
 refine W_move rfl rfl rfl ?_
 refine W_bin rfl rfl rfl rfl rfl ?_
 refine W_assign rfl rfl rfl ?_
 refine W_end (E_then ?_)
 refine C_cond (b := !decide (r103.2.2 = 0)) rfl (fun hb105 => ?_) (fun hb105 => ?_)
 ·have hm := ite_t' hb105 hm
  refine C_seq (C_region ?_)
  refine W_build (css := []) (zs := [.slice none 0 0, .slice none 0 0, .slice none 0 0, .slice none 0 0, .slice none 0 0, .slice none 0 0]) (out := [.slice none 0 0, .slice none 0 0, .slice none 0 0, .slice none 0 0, .slice none 0 0, .slice none 0 0]) (places := [(0, 1), (1, 1), (2, 1), (3, 1), (4, 1), (5, 1)]) rfl rfl rfl trivial zeroValue29 rfl runUnderlying29 (fun w => by kernel_rfl) rfl ?_
  refine W_move rfl rfl rfl ?_
  refine W_store (cs := [.slice none 0 0, .slice none 0 0, .slice none 0 0, .slice none 0 0, .slice none 0 0, .slice none 0 0]) (out := [.slice none 0 0, .slice none 0 0, .slice none 0 0, .slice none 0 0, .slice none 0 0, .slice none 0 0]) rfl sizeOf29 rfl rfl rfl rfl rfl (all_cons rfl (all_cons rfl (all_cons rfl (all_cons rfl (all_cons rfl (all_cons rfl all_nil)))))) (over_all rfl) ?_
  refine W_assign rfl rfl rfl ?_
  refine W_end (E_then (C_ret (E_ret_block (E_ret_then ?_))))
  obtain rfl := Option.some.inj hm
  exact endC2 (Hp.le_refl _) rfl (ResV.agg rfl isAgg29 sizeOf29 (List.mem_cons_self ..) rfl) (ResV.tmp rfl) (List.Sublist.cons _ (List.Sublist.cons _ (List.Sublist.refl _))) (List.Perm.refl _) ⟨(Hp.le_refl _), (.slice none 0 0), (.slice none 0 0), (.slice none 0 0), (.slice none 0 0), (.slice none 0 0), (.slice none 0 0), rfl, rfl, RdS.nil, RdS.nil, RdS.nil, RdS.nil, RdS.nil, RdS.nil⟩
 ·have hm := ite_f' hb105 hm
  refine C_seq (C_region ?_)
  refine W_move rfl rfl rfl ?_
  refine W_bin rfl rfl rfl rfl rfl ?_
  refine W_assign rfl rfl rfl ?_
  refine W_end (E_then ?_)
  refine C_cond (b := !decide (r103.1 = (⟨#[115, 119, 105, 116, 99, 104]⟩))) rfl (fun hb106 => ?_) (fun hb106 => ?_)
  ·have hm := ite_t' hb106 hm
   refine C_seq (C_region ?_)
   refine W_build (css := []) (zs := [.slice none 0 0, .slice none 0 0, .slice none 0 0, .slice none 0 0, .slice none 0 0, .slice none 0 0]) (out := [.slice none 0 0, .slice none 0 0, .slice none 0 0, .slice none 0 0, .slice none 0 0, .slice none 0 0]) (places := [(0, 1), (1, 1), (2, 1), (3, 1), (4, 1), (5, 1)]) rfl rfl rfl trivial zeroValue29 rfl runUnderlying29 (fun w => by kernel_rfl) rfl ?_
   refine W_store (cs := [.slice none 0 0, .slice none 0 0, .slice none 0 0, .slice none 0 0, .slice none 0 0, .slice none 0 0]) (out := [.slice none 0 0, .slice none 0 0, .slice none 0 0, .slice none 0 0, .slice none 0 0, .slice none 0 0]) rfl sizeOf29 rfl rfl rfl rfl rfl (all_cons rfl (all_cons rfl (all_cons rfl (all_cons rfl (all_cons rfl (all_cons rfl all_nil)))))) (over_all rfl) ?_
   refine W_assign rfl rfl rfl ?_
   refine W_end (E_then (C_ret (E_ret_block (E_ret_then ?_))))
   obtain rfl := Option.some.inj hm
   exact endC2 (Hp.le_refl _) rfl (ResV.agg rfl isAgg29 sizeOf29 (List.mem_cons_self ..) rfl) (ResV.tmp rfl) (List.Sublist.cons _ (List.Sublist.cons _ (List.Sublist.refl _))) (List.Perm.refl _) ⟨(Hp.le_refl _), (.slice none 0 0), (.slice none 0 0), (.slice none 0 0), (.slice none 0 0), (.slice none 0 0), (.slice none 0 0), rfl, rfl, RdS.nil, RdS.nil, RdS.nil, RdS.nil, RdS.nil, RdS.nil⟩
  ·have hm := ite_f' hb106 hm
   refine C_skip (E_normal_block (E_then (C_seq (C_region ?_))))
   refine W_loadAgg rfl rfl isAgg29 sizeOf29 rfl (own_all (List.mem_cons_of_mem _ (List.mem_cons_self ..))) rfl ?_
   obtain ⟨r107, hc108, hm⟩ := bind_some hm
   refine W_call call23 rfl rfl rfl (fun w ht => by have h := m_netmodel_Copy_c (hm := hc108) h0 h1 h2 h3 h4 h5 ht; exact h) ?_
   rintro _ _ _ ⟨rfl, v109, xs110, v112, xs113, v115, xs116, v118, xs119, v121, xs122, v124, xs125, rfl, rfl, h111, h114, h117, h120, h123, h126⟩
   have h111 := h111 H
   have h114 := h114 H
   have h117 := h117 H
   have h120 := h120 H
   have h123 := h123 H
   have h126 := h126 H
   refine W_alloc (cs := [.slice none 0 0, .slice none 0 0, .slice none 0 0, .slice none 0 0, .slice none 0 0, .slice none 0 0]) rfl rfl zeroValue29 rfl (fun b127 => ?_)
   refine W_store (cs := [v109, v112, v115, v118, v121, v124]) (out := [v109, v112, v115, v118, v121, v124]) rfl sizeOf29 rfl rfl rfl rfl rfl (all_cons (Rw.one h111) (all_cons (Rw.one h114) (all_cons (Rw.one h117) (all_cons (Rw.one h120) (all_cons (Rw.one h123) (all_cons (Rw.one h126) all_nil)))))) (over_all rfl) ?_
   refine W_end (E_then (C_seq (C_region ?_)))
   refine W_field (o := 1) rfl rfl runUnderlying29 rfl sizeOf23 rfl rfl rfl ?_
   refine W_load rfl rfl isAgg23 rfl (own_at (List.mem_cons_self ..) rfl) ?_
   refine W_move rfl rfl rfl ?_
   refine W_move rfl rfl rfl ?_
   obtain ⟨y128, h129, he130, hm⟩ := idx_some hm
   refine W_indexO (List.mem_cons_of_mem _ (List.mem_cons_of_mem _ (List.mem_cons_self ..))) rfl rfl runUnderlying23 sizeOf70 rfl rfl h129 (List.getElem?_eq_some_iff.1 he130).1 ?_
   obtain ⟨_, rfl, hg131⟩ := (h114).elem he130
   refine W_field (o := 4) rfl rfl runUnderlying70 rfl sizeOf4 rfl rfl rfl ?_
   refine W_perm (List.Perm.trans (List.Perm.cons _ (List.Perm.swap _ _ _)) (List.Perm.swap _ _ _)) ?_
   obtain ⟨hr132, he133, hg134⟩ := Rw.put (cs := [.bool (p2_open)]) (o := 4) (c := [.string (y128.Name), .string (y128.A), .string (y128.B_), .bool (y128.Breaker), .bool (y128.Open)]) (out := [.string (y128.Name), .string (y128.A), .string (y128.B_), .bool (y128.Breaker), .bool (p2_open)]) (e2 := (S_api_Switch.mk y128.Name y128.A y128.B_ y128.Breaker p2_open)) h114 he130 rfl hg131 rfl rfl rfl
   refine W_storeO2 (i := (r103.2.1 : Int).toNat * Rep.sz S_api_Switch + 4) (cs := [.bool (p2_open)]) rfl sizeOf4 rfl (row_ad _ _ _) rfl rfl rfl (Rw.room h114 he130 rfl) rfl (all_cons rfl all_nil) (n' := (r107.Switches.set ((r103.2.1 : Int).toNat) (S_api_Switch.mk y128.Name y128.A y128.B_ y128.Breaker p2_open)).length) List.length_set ?_
   generalize over xs113 ((r103.2.1 : Int).toNat * Rep.sz S_api_Switch + 4) [.bool (p2_open)] = xs135 at hr132 hg134 ⊢
   refine W_end (E_then (C_seq (C_region ?_)))
   refine W_loadAgg rfl rfl isAgg29 sizeOf29 rfl (own_all (List.mem_cons_of_mem _ (List.mem_cons_self ..))) rfl ?_
   refine W_perm (List.Perm.trans (List.Perm.cons _ (List.Perm.cons _ (List.Perm.cons _ (List.Perm.cons _ (List.Perm.cons _ (List.Perm.cons _ (List.Perm.swap _ _ _))))))) (List.Perm.trans (List.Perm.cons _ (List.Perm.cons _ (List.Perm.cons _ (List.Perm.cons _ (List.Perm.cons _ (List.Perm.swap _ _ _)))))) (List.Perm.trans (List.Perm.cons _ (List.Perm.cons _ (List.Perm.cons _ (List.Perm.cons _ (List.Perm.swap _ _ _))))) (List.Perm.trans (List.Perm.cons _ (List.Perm.cons _ (List.Perm.cons _ (List.Perm.swap _ _ _)))) (List.Perm.trans (List.Perm.cons _ (List.Perm.cons _ (List.Perm.swap _ _ _))) (List.Perm.trans (List.Perm.cons _ (List.Perm.swap _ _ _)) (List.Perm.swap _ _ _))))))) ?_
   refine W_store (cs := [v109, v112, v115, v118, v121, v124]) (out := [v109, v112, v115, v118, v121, v124]) rfl sizeOf29 rfl rfl rfl rfl rfl (all_cons (Rw.one h111) (all_cons (Rw.one hr132) (all_cons (Rw.one h117) (all_cons (Rw.one h120) (all_cons (Rw.one h123) (all_cons (Rw.one h126) all_nil)))))) (over_all rfl) ?_
   refine W_assign rfl rfl rfl ?_
   refine W_end (E_then (C_ret ?_))
   refine E_perm (List.Perm.trans (List.Perm.cons _ (List.Perm.cons _ (List.Perm.swap _ _ _))) (List.Perm.trans (List.Perm.cons _ (List.Perm.swap _ _ _)) (List.Perm.swap _ _ _))) ?_
   refine E_freeze (h111).rd rfl (fun H136 hle137 h138 => ?_)
   refine E_perm (List.Perm.swap _ _ _) ?_
   refine E_freeze ((hr132.mono hle137)).rd rfl (fun H139 hle140 h141 => ?_)
   refine E_perm (List.Perm.trans (List.Perm.cons _ (List.Perm.swap _ _ _)) (List.Perm.swap _ _ _)) ?_
   refine E_freeze (((h117.mono hle137).mono hle140)).rd rfl (fun H142 hle143 h144 => ?_)
   refine E_perm (List.Perm.trans (List.Perm.cons _ (List.Perm.swap _ _ _)) (List.Perm.swap _ _ _)) ?_
   refine E_freeze ((((h120.mono hle137).mono hle140).mono hle143)).rd rfl (fun H145 hle146 h147 => ?_)
   refine E_perm (List.Perm.trans (List.Perm.cons _ (List.Perm.swap _ _ _)) (List.Perm.swap _ _ _)) ?_
   refine E_freeze (((((h123.mono hle137).mono hle140).mono hle143).mono hle146)).rd rfl (fun H148 hle149 h150 => ?_)
   refine E_perm (List.Perm.trans (List.Perm.cons _ (List.Perm.swap _ _ _)) (List.Perm.swap _ _ _)) ?_
   refine E_freeze ((((((h126.mono hle137).mono hle140).mono hle143).mono hle146).mono hle149)).rd rfl (fun H151 hle152 h153 => ?_)
   obtain rfl := Option.some.inj hm
   exact endC2 (Hp.le_refl _) rfl (ResV.agg rfl isAgg29 sizeOf29 (List.mem_cons_self ..) rfl) (ResV.tmp rfl) (List.Sublist.cons _ (List.Sublist.cons _ (List.Sublist.cons _ (List.Sublist.refl _)))) (List.Perm.refl _) ⟨(Hp.le_trans (Hp.le_trans (Hp.le_trans (Hp.le_trans (Hp.le_trans hle137 hle140) hle143) hle146) hle149) hle152), v109, v112, v115, v118, v121, v124, rfl, rfl, (((((h138.mono hle140).mono hle143).mono hle146).mono hle149).mono hle152), ((((h141.mono hle143).mono hle146).mono hle149).mono hle152), (((h144.mono hle146).mono hle149).mono hle152), ((h147.mono hle149).mono hle152), (h150.mono hle152), h153⟩

theorem m_gridhallkeep4_BlackstartPaths_1_c {B : Nat} {w0 w : World} {H : Hp} {M : List Res} {names : (List ByteArray)} {p1_c1 : S_api_Network} {p2_c2 : Int} {p3_c3 : Int} {v0 : Value} {b0 : Nat} {v1 : Value} {v2 : Value} {v3 : Value} {v4 : Value} {v5 : Value} {v6 : Value} {b1 : Nat} {b2 : Nat} {r : Bool} (hm : m_gridhallkeep4_BlackstartPaths_1 names p1_c1 p2_c2 p3_c3 = some r) (h0 : RdS H v0 names) (h1 : RdS H v1 p1_c1.Nodes) (h2 : RdS H v2 p1_c1.Switches) (h3 : RdS H v3 p1_c1.Branches) (h4 : RdS H v4 p1_c1.Gens) (h5 : RdS H v5 p1_c1.Loads) (h6 : RdS H v6 p1_c1.Stores) (ht : St B w0 H (.obj b0 (.cells [v1, v2, v3, v4, v5, v6].toArray 29 (0, 0)) :: .obj b1 (.cells ([.int .i64 (p2_c2)] : List Value).toArray 3 (0, 0)) :: .obj b2 (.cells ([.int .i64 (p3_c3)] : List Value).toArray 3 (0, 0)) :: M) w) :
  Calls prog 18 [v0, .pointer (some ⟨b0, 0, none⟩), .pointer (some ⟨b1, 0, none⟩), .pointer (some ⟨b2, 0, none⟩)].toArray w (Ret B w0 fun H' M' v => H = H' ∧ .obj b0 (.cells [v1, v2, v3, v4, v5, v6].toArray 29 (0, 0)) :: .obj b1 (.cells ([.int .i64 (p2_c2)] : List Value).toArray 3 (0, 0)) :: .obj b2 (.cells ([.int .i64 (p3_c3)] : List Value).toArray 3 (0, 0)) :: M = M' ∧ .bool (r) = v) := by
 unfold m_gridhallkeep4_BlackstartPaths_1 at hm
 refine enter func18 rfl rfl rfl ht ?_
 refine C_seq (C_region ?_)
 refine W_assign rfl rfl rfl ?_
 refine W_end (E_then (C_seq (C_region ?_)))
 refine W_loadAgg rfl rfl isAgg29 sizeOf29 rfl (own_all (List.mem_cons_self ..)) rfl ?_
 refine W_alloc (cs := [.slice none 0 0, .slice none 0 0, .slice none 0 0, .slice none 0 0, .slice none 0 0, .slice none 0 0]) rfl rfl zeroValue29 rfl (fun b101 => ?_)
 refine W_store (cs := [v1, v2, v3, v4, v5, v6]) (out := [v1, v2, v3, v4, v5, v6]) rfl sizeOf29 rfl rfl rfl rfl rfl (all_cons (RdS.one1 h1) (all_cons (RdS.one1 h2) (all_cons (RdS.one1 h3) (all_cons (RdS.one1 h4) (all_cons (RdS.one1 h5) (all_cons (RdS.one1 h6) all_nil)))))) (over_all rfl) ?_
 refine W_end (E_then (C_seq (C_seq (C_region ?_))))
 refine W_move rfl rfl rfl ?_
 refine W_lenR rfl rfl runUnderlying22 rfl h0 ?_
 refine W_move rfl rfl rfl ?_
 refine W_end (E_then (C_block ?_))
 refine C_keep (L' := [(1, .pointer (some ⟨b0, 0, none⟩)), (2, .pointer (some ⟨b1, 0, none⟩)), (3, .pointer (some ⟨b2, 0, none⟩)), (6, .pointer (some ⟨b101, 0, none⟩)), (12, v0), (13, .int .i64 ((names.length : Int))), (14, .int .i64 (((0 : Nat) : Int)))]) ⟨rfl, rfl, rfl, rfl, rfl, rfl, rfl, trivial⟩ (List.Perm.refl _) ?_
 refine C_loop (fun n H' M' L' => ∃ (k102 : Nat) (zs202' : List ByteArray), ∃ l178 : (List ByteArray), ∃ l181 : (List S_api_Switch), ∃ l184 : (List S_api_Branch), ∃ l187 : (List S_api_Gen), ∃ l190 : (List S_api_Load), ∃ l193 : (List S_api_Store), ∃ v177 : Value, ∃ v180 : Value, ∃ v183 : Value, ∃ v186 : Value, ∃ v189 : Value, ∃ v192 : Value, (names).drop k102 = zs202' ∧ zs202'.length = n ∧ forI (fun k y s197 n => m_gridhallkeep4_BlackstartPaths_1_b1 k y s197.1 s197.2.1 s197.2.2.1 s197.2.2.2.1 s197.2.2.2.2.1 s197.2.2.2.2.2 n) (fun s197 => (m_islands_Places (S_api_Network.mk s197.1 s197.2.1 s197.2.2.1 s197.2.2.2.1 s197.2.2.2.2.1 s197.2.2.2.2.2)).bind fun r224 => if decide (r224.2 = 0) then (if decide ((r224.1.length : Int) = (p1_c1.Nodes.length : Int)) then (idx r224.1 p2_c2 fun y235 => idx r224.1 p3_c3 fun y239 => some (decide (y235 = y239))) else (some false)) else (some false)) k102 zs202' (l178, l181, l184, l187, l190, l193) = some r ∧ RdS H' v177 l178 ∧ RdS H' v180 l181 ∧ RdS H' v183 l184 ∧ RdS H' v186 l187 ∧ RdS H' v189 l190 ∧ RdS H' v192 l193 ∧ H.le H' ∧ .obj b101 (.cells [v177, v180, v183, v186, v189, v192].toArray 29 (0, 0)) :: .obj b0 (.cells [v1, v2, v3, v4, v5, v6].toArray 29 (0, 0)) :: .obj b1 (.cells ([.int .i64 (p2_c2)] : List Value).toArray 3 (0, 0)) :: .obj b2 (.cells ([.int .i64 (p3_c3)] : List Value).toArray 3 (0, 0)) :: M = M' ∧ [(1, .pointer (some ⟨b0, 0, none⟩)), (2, .pointer (some ⟨b1, 0, none⟩)), (3, .pointer (some ⟨b2, 0, none⟩)), (6, .pointer (some ⟨b101, 0, none⟩)), (12, v0), (13, .int .i64 ((names.length : Int))), (14, .int .i64 ((k102 : Int)))] = L') _ ⟨0, _, p1_c1.Nodes, p1_c1.Switches, p1_c1.Branches, p1_c1.Gens, p1_c1.Loads, p1_c1.Stores, v1, v2, v3, v4, v5, v6, rfl, rfl, hm, h1, h2, h3, h4, h5, h6, (Hp.le_refl _), rfl, rfl⟩ ?_
 rintro _ H195 _ _ ⟨k102, zs202', l178, l181, l184, l187, l190, l193, v177, v180, v183, v186, v189, v192, hd204, rfl, hm, h179, h182, h185, h188, h191, h194, hle196, rfl, rfl⟩
 refine C_seq (C_region ?_)
 refine W_bin rfl rfl rfl rfl rfl ?_
 refine W_end (E_then (C_seq ?_))
 refine C_cond (b := decide ((k102 : Int) < (names.length : Int))) rfl (fun hb206 => ?_) (fun hb206 => ?_)
 ·obtain ⟨y201, zs202, rfl, hy203, hd205⟩ := rng_t hd204 hb206
  have hm : m_gridhallkeep4_BlackstartPaths_1_b1 k102 y201 l178 l181 l184 l187 l190 l193 (forI (fun k y s197 n => m_gridhallkeep4_BlackstartPaths_1_b1 k y s197.1 s197.2.1 s197.2.2.1 s197.2.2.2.1 s197.2.2.2.2.1 s197.2.2.2.2.2 n) (fun s197 => (m_islands_Places (S_api_Network.mk s197.1 s197.2.1 s197.2.2.1 s197.2.2.2.1 s197.2.2.2.2.1 s197.2.2.2.2.2)).bind fun r224 => if decide (r224.2 = 0) then (if decide ((r224.1.length : Int) = (p1_c1.Nodes.length : Int)) then (idx r224.1 p2_c2 fun y235 => idx r224.1 p3_c3 fun y239 => some (decide (y235 = y239))) else (some false)) else (some false)) (k102 + 1) zs202) = some r := hm
  generalize hn199 : forI (fun k y s197 n => m_gridhallkeep4_BlackstartPaths_1_b1 k y s197.1 s197.2.1 s197.2.2.1 s197.2.2.2.1 s197.2.2.2.2.1 s197.2.2.2.2.2 n) (fun s197 => (m_islands_Places (S_api_Network.mk s197.1 s197.2.1 s197.2.2.1 s197.2.2.2.1 s197.2.2.2.2.1 s197.2.2.2.2.2)).bind fun r224 => if decide (r224.2 = 0) then (if decide ((r224.1.length : Int) = (p1_c1.Nodes.length : Int)) then (idx r224.1 p2_c2 fun y235 => idx r224.1 p3_c3 fun y239 => some (decide (y235 = y239))) else (some false)) else (some false)) (k102 + 1) zs202 = nx198 at hm
  unfold m_gridhallkeep4_BlackstartPaths_1_b1 at hm
  refine C_skip (E_then (C_seq (C_block (C_seq (C_region ?_)))))
  obtain ⟨_, rfl, hc207⟩ := (h0).elem hy203
  refine W_indexS rfl rfl runUnderlying22 sizeOf9 rfl (h0.mono hle196) rfl (Int.natCast_nonneg _) hy203 ?_
  refine W_load rfl rfl isAgg9 rfl (HCells.one (hc207.mono hle196) 0 rfl).at ?_
  refine W_assign rfl rfl rfl ?_
  refine W_end (E_then (C_region ?_))
  refine W_loadAgg rfl rfl isAgg29 sizeOf29 rfl (own_all (List.mem_cons_self ..)) rfl ?_
  refine W_move rfl rfl rfl ?_
  obtain ⟨r208, hc209, hm⟩ := bind_some hm
  refine W_call call19 rfl rfl rfl (fun w ht => by have h := m_netmodel_Set_c (hm := hc209) h179 h182 h185 h188 h191 h194 ht; exact h) ?_
  rintro _ H222 _ ⟨hle223, v210, v212, v214, v216, v218, v220, rfl, rfl, h211, h213, h215, h217, h219, h221⟩
  refine W_move rfl rfl rfl ?_
  refine W_extract rfl rfl rfl rfl ?_
  refine W_extract rfl rfl rfl rfl ?_
  refine W_store (cs := [v210, v212, v214, v216, v218, v220]) (out := [v210, v212, v214, v216, v218, v220]) rfl sizeOf29 rfl rfl rfl rfl rfl (all_cons (RdS.one1 h211) (all_cons (RdS.one1 h213) (all_cons (RdS.one1 h215) (all_cons (RdS.one1 h217) (all_cons (RdS.one1 h219) (all_cons (RdS.one1 h221) all_nil)))))) (over_all rfl) ?_
  refine W_end (E_normal_block (E_then (C_region ?_)))
  refine W_bin rfl rfl rfl rfl rfl ?_
  refine W_move rfl rfl rfl ?_
  refine W_end ?_
  exact E_keepJ (E_back (Nat.lt_succ_self _) ⟨k102 + 1, zs202, r208.1.Nodes, r208.1.Switches, r208.1.Branches, r208.1.Gens, r208.1.Loads, r208.1.Stores, v210, v212, v214, v216, v218, v220, hd205, rfl, (by rw [hn199]; exact hm), h211, h213, h215, h217, h219, h221, (Hp.le_trans hle196 hle223), rfl, rfl⟩) (List.Perm.refl _) ⟨rfl, rfl, rfl, rfl, rfl, rfl, (congrArg (fun z => some (Value.int .i64 z)) (i64_succ hy203 ((h0.mono hle196)).lenMax)), trivial⟩
 ·obtain rfl := rng_f hd204 hb206
  have hm : ((m_islands_Places (S_api_Network.mk l178 l181 l184 l187 l190 l193)).bind fun r224 => if decide (r224.2 = 0) then (if decide ((r224.1.length : Int) = (p1_c1.Nodes.length : Int)) then (idx r224.1 p2_c2 fun y235 => idx r224.1 p3_c3 fun y239 => some (decide (y235 = y239))) else (some false)) else (some false)) = some r := hm
  refine C_exit (E_exit_then (E_exit_then (E_exit_hit (E_then (C_seq (C_region ?_))))))
  refine W_loadAgg rfl rfl isAgg29 sizeOf29 rfl (own_all (List.mem_cons_self ..)) rfl ?_
  obtain ⟨r224, hc225, hm⟩ := bind_some hm
  refine W_call call11 rfl rfl rfl (fun w ht => by have h := m_islands_Places_c (hm := hc225) h179 h182 h185 h188 h191 h194 ht; exact h) ?_
  rintro _ _ _ ⟨rfl, v226, xs227, rfl, rfl, h228⟩
  have h228 := h228 H195
  refine W_move rfl rfl rfl ?_
  refine W_extract rfl rfl rfl rfl ?_
  refine W_extract rfl rfl rfl rfl ?_
  refine W_assign rfl rfl rfl ?_
  refine W_assign rfl rfl rfl ?_
  refine W_end (E_then (C_seq ?_))
  cases hb229 : (decide (r224.2 = 0))
  ·have hm := ite_f' hb229 hm
   refine C_region_tok0 19 (phiT [(fun H rs v => [] = rs ∧ .int .i64 (r224.2) = v), (fun H rs v => [] = rs ∧ .bool (false) = v), (fun H rs v => [] = rs ∧ .bool (false) = v), (fun H rs v => [] = rs ∧ undef = v), (fun H rs v => [] = rs ∧ undef = v), (fun H rs v => [] = rs ∧ undef = v), (fun H rs v => [] = rs ∧ undef = v), (fun H rs v => [] = rs ∧ undef = v), (fun H rs v => [] = rs ∧ undef = v), (fun H rs v => [] = rs ∧ .bool (false) = v), (fun H rs v => [] = rs ∧ .bool (false) = v), (fun H rs v => [] = rs ∧ undef = v), (fun H rs v => [] = rs ∧ undef = v), (fun H rs v => [] = rs ∧ undef = v), (fun H rs v => [] = rs ∧ undef = v), (fun H rs v => [] = rs ∧ undef = v), (fun H rs v => [] = rs ∧ undef = v), (fun H rs v => [] = rs ∧ undef = v), (fun H rs v => [] = rs ∧ undef = v)]) [[], [], [], [], [], [], [], [], [], [], [], [], [], [], [], [], [], [], []] [[], [], [], [], [], [], [], [], [], [], [], [], [], [], [], [], [], [], []] [] [0, 1, 2, 3, 4, 5, 6, 7, 8, 9, 10, 11, 12, 13, 14, 15, 16, 17, 18] Facts.mixed (by kernel_rfl) (by rfl) (by rfl) (by rfl) (by kernel_rfl) (phiT_mono ⟨eq_monoT _ _, eq_monoT _ _, eq_monoT _ _, eq_monoT _ _, eq_monoT _ _, eq_monoT _ _, eq_monoT _ _, eq_monoT _ _, eq_monoT _ _, eq_monoT _ _, eq_monoT _ _, eq_monoT _ _, eq_monoT _ _, eq_monoT _ _, eq_monoT _ _, eq_monoT _ _, eq_monoT _ _, eq_monoT _ _, eq_monoT _ _, trivial⟩) ⟨?_, ?_, ?_, ?_, ?_, ?_, ?_, ?_, ?_, ?_, ?_, ?_, ?_, ?_, ?_, ?_, ?_, ?_, ?_, trivial⟩ ?_
   ·intro HX hX X Rest hR
    intro hU hUp
    refine W_move rfl rfl rfl ?_
    exact W_end (OneT_end [] (Hp.le_refl _) ⟨rfl, rfl⟩)
   ·intro HX hX X Rest hR
    rintro _ _ ⟨rfl, rfl⟩
    intro hU hUp
    refine W_bin rfl rfl rfl rfl rfl ?_
    exact W_end (OneT_end [] (Hp.le_refl _) ⟨rfl, (by first | rfl | (rw [hb229]; try rfl))⟩)
   ·intro HX hX X Rest hR
    rintro _ _ ⟨rfl, rfl⟩
    intro hU hUp
    refine W_move rfl rfl rfl ?_
    exact W_end (OneT_end [] (Hp.le_refl _) ⟨rfl, rfl⟩)
   ·intro HX hX X Rest hR
    rintro _ _ ⟨rfl, rfl⟩
    intro hU hUp
    refine W_no rfl rfl rfl ?_
    exact W_end (OneT_end [] (Hp.le_refl _) ⟨rfl, rfl⟩)
   ·intro HX hX X Rest hR
    rintro _ _ ⟨rfl, rfl⟩
    rintro _ _ ⟨rfl, rfl⟩
    intro hU hUp
    refine W_no rfl rfl rfl ?_
    exact W_end (OneT_end [] (Hp.le_refl _) ⟨rfl, rfl⟩)
   ·intro HX hX X Rest hR
    rintro _ _ ⟨rfl, rfl⟩
    intro hU hUp
    refine W_no rfl rfl rfl ?_
    exact W_end (OneT_end [] (Hp.le_refl _) ⟨rfl, rfl⟩)
   ·intro HX hX X Rest hR
    rintro _ _ ⟨rfl, rfl⟩
    rintro _ _ ⟨rfl, rfl⟩
    intro hU hUp
    refine W_no rfl rfl rfl ?_
    exact W_end (OneT_end [] (Hp.le_refl _) ⟨rfl, rfl⟩)
   ·intro HX hX X Rest hR
    rintro _ _ ⟨rfl, rfl⟩
    rintro _ _ ⟨rfl, rfl⟩
    intro hU hUp
    refine W_no rfl rfl rfl ?_
    exact W_end (OneT_end [] (Hp.le_refl _) ⟨rfl, rfl⟩)
   ·intro HX hX X Rest hR
    rintro _ _ ⟨rfl, rfl⟩
    rintro _ _ ⟨rfl, rfl⟩
    rintro _ _ ⟨rfl, rfl⟩
    intro hU hUp
    refine W_no rfl rfl rfl ?_
    exact W_end (OneT_end [] (Hp.le_refl _) ⟨rfl, rfl⟩)
   ·intro HX hX X Rest hR
    rintro _ _ ⟨rfl, rfl⟩
    rintro _ _ ⟨rfl, rfl⟩
    intro hU hUp
    refine W_pick rfl rfl rfl rfl ?_
    exact W_end (OneT_end [] (Hp.le_refl _) ⟨rfl, rfl⟩)
   ·intro HX hX X Rest hR
    rintro _ _ ⟨rfl, rfl⟩
    rintro _ _ ⟨rfl, rfl⟩
    intro hU hUp
    refine W_move rfl rfl rfl ?_
    exact W_end (OneT_end [] (Hp.le_refl _) ⟨rfl, rfl⟩)
   ·intro HX hX X Rest hR
    rintro _ _ ⟨rfl, rfl⟩
    intro hU hUp
    refine W_no rfl rfl rfl ?_
    exact W_end (OneT_end [] (Hp.le_refl _) ⟨rfl, rfl⟩)
   ·intro HX hX X Rest hR
    rintro _ _ ⟨rfl, rfl⟩
    intro hU hUp
    refine W_no rfl rfl rfl ?_
    exact W_end (OneT_end [] (Hp.le_refl _) ⟨rfl, rfl⟩)
   ·intro HX hX X Rest hR
    rintro _ _ ⟨rfl, rfl⟩
    rintro _ _ ⟨rfl, rfl⟩
    rintro _ _ ⟨rfl, rfl⟩
    intro hU hUp
    refine W_no rfl rfl rfl ?_
    exact W_end (OneT_end [] (Hp.le_refl _) ⟨rfl, rfl⟩)
   ·intro HX hX X Rest hR
    rintro _ _ ⟨rfl, rfl⟩
    rintro _ _ ⟨rfl, rfl⟩
    intro hU hUp
    refine W_no rfl rfl rfl ?_
    exact W_end (OneT_end [] (Hp.le_refl _) ⟨rfl, rfl⟩)
   ·intro HX hX X Rest hR
    rintro _ _ ⟨rfl, rfl⟩
    intro hU hUp
    refine W_no rfl rfl rfl ?_
    exact W_end (OneT_end [] (Hp.le_refl _) ⟨rfl, rfl⟩)
   ·intro HX hX X Rest hR
    rintro _ _ ⟨rfl, rfl⟩
    intro hU hUp
    refine W_no rfl rfl rfl ?_
    exact W_end (OneT_end [] (Hp.le_refl _) ⟨rfl, rfl⟩)
   ·intro HX hX X Rest hR
    rintro _ _ ⟨rfl, rfl⟩
    rintro _ _ ⟨rfl, rfl⟩
    rintro _ _ ⟨rfl, rfl⟩
    intro hU hUp
    refine W_no rfl rfl rfl ?_
    exact W_end (OneT_end [] (Hp.le_refl _) ⟨rfl, rfl⟩)
   ·intro HX hX X Rest hR
    rintro _ _ ⟨rfl, rfl⟩
    rintro _ _ ⟨rfl, rfl⟩
    intro hU hUp
    refine W_no rfl rfl rfl ?_
    exact W_end (OneT_end [] (Hp.le_refl _) ⟨rfl, rfl⟩)
   intro H230 hle231
   rintro _ _ ⟨rfl, rfl⟩
   rintro _ _ ⟨rfl, rfl⟩
   rintro _ _ ⟨rfl, rfl⟩
   rintro _ _ ⟨rfl, rfl⟩
   rintro _ _ ⟨rfl, rfl⟩
   rintro _ _ ⟨rfl, rfl⟩
   rintro _ _ ⟨rfl, rfl⟩
   rintro _ _ ⟨rfl, rfl⟩
   rintro _ _ ⟨rfl, rfl⟩
   rintro _ _ ⟨rfl, rfl⟩
   rintro _ _ ⟨rfl, rfl⟩
   rintro _ _ ⟨rfl, rfl⟩
   rintro _ _ ⟨rfl, rfl⟩
   rintro _ _ ⟨rfl, rfl⟩
   rintro _ _ ⟨rfl, rfl⟩
   rintro _ _ ⟨rfl, rfl⟩
   rintro _ _ ⟨rfl, rfl⟩
   rintro _ _ ⟨rfl, rfl⟩
   rintro _ _ ⟨rfl, rfl⟩
   refine W_no rfl rfl rfl ?_
   refine W_pick rfl rfl rfl rfl ?_
   refine W_assign rfl rfl rfl ?_
   refine W_end (E_then (C_ret ?_))
   obtain rfl := Option.some.inj hm
   refine E_drop (List.Sublist.cons _ (List.Sublist.cons _ (List.Sublist.refl _))) ?_
   refine E_weak (Hp.le_trans hle196 hle231) ?_
   exact end1 rfl rfl ⟨rfl, rfl, rfl⟩
  ·have hm := ite_t' hb229 hm
   cases hb232 : (decide ((r224.1.length : Int) = (p1_c1.Nodes.length : Int)))
   ·have hm := ite_f' hb232 hm
    refine C_region_tok0 19 (phiT [(fun H rs v => [] = rs ∧ .int .i64 (r224.2) = v), (fun H rs v => [] = rs ∧ .bool (true) = v), (fun H rs v => [] = rs ∧ .bool (true) = v), (fun H rs v => [] = rs ∧ v226 = v), (fun H rs v => [] = rs ∧ .int .i64 ((r224.1.length : Int)) = v), (fun H rs v => [] = rs ∧ .pointer (some ⟨b0, 0, none⟩) = v), (fun H rs v => [] = rs ∧ v1 = v), (fun H rs v => [] = rs ∧ .int .i64 ((p1_c1.Nodes.length : Int)) = v), (fun H rs v => [] = rs ∧ .bool (false) = v), (fun H rs v => [] = rs ∧ .bool (false) = v), (fun H rs v => [] = rs ∧ .bool (false) = v), (fun H rs v => [] = rs ∧ undef = v), (fun H rs v => [] = rs ∧ undef = v), (fun H rs v => [] = rs ∧ undef = v), (fun H rs v => [] = rs ∧ undef = v), (fun H rs v => [] = rs ∧ undef = v), (fun H rs v => [] = rs ∧ undef = v), (fun H rs v => [] = rs ∧ undef = v), (fun H rs v => [] = rs ∧ undef = v)]) [[], [], [], [], [], [], [], [], [], [], [], [], [], [], [], [], [], [], []] [[], [], [], [], [], [], [], [], [], [], [], [], [], [], [], [], [], [], []] [] [0, 1, 2, 3, 4, 5, 6, 7, 8, 9, 10, 11, 12, 13, 14, 15, 16, 17, 18] Facts.mixed (by kernel_rfl) (by rfl) (by rfl) (by rfl) (by kernel_rfl) (phiT_mono ⟨eq_monoT _ _, eq_monoT _ _, eq_monoT _ _, eq_monoT _ _, eq_monoT _ _, eq_monoT _ _, eq_monoT _ _, eq_monoT _ _, eq_monoT _ _, eq_monoT _ _, eq_monoT _ _, eq_monoT _ _, eq_monoT _ _, eq_monoT _ _, eq_monoT _ _, eq_monoT _ _, eq_monoT _ _, eq_monoT _ _, eq_monoT _ _, trivial⟩) ⟨?_, ?_, ?_, ?_, ?_, ?_, ?_, ?_, ?_, ?_, ?_, ?_, ?_, ?_, ?_, ?_, ?_, ?_, ?_, trivial⟩ ?_
    ·intro HX hX X Rest hR
     intro hU hUp
     refine W_move rfl rfl rfl ?_
     exact W_end (OneT_end [] (Hp.le_refl _) ⟨rfl, rfl⟩)
    ·intro HX hX X Rest hR
     rintro _ _ ⟨rfl, rfl⟩
     intro hU hUp
     refine W_bin rfl rfl rfl rfl rfl ?_
     exact W_end (OneT_end [] (Hp.le_refl _) ⟨rfl, (by first | rfl | (rw [hb229]; try rfl))⟩)
    ·intro HX hX X Rest hR
     rintro _ _ ⟨rfl, rfl⟩
     intro hU hUp
     refine W_move rfl rfl rfl ?_
     exact W_end (OneT_end [] (Hp.le_refl _) ⟨rfl, rfl⟩)
    ·intro HX hX X Rest hR
     rintro _ _ ⟨rfl, rfl⟩
     intro hU hUp
     refine W_move rfl rfl rfl ?_
     exact W_end (OneT_end [] (Hp.le_refl _) ⟨rfl, rfl⟩)
    ·intro HX hX X Rest hR
     rintro _ _ ⟨rfl, rfl⟩
     rintro _ _ ⟨rfl, rfl⟩
     intro hU hUp
     refine W_lenO (hR _ (List.mem_cons_self ..)) rfl rfl runUnderlying42 rfl ?_
     exact W_end (OneT_end [] (Hp.le_refl _) ⟨rfl, rfl⟩)
    ·intro HX hX X Rest hR
     rintro _ _ ⟨rfl, rfl⟩
     intro hU hUp
     refine W_field (o := 0) rfl rfl runUnderlying29 rfl sizeOf22 rfl rfl rfl ?_
     exact W_end (OneT_end [] (Hp.le_refl _) ⟨rfl, rfl⟩)
    ·intro HX hX X Rest hR
     rintro _ _ ⟨rfl, rfl⟩
     rintro _ _ ⟨rfl, rfl⟩
     intro hU hUp
     refine W_load rfl rfl isAgg22 rfl (own_at (hR _ (List.mem_cons_of_mem _ (List.mem_cons_of_mem _ (List.mem_cons_self ..)))) rfl) ?_
     exact W_end (OneT_end [] (Hp.le_refl _) ⟨rfl, rfl⟩)
    ·intro HX hX X Rest hR
     rintro _ _ ⟨rfl, rfl⟩
     rintro _ _ ⟨rfl, rfl⟩
     intro hU hUp
     refine W_lenR rfl rfl runUnderlying22 rfl ((h1.mono hle196).mono hX) ?_
     exact W_end (OneT_end [] (Hp.le_refl _) ⟨rfl, rfl⟩)
    ·intro HX hX X Rest hR
     rintro _ _ ⟨rfl, rfl⟩
     rintro _ _ ⟨rfl, rfl⟩
     rintro _ _ ⟨rfl, rfl⟩
     intro hU hUp
     refine W_bin rfl rfl rfl rfl rfl ?_
     exact W_end (OneT_end [] (Hp.le_refl _) ⟨rfl, (by first | rfl | (rw [hb232]; try rfl))⟩)
    ·intro HX hX X Rest hR
     rintro _ _ ⟨rfl, rfl⟩
     rintro _ _ ⟨rfl, rfl⟩
     intro hU hUp
     refine W_pick rfl rfl rfl rfl ?_
     exact W_end (OneT_end [] (Hp.le_refl _) ⟨rfl, rfl⟩)
    ·intro HX hX X Rest hR
     rintro _ _ ⟨rfl, rfl⟩
     rintro _ _ ⟨rfl, rfl⟩
     intro hU hUp
     refine W_move rfl rfl rfl ?_
     exact W_end (OneT_end [] (Hp.le_refl _) ⟨rfl, rfl⟩)
    ·intro HX hX X Rest hR
     rintro _ _ ⟨rfl, rfl⟩
     intro hU hUp
     refine W_no rfl rfl rfl ?_
     exact W_end (OneT_end [] (Hp.le_refl _) ⟨rfl, rfl⟩)
    ·intro HX hX X Rest hR
     rintro _ _ ⟨rfl, rfl⟩
     intro hU hUp
     refine W_no rfl rfl rfl ?_
     exact W_end (OneT_end [] (Hp.le_refl _) ⟨rfl, rfl⟩)
    ·intro HX hX X Rest hR
     rintro _ _ ⟨rfl, rfl⟩
     rintro _ _ ⟨rfl, rfl⟩
     rintro _ _ ⟨rfl, rfl⟩
     intro hU hUp
     refine W_no rfl rfl rfl ?_
     exact W_end (OneT_end [] (Hp.le_refl _) ⟨rfl, rfl⟩)
    ·intro HX hX X Rest hR
     rintro _ _ ⟨rfl, rfl⟩
     rintro _ _ ⟨rfl, rfl⟩
     intro hU hUp
     refine W_no rfl rfl rfl ?_
     exact W_end (OneT_end [] (Hp.le_refl _) ⟨rfl, rfl⟩)
    ·intro HX hX X Rest hR
     rintro _ _ ⟨rfl, rfl⟩
     intro hU hUp
     refine W_no rfl rfl rfl ?_
     exact W_end (OneT_end [] (Hp.le_refl _) ⟨rfl, rfl⟩)
    ·intro HX hX X Rest hR
     rintro _ _ ⟨rfl, rfl⟩
     intro hU hUp
     refine W_no rfl rfl rfl ?_
     exact W_end (OneT_end [] (Hp.le_refl _) ⟨rfl, rfl⟩)
    ·intro HX hX X Rest hR
     rintro _ _ ⟨rfl, rfl⟩
     rintro _ _ ⟨rfl, rfl⟩
     rintro _ _ ⟨rfl, rfl⟩
     intro hU hUp
     refine W_no rfl rfl rfl ?_
     exact W_end (OneT_end [] (Hp.le_refl _) ⟨rfl, rfl⟩)
    ·intro HX hX X Rest hR
     rintro _ _ ⟨rfl, rfl⟩
     rintro _ _ ⟨rfl, rfl⟩
     intro hU hUp
     refine W_no rfl rfl rfl ?_
     exact W_end (OneT_end [] (Hp.le_refl _) ⟨rfl, rfl⟩)
    intro H233 hle234
    rintro _ _ ⟨rfl, rfl⟩
    rintro _ _ ⟨rfl, rfl⟩
    rintro _ _ ⟨rfl, rfl⟩
    rintro _ _ ⟨rfl, rfl⟩
    rintro _ _ ⟨rfl, rfl⟩
    rintro _ _ ⟨rfl, rfl⟩
    rintro _ _ ⟨rfl, rfl⟩
    rintro _ _ ⟨rfl, rfl⟩
    rintro _ _ ⟨rfl, rfl⟩
    rintro _ _ ⟨rfl, rfl⟩
    rintro _ _ ⟨rfl, rfl⟩
    rintro _ _ ⟨rfl, rfl⟩
    rintro _ _ ⟨rfl, rfl⟩
    rintro _ _ ⟨rfl, rfl⟩
    rintro _ _ ⟨rfl, rfl⟩
    rintro _ _ ⟨rfl, rfl⟩
    rintro _ _ ⟨rfl, rfl⟩
    rintro _ _ ⟨rfl, rfl⟩
    rintro _ _ ⟨rfl, rfl⟩
    refine W_no rfl rfl rfl ?_
    refine W_pick rfl rfl rfl rfl ?_
    refine W_assign rfl rfl rfl ?_
    refine W_end (E_then (C_ret ?_))
    obtain rfl := Option.some.inj hm
    refine E_drop (List.Sublist.cons _ (List.Sublist.cons _ (List.Sublist.refl _))) ?_
    refine E_weak (Hp.le_trans hle196 hle234) ?_
    exact end1 rfl rfl ⟨rfl, rfl, rfl⟩
   ·have hm := ite_t' hb232 hm
    obtain ⟨y235, h236, he237, hm⟩ := idx_some hm
    obtain ⟨_, rfl, hg238⟩ := (h228).elem he237
    obtain ⟨y239, h240, he241, hm⟩ := idx_some hm
    obtain ⟨_, rfl, hg242⟩ := (h228).elem he241
    refine C_region_tok0 19 (phiT [(fun H rs v => [] = rs ∧ .int .i64 (r224.2) = v), (fun H rs v => [] = rs ∧ .bool (true) = v), (fun H rs v => [] = rs ∧ .bool (true) = v), (fun H rs v => [] = rs ∧ v226 = v), (fun H rs v => [] = rs ∧ .int .i64 ((r224.1.length : Int)) = v), (fun H rs v => [] = rs ∧ .pointer (some ⟨b0, 0, none⟩) = v), (fun H rs v => [] = rs ∧ v1 = v), (fun H rs v => [] = rs ∧ .int .i64 ((p1_c1.Nodes.length : Int)) = v), (fun H rs v => [] = rs ∧ .bool (true) = v), (fun H rs v => [] = rs ∧ .bool (true) = v), (fun H rs v => [] = rs ∧ .bool (true) = v), (fun H rs v => [] = rs ∧ v226 = v), (fun H rs v => [] = rs ∧ .int .i64 (p2_c2) = v), (fun H rs v => [] = rs ∧ .pointer (some ((Value.base (v226)).add ((p2_c2 : Int).toNat * Rep.sz Int))) = v), (fun H rs v => [] = rs ∧ .int .i64 (y235) = v), (fun H rs v => [] = rs ∧ v226 = v), (fun H rs v => [] = rs ∧ .int .i64 (p3_c3) = v), (fun H rs v => [] = rs ∧ .pointer (some ((Value.base (v226)).add ((p3_c3 : Int).toNat * Rep.sz Int))) = v), (fun H rs v => [] = rs ∧ .int .i64 (y239) = v)]) [[], [], [], [], [], [], [], [], [], [], [], [], [], [], [], [], [], [], []] [[], [], [], [], [], [], [], [], [], [], [], [], [], [], [], [], [], [], []] [] [0, 1, 2, 3, 4, 5, 6, 7, 8, 9, 10, 11, 12, 13, 14, 15, 16, 17, 18] Facts.mixed (by kernel_rfl) (by rfl) (by rfl) (by rfl) (by kernel_rfl) (phiT_mono ⟨eq_monoT _ _, eq_monoT _ _, eq_monoT _ _, eq_monoT _ _, eq_monoT _ _, eq_monoT _ _, eq_monoT _ _, eq_monoT _ _, eq_monoT _ _, eq_monoT _ _, eq_monoT _ _, eq_monoT _ _, eq_monoT _ _, eq_monoT _ _, eq_monoT _ _, eq_monoT _ _, eq_monoT _ _, eq_monoT _ _, eq_monoT _ _, trivial⟩) ⟨?_, ?_, ?_, ?_, ?_, ?_, ?_, ?_, ?_, ?_, ?_, ?_, ?_, ?_, ?_, ?_, ?_, ?_, ?_, trivial⟩ ?_
    ·intro HX hX X Rest hR
     intro hU hUp
     refine W_move rfl rfl rfl ?_
     exact W_end (OneT_end [] (Hp.le_refl _) ⟨rfl, rfl⟩)
    ·intro HX hX X Rest hR
     rintro _ _ ⟨rfl, rfl⟩
     intro hU hUp
     refine W_bin rfl rfl rfl rfl rfl ?_
     exact W_end (OneT_end [] (Hp.le_refl _) ⟨rfl, (by first | rfl | (rw [hb229]; try rfl))⟩)
    ·intro HX hX X Rest hR
     rintro _ _ ⟨rfl, rfl⟩
     intro hU hUp
     refine W_move rfl rfl rfl ?_
     exact W_end (OneT_end [] (Hp.le_refl _) ⟨rfl, rfl⟩)
    ·intro HX hX X Rest hR
     rintro _ _ ⟨rfl, rfl⟩
     intro hU hUp
     refine W_move rfl rfl rfl ?_
     exact W_end (OneT_end [] (Hp.le_refl _) ⟨rfl, rfl⟩)
    ·intro HX hX X Rest hR
     rintro _ _ ⟨rfl, rfl⟩
     rintro _ _ ⟨rfl, rfl⟩
     intro hU hUp
     refine W_lenO (hR _ (List.mem_cons_self ..)) rfl rfl runUnderlying42 rfl ?_
     exact W_end (OneT_end [] (Hp.le_refl _) ⟨rfl, rfl⟩)
    ·intro HX hX X Rest hR
     rintro _ _ ⟨rfl, rfl⟩
     intro hU hUp
     refine W_field (o := 0) rfl rfl runUnderlying29 rfl sizeOf22 rfl rfl rfl ?_
     exact W_end (OneT_end [] (Hp.le_refl _) ⟨rfl, rfl⟩)
    ·intro HX hX X Rest hR
     rintro _ _ ⟨rfl, rfl⟩
     rintro _ _ ⟨rfl, rfl⟩
     intro hU hUp
     refine W_load rfl rfl isAgg22 rfl (own_at (hR _ (List.mem_cons_of_mem _ (List.mem_cons_of_mem _ (List.mem_cons_self ..)))) rfl) ?_
     exact W_end (OneT_end [] (Hp.le_refl _) ⟨rfl, rfl⟩)
    ·intro HX hX X Rest hR
     rintro _ _ ⟨rfl, rfl⟩
     rintro _ _ ⟨rfl, rfl⟩
     intro hU hUp
     refine W_lenR rfl rfl runUnderlying22 rfl ((h1.mono hle196).mono hX) ?_
     exact W_end (OneT_end [] (Hp.le_refl _) ⟨rfl, rfl⟩)
    ·intro HX hX X Rest hR
     rintro _ _ ⟨rfl, rfl⟩
     rintro _ _ ⟨rfl, rfl⟩
     rintro _ _ ⟨rfl, rfl⟩
     intro hU hUp
     refine W_bin rfl rfl rfl rfl rfl ?_
     exact W_end (OneT_end [] (Hp.le_refl _) ⟨rfl, (by first | rfl | (rw [hb232]; try rfl))⟩)
    ·intro HX hX X Rest hR
     rintro _ _ ⟨rfl, rfl⟩
     rintro _ _ ⟨rfl, rfl⟩
     intro hU hUp
     refine W_pick rfl rfl rfl rfl ?_
     exact W_end (OneT_end [] (Hp.le_refl _) ⟨rfl, rfl⟩)
    ·intro HX hX X Rest hR
     rintro _ _ ⟨rfl, rfl⟩
     rintro _ _ ⟨rfl, rfl⟩
     intro hU hUp
     refine W_move rfl rfl rfl ?_
     exact W_end (OneT_end [] (Hp.le_refl _) ⟨rfl, rfl⟩)
    ·intro HX hX X Rest hR
     rintro _ _ ⟨rfl, rfl⟩
     intro hU hUp
     refine W_move rfl rfl rfl ?_
     exact W_end (OneT_end [] (Hp.le_refl _) ⟨rfl, rfl⟩)
    ·intro HX hX X Rest hR
     rintro _ _ ⟨rfl, rfl⟩
     intro hU hUp
     refine W_load rfl rfl isAgg3 rfl (own_at (hR _ (List.mem_cons_of_mem _ (List.mem_cons_of_mem _ (List.mem_cons_of_mem _ (List.mem_cons_self ..))))) rfl) ?_
     exact W_end (OneT_end [] (Hp.le_refl _) ⟨rfl, rfl⟩)
    ·intro HX hX X Rest hR
     rintro _ _ ⟨rfl, rfl⟩
     rintro _ _ ⟨rfl, rfl⟩
     rintro _ _ ⟨rfl, rfl⟩
     intro hU hUp
     refine W_indexO (hR _ (List.mem_cons_self ..)) rfl rfl runUnderlying42 sizeOf3 rfl rfl h236 (List.getElem?_eq_some_iff.1 he237).1 ?_
     exact W_end (OneT_end [] (Hp.le_refl _) ⟨rfl, rfl⟩)
    ·intro HX hX X Rest hR
     rintro _ _ ⟨rfl, rfl⟩
     rintro _ _ ⟨rfl, rfl⟩
     intro hU hUp
     refine W_load rfl rfl isAgg3 rfl (row_one0 (hR _ (List.mem_cons_self ..)) hg238 rfl) ?_
     exact W_end (OneT_end [] (Hp.le_refl _) ⟨rfl, rfl⟩)
    ·intro HX hX X Rest hR
     rintro _ _ ⟨rfl, rfl⟩
     intro hU hUp
     refine W_move rfl rfl rfl ?_
     exact W_end (OneT_end [] (Hp.le_refl _) ⟨rfl, rfl⟩)
    ·intro HX hX X Rest hR
     rintro _ _ ⟨rfl, rfl⟩
     intro hU hUp
     refine W_load rfl rfl isAgg3 rfl (own_at (hR _ (List.mem_cons_of_mem _ (List.mem_cons_of_mem _ (List.mem_cons_of_mem _ (List.mem_cons_of_mem _ (List.mem_cons_self ..)))))) rfl) ?_
     exact W_end (OneT_end [] (Hp.le_refl _) ⟨rfl, rfl⟩)
    ·intro HX hX X Rest hR
     rintro _ _ ⟨rfl, rfl⟩
     rintro _ _ ⟨rfl, rfl⟩
     rintro _ _ ⟨rfl, rfl⟩
     intro hU hUp
     refine W_indexO (hR _ (List.mem_cons_self ..)) rfl rfl runUnderlying42 sizeOf3 rfl rfl h240 (List.getElem?_eq_some_iff.1 he241).1 ?_
     exact W_end (OneT_end [] (Hp.le_refl _) ⟨rfl, rfl⟩)
    ·intro HX hX X Rest hR
     rintro _ _ ⟨rfl, rfl⟩
     rintro _ _ ⟨rfl, rfl⟩
     intro hU hUp
     refine W_load rfl rfl isAgg3 rfl (row_one0 (hR _ (List.mem_cons_self ..)) hg242 rfl) ?_
     exact W_end (OneT_end [] (Hp.le_refl _) ⟨rfl, rfl⟩)
    intro H243 hle244
    rintro _ _ ⟨rfl, rfl⟩
    rintro _ _ ⟨rfl, rfl⟩
    rintro _ _ ⟨rfl, rfl⟩
    rintro _ _ ⟨rfl, rfl⟩
    rintro _ _ ⟨rfl, rfl⟩
    rintro _ _ ⟨rfl, rfl⟩
    rintro _ _ ⟨rfl, rfl⟩
    rintro _ _ ⟨rfl, rfl⟩
    rintro _ _ ⟨rfl, rfl⟩
    rintro _ _ ⟨rfl, rfl⟩
    rintro _ _ ⟨rfl, rfl⟩
    rintro _ _ ⟨rfl, rfl⟩
    rintro _ _ ⟨rfl, rfl⟩
    rintro _ _ ⟨rfl, rfl⟩
    rintro _ _ ⟨rfl, rfl⟩
    rintro _ _ ⟨rfl, rfl⟩
    rintro _ _ ⟨rfl, rfl⟩
    rintro _ _ ⟨rfl, rfl⟩
    rintro _ _ ⟨rfl, rfl⟩
    refine W_bin rfl rfl rfl rfl rfl ?_
    refine W_pick rfl rfl rfl rfl ?_
    refine W_assign rfl rfl rfl ?_
    refine W_end (E_then (C_ret ?_))
    obtain rfl := Option.some.inj hm
    refine E_drop (List.Sublist.cons _ (List.Sublist.cons _ (List.Sublist.refl _))) ?_
    refine E_weak (Hp.le_trans hle196 hle244) ?_
    exact end1 rfl rfl ⟨rfl, rfl, rfl⟩

theorem m_gridhallkeep4_BlackstartPaths_c {B : Nat} {w0 w : World} {H : Hp} {M : List Res} {p0_n : S_api_Network} {p1_i : Int} {p2_j : Int} {v0 : Value} {v1 : Value} {v2 : Value} {v3 : Value} {v4 : Value} {v5 : Value} {r : Bool} (hm : m_gridhallkeep4_BlackstartPaths p0_n p1_i p2_j = some r) (h0 : RdS H v0 p0_n.Nodes) (h1 : RdS H v1 p0_n.Switches) (h2 : RdS H v2 p0_n.Branches) (h3 : RdS H v3 p0_n.Gens) (h4 : RdS H v4 p0_n.Loads) (h5 : RdS H v5 p0_n.Stores) (ht : St B w0 H (M) w) :
  Calls prog 5 [.agg [v0, v1, v2, v3, v4, v5].toArray, .int .i64 (p1_i), .int .i64 (p2_j)].toArray w (Ret B w0 fun H' M' v => H = H' ∧ M = M' ∧ .bool (r) = v) := by
 unfold m_gridhallkeep4_BlackstartPaths at hm
 refine enter func5 rfl rfl rfl ht ?_
 refine C_seq (C_region ?_)
 refine W_box (cs := [v0, v1, v2, v3, v4, v5]) rfl rfl rfl rfl (fun b101 => ?_)
 refine W_box (cs := [.int .i64 (p1_i)]) rfl rfl rfl rfl (fun b102 => ?_)
 refine W_box (cs := [.int .i64 (p2_j)]) rfl rfl rfl rfl (fun b103 => ?_)
 refine W_assign rfl rfl rfl ?_
 refine W_end (E_then (C_seq ?_))
 obtain ⟨r107, hc108, hm⟩ := bind_some hm
 refine C_seq_join (fun H' M' L' => H = H' ∧ .obj b103 (.cells ([.int .i64 (p2_j)] : List Value).toArray 3 (0, 0)) :: .obj b102 (.cells ([.int .i64 (p1_i)] : List Value).toArray 3 (0, 0)) :: .obj b101 (.cells [v0, v1, v2, v3, v4, v5].toArray 29 (0, 0)) :: M = M' ∧ [(3, .pointer (some ⟨b101, 0, none⟩)), (4, .pointer (some ⟨b102, 0, none⟩)), (5, .pointer (some ⟨b103, 0, none⟩)), (21, .bool ((!decide (r107 = 0)) || (decide ((p0_n.Nodes.length : Int) = 0))))] = L') ?_ (fun J109 => ?_)
 ·rintro _ _ _ ⟨rfl, rfl, rfl⟩
  refine C_cond (b := (!decide (r107 = 0)) || (decide ((p0_n.Nodes.length : Int) = 0))) rfl (fun hb110 => ?_) (fun hb110 => ?_)
  ·have hm := ite_t' hb110 hm
   refine C_seq (C_region ?_)
   obtain ⟨r111, hc112, hm⟩ := bind_some hm
   refine W_call call8 rfl rfl rfl (fun w ht => by have h := m_gridhallkeep4_blackstartFact_c (hm := hc112)  ht; exact h) ?_
   rintro _ _ _ ⟨rfl, rfl, rfl⟩
   refine W_assign rfl rfl rfl ?_
   refine W_end (E_then (C_ret (E_ret_then ?_)))
   obtain rfl := Option.some.inj hm
   refine E_drop (List.Sublist.cons _ (List.Sublist.cons _ (List.Sublist.cons _ (List.Sublist.refl _)))) ?_
   refine E_weak (Hp.le_refl _) ?_
   exact end1 rfl rfl ⟨rfl, rfl, rfl⟩
  ·have hm := ite_f' hb110 hm
   refine C_skip (E_then (C_seq ?_))
   obtain ⟨r113, hc114, hm⟩ := bind_some hm
   refine C_region_tok0 11 (phiT [(fun H rs v => [] = rs ∧ .int .i64 (p1_i) = v), (fun H rs v => [] = rs ∧ .pointer (some ⟨b101, 0, none⟩) = v), (fun H rs v => [] = rs ∧ v0 = v), (fun H rs v => [] = rs ∧ .int .i64 ((p0_n.Nodes.length : Int)) = v), (fun H rs v => [] = rs ∧ .int .i64 (IntKind.i64.wrap ((p0_n.Nodes.length : Int) - 1)) = v), (fun H rs v => [] = rs ∧ .int .i64 (r113) = v), (fun H rs v => [] = rs ∧ .int .i64 (p2_j) = v), (fun H rs v => [] = rs ∧ .pointer (some ⟨b101, 0, none⟩) = v), (fun H rs v => [] = rs ∧ v0 = v), (fun H rs v => [] = rs ∧ .int .i64 ((p0_n.Nodes.length : Int)) = v), (fun H rs v => [] = rs ∧ .int .i64 (IntKind.i64.wrap ((p0_n.Nodes.length : Int) - 1)) = v)]) [[], [], [], [], [], [], [], [], [], [], []] [[], [], [], [], [], [], [], [], [], [], []] [] [0, 1, 2, 3, 4, 5, 6, 7, 8, 9, 10] Facts.mixed (by kernel_rfl) (by rfl) (by rfl) (by rfl) (by kernel_rfl) (phiT_mono ⟨eq_monoT _ _, eq_monoT _ _, eq_monoT _ _, eq_monoT _ _, eq_monoT _ _, eq_monoT _ _, eq_monoT _ _, eq_monoT _ _, eq_monoT _ _, eq_monoT _ _, eq_monoT _ _, trivial⟩) ⟨?_, ?_, ?_, ?_, ?_, ?_, ?_, ?_, ?_, ?_, ?_, trivial⟩ ?_
   ·intro HX hX X Rest hR
    intro hU hUp
    refine W_load rfl rfl isAgg3 rfl (own_at (hR _ (List.mem_cons_of_mem _ (List.mem_cons_self ..))) rfl) ?_
    exact W_end (OneT_end [] (Hp.le_refl _) ⟨rfl, rfl⟩)
   ·intro HX hX X Rest hR
    intro hU hUp
    refine W_field (o := 0) rfl rfl runUnderlying29 rfl sizeOf22 rfl rfl rfl ?_
    exact W_end (OneT_end [] (Hp.le_refl _) ⟨rfl, rfl⟩)
   ·intro HX hX X Rest hR
    rintro _ _ ⟨rfl, rfl⟩
    intro hU hUp
    refine W_load rfl rfl isAgg22 rfl (own_at (hR _ (List.mem_cons_of_mem _ (List.mem_cons_of_mem _ (List.mem_cons_self ..)))) rfl) ?_
    exact W_end (OneT_end [] (Hp.le_refl _) ⟨rfl, rfl⟩)
   ·intro HX hX X Rest hR
    rintro _ _ ⟨rfl, rfl⟩
    intro hU hUp
    refine W_lenR rfl rfl runUnderlying22 rfl (h0.mono hX) ?_
    exact W_end (OneT_end [] (Hp.le_refl _) ⟨rfl, rfl⟩)
   ·intro HX hX X Rest hR
    rintro _ _ ⟨rfl, rfl⟩
    intro hU hUp
    refine W_bin rfl rfl rfl rfl rfl ?_
    exact W_end (OneT_end [] (Hp.le_refl _) ⟨rfl, rfl⟩)
   ·intro HX hX X Rest hR
    rintro _ _ ⟨rfl, rfl⟩
    rintro _ _ ⟨rfl, rfl⟩
    intro hU hUp
    refine W_call call9 rfl rfl rfl (fun w ht => by have h := m_gridhallref4_Cut_c (hm := hc114)  ht; exact h) ?_
    rintro _ _ _ ⟨rfl, rfl, rfl⟩
    exact W_end (OneT_end [] (Hp.le_refl _) ⟨rfl, rfl⟩)
   ·intro HX hX X Rest hR
    intro hU hUp
    refine W_load rfl rfl isAgg3 rfl (own_at (hR _ (List.mem_cons_self ..)) rfl) ?_
    exact W_end (OneT_end [] (Hp.le_refl _) ⟨rfl, rfl⟩)
   ·intro HX hX X Rest hR
    intro hU hUp
    refine W_field (o := 0) rfl rfl runUnderlying29 rfl sizeOf22 rfl rfl rfl ?_
    exact W_end (OneT_end [] (Hp.le_refl _) ⟨rfl, rfl⟩)
   ·intro HX hX X Rest hR
    rintro _ _ ⟨rfl, rfl⟩
    intro hU hUp
    refine W_load rfl rfl isAgg22 rfl (own_at (hR _ (List.mem_cons_of_mem _ (List.mem_cons_of_mem _ (List.mem_cons_self ..)))) rfl) ?_
    exact W_end (OneT_end [] (Hp.le_refl _) ⟨rfl, rfl⟩)
   ·intro HX hX X Rest hR
    rintro _ _ ⟨rfl, rfl⟩
    intro hU hUp
    refine W_lenR rfl rfl runUnderlying22 rfl (h0.mono hX) ?_
    exact W_end (OneT_end [] (Hp.le_refl _) ⟨rfl, rfl⟩)
   ·intro HX hX X Rest hR
    rintro _ _ ⟨rfl, rfl⟩
    intro hU hUp
    refine W_bin rfl rfl rfl rfl rfl ?_
    exact W_end (OneT_end [] (Hp.le_refl _) ⟨rfl, rfl⟩)
   intro H115 hle116
   rintro _ _ ⟨rfl, rfl⟩
   rintro _ _ ⟨rfl, rfl⟩
   rintro _ _ ⟨rfl, rfl⟩
   rintro _ _ ⟨rfl, rfl⟩
   rintro _ _ ⟨rfl, rfl⟩
   rintro _ _ ⟨rfl, rfl⟩
   rintro _ _ ⟨rfl, rfl⟩
   rintro _ _ ⟨rfl, rfl⟩
   rintro _ _ ⟨rfl, rfl⟩
   rintro _ _ ⟨rfl, rfl⟩
   rintro _ _ ⟨rfl, rfl⟩
   obtain ⟨r117, hc118, hm⟩ := bind_some hm
   refine W_call call9 rfl rfl rfl (fun w ht => by have h := m_gridhallref4_Cut_c (hm := hc118)  ht; exact h) ?_
   rintro _ _ _ ⟨rfl, rfl, rfl⟩
   refine W_perm (List.Perm.swap _ _ _) ?_
   refine W_store (cs := [.int .i64 (r113)]) (out := [.int .i64 (r113)]) rfl sizeOf3 rfl rfl rfl rfl rfl (all_cons rfl all_nil) (over_all rfl) ?_
   refine W_perm (List.Perm.swap _ _ _) ?_
   refine W_store (cs := [.int .i64 (r117)]) (out := [.int .i64 (r117)]) rfl sizeOf3 rfl rfl rfl rfl rfl (all_cons rfl all_nil) (over_all rfl) ?_
   refine W_end (E_then (C_seq ?_))
   obtain ⟨y119, h120, he121, hm⟩ := idx_some hm
   obtain ⟨_, rfl, hc122⟩ := (h0).elem he121
   obtain ⟨y123, h124, he125, hm⟩ := idx_some hm
   obtain ⟨_, rfl, hc126⟩ := (h0).elem he125
   obtain ⟨r127, hc128, hm⟩ := bind_some hm
   refine C_region_tok0 16 (phiT [(fun H rs v => [] = rs ∧ .agg [v0, v1, v2, v3, v4, v5].toArray = v), (fun H rs v => [] = rs ∧ .pointer (some ⟨b101, 0, none⟩) = v), (fun H rs v => [] = rs ∧ v0 = v), (fun H rs v => [] = rs ∧ .int .i64 (r113) = v), (fun H rs v => [] = rs ∧ .pointer (some ((Value.base (v0)).add ((r113 : Int).toNat * 1))) = v), (fun H rs v => [] = rs ∧ .string (y119) = v), (fun H rs v => [] = rs ∧ .pointer (some ⟨b101, 0, none⟩) = v), (fun H rs v => [] = rs ∧ v0 = v), (fun H rs v => [] = rs ∧ .int .i64 (r117) = v), (fun H rs v => [] = rs ∧ .pointer (some ((Value.base (v0)).add ((r117 : Int).toNat * 1))) = v), (fun H rs v => [] = rs ∧ .string (y123) = v), (fun H rs v => ∃ v132 : Value, ∃ xs133 : List Value, [.row v132 9 (Rep.sz ByteArray) r127.1.length xs133] = rs ∧ .tuple #[v132, .int .i64 (r127.2)] = v ∧ Rw H v132 xs133 r127.1), (fun H rs v => ∃ v132 : Value, ∃ xs133 : List Value, [.row v132 9 (Rep.sz ByteArray) r127.1.length xs133] = rs ∧ .tuple #[v132, .int .i64 (r127.2)] = v ∧ Rw H v132 xs133 r127.1), (fun H rs v => ∃ v132 : Value, ∃ xs133 : List Value, [.row v132 9 (Rep.sz ByteArray) r127.1.length xs133] = rs ∧ v132 = v ∧ Rw H v132 xs133 r127.1), (fun H rs v => [] = rs ∧ .int .i64 (r127.2) = v), (fun H rs v => ∃ v132 : Value, ∃ xs133 : List Value, [.row v132 9 (Rep.sz ByteArray) r127.1.length xs133] = rs ∧ v132 = v ∧ Rw H v132 xs133 r127.1)]) [[], [], [], [], [], [], [], [], [], [], [], [], [11], [12], [], [13]] [[], [], [], [], [], [], [], [], [], [], [], [], [], [], [], []] [] [0, 1, 2, 3, 4, 5, 6, 7, 8, 9, 10, 14, 15] Facts.mixed (by kernel_rfl) (by rfl) (by rfl) (by rfl) (by kernel_rfl) (phiT_mono ⟨eq_monoT _ _, eq_monoT _ _, eq_monoT _ _, eq_monoT _ _, eq_monoT _ _, eq_monoT _ _, eq_monoT _ _, eq_monoT _ _, eq_monoT _ _, eq_monoT _ _, eq_monoT _ _, (by rintro H1 H2 rs v hle ⟨v132, xs133, rfl, rfl, h134⟩; exact ⟨v132, xs133, rfl, rfl, (h134.mono hle)⟩), (by rintro H1 H2 rs v hle ⟨v132, xs133, rfl, rfl, h134⟩; exact ⟨v132, xs133, rfl, rfl, (h134.mono hle)⟩), (by rintro H1 H2 rs v hle ⟨v132, xs133, rfl, rfl, h134⟩; exact ⟨v132, xs133, rfl, rfl, (h134.mono hle)⟩), eq_monoT _ _, (by rintro H1 H2 rs v hle ⟨v132, xs133, rfl, rfl, h134⟩; exact ⟨v132, xs133, rfl, rfl, (h134.mono hle)⟩), trivial⟩) ⟨?_, ?_, ?_, ?_, ?_, ?_, ?_, ?_, ?_, ?_, ?_, ?_, ?_, ?_, ?_, ?_, trivial⟩ ?_
   ·intro HX hX X Rest hR
    intro hU hUp
    refine W_loadAgg rfl rfl isAgg29 sizeOf29 rfl (own_all (hR _ (List.mem_cons_of_mem _ (List.mem_cons_of_mem _ (List.mem_cons_self ..))))) rfl ?_
    exact W_end (OneT_end [] (Hp.le_refl _) ⟨rfl, rfl⟩)
   ·intro HX hX X Rest hR
    intro hU hUp
    refine W_field (o := 0) rfl rfl runUnderlying29 rfl sizeOf22 rfl rfl rfl ?_
    exact W_end (OneT_end [] (Hp.le_refl _) ⟨rfl, rfl⟩)
   ·intro HX hX X Rest hR
    rintro _ _ ⟨rfl, rfl⟩
    intro hU hUp
    refine W_load rfl rfl isAgg22 rfl (own_at (hR _ (List.mem_cons_of_mem _ (List.mem_cons_of_mem _ (List.mem_cons_self ..)))) rfl) ?_
    exact W_end (OneT_end [] (Hp.le_refl _) ⟨rfl, rfl⟩)
   ·intro HX hX X Rest hR
    intro hU hUp
    refine W_load rfl rfl isAgg3 rfl (own_at (hR _ (List.mem_cons_of_mem _ (List.mem_cons_self ..))) rfl) ?_
    exact W_end (OneT_end [] (Hp.le_refl _) ⟨rfl, rfl⟩)
   ·intro HX hX X Rest hR
    rintro _ _ ⟨rfl, rfl⟩
    rintro _ _ ⟨rfl, rfl⟩
    intro hU hUp
    refine W_indexS rfl rfl runUnderlying22 sizeOf9 rfl ((h0.mono hle116).mono hX) rfl h120 he121 ?_
    exact W_end (OneT_end [] (Hp.le_refl _) ⟨rfl, rfl⟩)
   ·intro HX hX X Rest hR
    rintro _ _ ⟨rfl, rfl⟩
    intro hU hUp
    refine W_load rfl rfl isAgg9 rfl (HCells.one ((hc122.mono hle116).mono hX) 0 rfl).at ?_
    exact W_end (OneT_end [] (Hp.le_refl _) ⟨rfl, rfl⟩)
   ·intro HX hX X Rest hR
    intro hU hUp
    refine W_field (o := 0) rfl rfl runUnderlying29 rfl sizeOf22 rfl rfl rfl ?_
    exact W_end (OneT_end [] (Hp.le_refl _) ⟨rfl, rfl⟩)
   ·intro HX hX X Rest hR
    rintro _ _ ⟨rfl, rfl⟩
    intro hU hUp
    refine W_load rfl rfl isAgg22 rfl (own_at (hR _ (List.mem_cons_of_mem _ (List.mem_cons_of_mem _ (List.mem_cons_self ..)))) rfl) ?_
    exact W_end (OneT_end [] (Hp.le_refl _) ⟨rfl, rfl⟩)
   ·intro HX hX X Rest hR
    intro hU hUp
    refine W_load rfl rfl isAgg3 rfl (own_at (hR _ (List.mem_cons_self ..)) rfl) ?_
    exact W_end (OneT_end [] (Hp.le_refl _) ⟨rfl, rfl⟩)
   ·intro HX hX X Rest hR
    rintro _ _ ⟨rfl, rfl⟩
    rintro _ _ ⟨rfl, rfl⟩
    intro hU hUp
    refine W_indexS rfl rfl runUnderlying22 sizeOf9 rfl ((h0.mono hle116).mono hX) rfl h124 he125 ?_
    exact W_end (OneT_end [] (Hp.le_refl _) ⟨rfl, rfl⟩)
   ·intro HX hX X Rest hR
    rintro _ _ ⟨rfl, rfl⟩
    intro hU hUp
    refine W_load rfl rfl isAgg9 rfl (HCells.one ((hc126.mono hle116).mono hX) 0 rfl).at ?_
    exact W_end (OneT_end [] (Hp.le_refl _) ⟨rfl, rfl⟩)
   ·intro HX hX X Rest hR
    rintro _ _ ⟨rfl, rfl⟩
    rintro _ _ ⟨rfl, rfl⟩
    rintro _ _ ⟨rfl, rfl⟩
    intro hU hUp
    refine W_call call17 rfl rfl rfl (fun w ht => by have h := m_blackstart_Path_c (hm := hc128) ((h0.mono hle116).mono hX) ((h1.mono hle116).mono hX) ((h2.mono hle116).mono hX) ((h3.mono hle116).mono hX) ((h4.mono hle116).mono hX) ((h5.mono hle116).mono hX) ht; exact h) ?_
    rintro _ _ _ ⟨rfl, v132, xs133, rfl, rfl, h134⟩
    have h134 := h134 HX
    exact W_end (OneT_end [.row v132 9 (Rep.sz ByteArray) r127.1.length xs133] (Hp.le_refl _) ⟨v132, xs133, rfl, rfl, (h134)⟩)
   ·intro HX hX X Rest hR
    rintro _ _ ⟨v132, xs133, rfl, rfl, h134⟩
    intro hU hUp
    refine W_as (M' := .row v132 9 (Rep.sz ByteArray) r127.1.length xs133 :: Rest) rfl ?_
    refine W_move rfl rfl rfl ?_
    exact W_end (OneT_end [.row v132 9 (Rep.sz ByteArray) r127.1.length xs133] (Hp.le_refl _) ⟨v132, xs133, rfl, rfl, (h134)⟩)
   ·intro HX hX X Rest hR
    rintro _ _ ⟨v132, xs133, rfl, rfl, h134⟩
    intro hU hUp
    refine W_as (M' := .row v132 9 (Rep.sz ByteArray) r127.1.length xs133 :: Rest) rfl ?_
    refine W_extract rfl rfl rfl rfl ?_
    exact W_end (OneT_end [.row v132 9 (Rep.sz ByteArray) r127.1.length xs133] (Hp.le_refl _) ⟨v132, xs133, rfl, rfl, (h134)⟩)
   ·intro HX hX X Rest hR
    rintro _ _ ⟨v132, xs133, rfl, rfl, h134⟩
    intro hU hUp
    refine W_extract rfl rfl rfl rfl ?_
    exact W_end (OneT_end [] (Hp.le_refl _) ⟨rfl, rfl⟩)
   ·intro HX hX X Rest hR
    rintro _ _ ⟨v132, xs133, rfl, rfl, h134⟩
    rintro _ _ ⟨v132, xs133, rfl, rfl, h134⟩
    rintro _ _ ⟨rfl, rfl⟩
    rintro _ _ ⟨rfl, rfl⟩
    rintro _ _ ⟨rfl, rfl⟩
    rintro _ _ ⟨rfl, rfl⟩
    rintro _ _ ⟨rfl, rfl⟩
    rintro _ _ ⟨rfl, rfl⟩
    rintro _ _ ⟨rfl, rfl⟩
    rintro _ _ ⟨rfl, rfl⟩
    rintro _ _ ⟨rfl, rfl⟩
    rintro _ _ ⟨rfl, rfl⟩
    rintro _ _ ⟨rfl, rfl⟩
    rintro _ _ ⟨v132, xs133, rfl, rfl, h134⟩
    rintro _ _ ⟨v132, xs133, rfl, rfl, h134⟩
    rintro _ _ ⟨v132, xs133, rfl, rfl, h134⟩
    intro hU hUp
    refine W_as (M' := .row v132 9 (Rep.sz ByteArray) r127.1.length xs133 :: Rest) rfl ?_
    refine W_assign rfl rfl rfl ?_
    exact W_end (OneT_end [.row v132 9 (Rep.sz ByteArray) r127.1.length xs133] (Hp.le_refl _) ⟨v132, xs133, rfl, rfl, (h134)⟩)
   intro H135 hle136
   rintro _ _ ⟨rfl, rfl⟩
   rintro _ _ ⟨rfl, rfl⟩
   rintro _ _ ⟨rfl, rfl⟩
   rintro _ _ ⟨rfl, rfl⟩
   rintro _ _ ⟨rfl, rfl⟩
   rintro _ _ ⟨rfl, rfl⟩
   rintro _ _ ⟨rfl, rfl⟩
   rintro _ _ ⟨rfl, rfl⟩
   rintro _ _ ⟨rfl, rfl⟩
   rintro _ _ ⟨rfl, rfl⟩
   rintro _ _ ⟨rfl, rfl⟩
   rintro _ _ ⟨v132, xs133, rfl, rfl, h134⟩
   rintro _ _ ⟨v132, xs133, rfl, rfl, h134⟩
   rintro _ _ ⟨v132, xs133, rfl, rfl, h134⟩
   rintro _ _ ⟨rfl, rfl⟩
   rintro _ _ ⟨v132, xs133, rfl, rfl, h134⟩
   refine W_as (M' := .row v132 9 (Rep.sz ByteArray) r127.1.length xs133 :: .obj b103 (.cells ([.int .i64 (r117)] : List Value).toArray 3 (0, 0)) :: .obj b102 (.cells ([.int .i64 (r113)] : List Value).toArray 3 (0, 0)) :: .obj b101 (.cells [v0, v1, v2, v3, v4, v5].toArray 29 (0, 0)) :: M) rfl ?_
   refine W_assign rfl rfl rfl ?_
   refine W_end (E_then (C_seq ?_))
   obtain ⟨y137, h138, he139, hm⟩ := idx_some hm
   obtain ⟨_, rfl, hc140⟩ := (h0).elem he139
   obtain ⟨y141, h142, he143, hm⟩ := idx_some hm
   obtain ⟨_, rfl, hc144⟩ := (h0).elem he143
   obtain ⟨r145, hc146, hm⟩ := bind_some hm
   refine C_region_tok0 16 (phiT [(fun H rs v => [] = rs ∧ .agg [v0, v1, v2, v3, v4, v5].toArray = v), (fun H rs v => [] = rs ∧ .pointer (some ⟨b101, 0, none⟩) = v), (fun H rs v => [] = rs ∧ v0 = v), (fun H rs v => [] = rs ∧ .int .i64 (r117) = v), (fun H rs v => [] = rs ∧ .pointer (some ((Value.base (v0)).add ((r117 : Int).toNat * 1))) = v), (fun H rs v => [] = rs ∧ .string (y137) = v), (fun H rs v => [] = rs ∧ .pointer (some ⟨b101, 0, none⟩) = v), (fun H rs v => [] = rs ∧ v0 = v), (fun H rs v => [] = rs ∧ .int .i64 (r113) = v), (fun H rs v => [] = rs ∧ .pointer (some ((Value.base (v0)).add ((r113 : Int).toNat * 1))) = v), (fun H rs v => [] = rs ∧ .string (y141) = v), (fun H rs v => ∃ v150 : Value, ∃ xs151 : List Value, [.row v150 9 (Rep.sz ByteArray) r145.1.length xs151] = rs ∧ .tuple #[v150, .int .i64 (r145.2)] = v ∧ Rw H v150 xs151 r145.1), (fun H rs v => ∃ v150 : Value, ∃ xs151 : List Value, [.row v150 9 (Rep.sz ByteArray) r145.1.length xs151] = rs ∧ .tuple #[v150, .int .i64 (r145.2)] = v ∧ Rw H v150 xs151 r145.1), (fun H rs v => ∃ v150 : Value, ∃ xs151 : List Value, [.row v150 9 (Rep.sz ByteArray) r145.1.length xs151] = rs ∧ v150 = v ∧ Rw H v150 xs151 r145.1), (fun H rs v => [] = rs ∧ .int .i64 (r145.2) = v), (fun H rs v => ∃ v150 : Value, ∃ xs151 : List Value, [.row v150 9 (Rep.sz ByteArray) r145.1.length xs151] = rs ∧ v150 = v ∧ Rw H v150 xs151 r145.1)]) [[], [], [], [], [], [], [], [], [], [], [], [], [11], [12], [], [13]] [[], [], [], [], [], [], [], [], [], [], [], [], [], [], [], []] [] [0, 1, 2, 3, 4, 5, 6, 7, 8, 9, 10, 14, 15] Facts.mixed (by kernel_rfl) (by rfl) (by rfl) (by rfl) (by kernel_rfl) (phiT_mono ⟨eq_monoT _ _, eq_monoT _ _, eq_monoT _ _, eq_monoT _ _, eq_monoT _ _, eq_monoT _ _, eq_monoT _ _, eq_monoT _ _, eq_monoT _ _, eq_monoT _ _, eq_monoT _ _, (by rintro H1 H2 rs v hle ⟨v150, xs151, rfl, rfl, h152⟩; exact ⟨v150, xs151, rfl, rfl, (h152.mono hle)⟩), (by rintro H1 H2 rs v hle ⟨v150, xs151, rfl, rfl, h152⟩; exact ⟨v150, xs151, rfl, rfl, (h152.mono hle)⟩), (by rintro H1 H2 rs v hle ⟨v150, xs151, rfl, rfl, h152⟩; exact ⟨v150, xs151, rfl, rfl, (h152.mono hle)⟩), eq_monoT _ _, (by rintro H1 H2 rs v hle ⟨v150, xs151, rfl, rfl, h152⟩; exact ⟨v150, xs151, rfl, rfl, (h152.mono hle)⟩), trivial⟩) ⟨?_, ?_, ?_, ?_, ?_, ?_, ?_, ?_, ?_, ?_, ?_, ?_, ?_, ?_, ?_, ?_, trivial⟩ ?_
   ·intro HX hX X Rest hR
    intro hU hUp
    refine W_loadAgg rfl rfl isAgg29 sizeOf29 rfl (own_all (hR _ (List.mem_cons_of_mem _ (List.mem_cons_of_mem _ (List.mem_cons_of_mem _ (List.mem_cons_self ..)))))) rfl ?_
    exact W_end (OneT_end [] (Hp.le_refl _) ⟨rfl, rfl⟩)
   ·intro HX hX X Rest hR
    intro hU hUp
    refine W_field (o := 0) rfl rfl runUnderlying29 rfl sizeOf22 rfl rfl rfl ?_
    exact W_end (OneT_end [] (Hp.le_refl _) ⟨rfl, rfl⟩)
   ·intro HX hX X Rest hR
    rintro _ _ ⟨rfl, rfl⟩
    intro hU hUp
    refine W_load rfl rfl isAgg22 rfl (own_at (hR _ (List.mem_cons_of_mem _ (List.mem_cons_of_mem _ (List.mem_cons_of_mem _ (List.mem_cons_self ..))))) rfl) ?_
    exact W_end (OneT_end [] (Hp.le_refl _) ⟨rfl, rfl⟩)
   ·intro HX hX X Rest hR
    intro hU hUp
    refine W_load rfl rfl isAgg3 rfl (own_at (hR _ (List.mem_cons_of_mem _ (List.mem_cons_self ..))) rfl) ?_
    exact W_end (OneT_end [] (Hp.le_refl _) ⟨rfl, rfl⟩)
   ·intro HX hX X Rest hR
    rintro _ _ ⟨rfl, rfl⟩
    rintro _ _ ⟨rfl, rfl⟩
    intro hU hUp
    refine W_indexS rfl rfl runUnderlying22 sizeOf9 rfl (((h0.mono hle116).mono hle136).mono hX) rfl h138 he139 ?_
    exact W_end (OneT_end [] (Hp.le_refl _) ⟨rfl, rfl⟩)
   ·intro HX hX X Rest hR
    rintro _ _ ⟨rfl, rfl⟩
    intro hU hUp
    refine W_load rfl rfl isAgg9 rfl (HCells.one (((hc140.mono hle116).mono hle136).mono hX) 0 rfl).at ?_
    exact W_end (OneT_end [] (Hp.le_refl _) ⟨rfl, rfl⟩)
   ·intro HX hX X Rest hR
    intro hU hUp
    refine W_field (o := 0) rfl rfl runUnderlying29 rfl sizeOf22 rfl rfl rfl ?_
    exact W_end (OneT_end [] (Hp.le_refl _) ⟨rfl, rfl⟩)
   ·intro HX hX X Rest hR
    rintro _ _ ⟨rfl, rfl⟩
    intro hU hUp
    refine W_load rfl rfl isAgg22 rfl (own_at (hR _ (List.mem_cons_of_mem _ (List.mem_cons_of_mem _ (List.mem_cons_of_mem _ (List.mem_cons_self ..))))) rfl) ?_
    exact W_end (OneT_end [] (Hp.le_refl _) ⟨rfl, rfl⟩)
   ·intro HX hX X Rest hR
    intro hU hUp
    refine W_load rfl rfl isAgg3 rfl (own_at (hR _ (List.mem_cons_of_mem _ (List.mem_cons_of_mem _ (List.mem_cons_self ..)))) rfl) ?_
    exact W_end (OneT_end [] (Hp.le_refl _) ⟨rfl, rfl⟩)
   ·intro HX hX X Rest hR
    rintro _ _ ⟨rfl, rfl⟩
    rintro _ _ ⟨rfl, rfl⟩
    intro hU hUp
    refine W_indexS rfl rfl runUnderlying22 sizeOf9 rfl (((h0.mono hle116).mono hle136).mono hX) rfl h142 he143 ?_
    exact W_end (OneT_end [] (Hp.le_refl _) ⟨rfl, rfl⟩)
   ·intro HX hX X Rest hR
    rintro _ _ ⟨rfl, rfl⟩
    intro hU hUp
    refine W_load rfl rfl isAgg9 rfl (HCells.one (((hc144.mono hle116).mono hle136).mono hX) 0 rfl).at ?_
    exact W_end (OneT_end [] (Hp.le_refl _) ⟨rfl, rfl⟩)
   ·intro HX hX X Rest hR
    rintro _ _ ⟨rfl, rfl⟩
    rintro _ _ ⟨rfl, rfl⟩
    rintro _ _ ⟨rfl, rfl⟩
    intro hU hUp
    refine W_call call17 rfl rfl rfl (fun w ht => by have h := m_blackstart_Path_c (hm := hc146) (((h0.mono hle116).mono hle136).mono hX) (((h1.mono hle116).mono hle136).mono hX) (((h2.mono hle116).mono hle136).mono hX) (((h3.mono hle116).mono hle136).mono hX) (((h4.mono hle116).mono hle136).mono hX) (((h5.mono hle116).mono hle136).mono hX) ht; exact h) ?_
    rintro _ _ _ ⟨rfl, v150, xs151, rfl, rfl, h152⟩
    have h152 := h152 HX
    exact W_end (OneT_end [.row v150 9 (Rep.sz ByteArray) r145.1.length xs151] (Hp.le_refl _) ⟨v150, xs151, rfl, rfl, (h152)⟩)
   ·intro HX hX X Rest hR
    rintro _ _ ⟨v150, xs151, rfl, rfl, h152⟩
    intro hU hUp
    refine W_as (M' := .row v150 9 (Rep.sz ByteArray) r145.1.length xs151 :: Rest) rfl ?_
    refine W_move rfl rfl rfl ?_
    exact W_end (OneT_end [.row v150 9 (Rep.sz ByteArray) r145.1.length xs151] (Hp.le_refl _) ⟨v150, xs151, rfl, rfl, (h152)⟩)
   ·intro HX hX X Rest hR
    rintro _ _ ⟨v150, xs151, rfl, rfl, h152⟩
    intro hU hUp
    refine W_as (M' := .row v150 9 (Rep.sz ByteArray) r145.1.length xs151 :: Rest) rfl ?_
    refine W_extract rfl rfl rfl rfl ?_
    exact W_end (OneT_end [.row v150 9 (Rep.sz ByteArray) r145.1.length xs151] (Hp.le_refl _) ⟨v150, xs151, rfl, rfl, (h152)⟩)
   ·intro HX hX X Rest hR
    rintro _ _ ⟨v150, xs151, rfl, rfl, h152⟩
    intro hU hUp
    refine W_extract rfl rfl rfl rfl ?_
    exact W_end (OneT_end [] (Hp.le_refl _) ⟨rfl, rfl⟩)
   ·intro HX hX X Rest hR
    rintro _ _ ⟨v150, xs151, rfl, rfl, h152⟩
    rintro _ _ ⟨v150, xs151, rfl, rfl, h152⟩
    rintro _ _ ⟨rfl, rfl⟩
    rintro _ _ ⟨rfl, rfl⟩
    rintro _ _ ⟨rfl, rfl⟩
    rintro _ _ ⟨rfl, rfl⟩
    rintro _ _ ⟨rfl, rfl⟩
    rintro _ _ ⟨rfl, rfl⟩
    rintro _ _ ⟨rfl, rfl⟩
    rintro _ _ ⟨rfl, rfl⟩
    rintro _ _ ⟨rfl, rfl⟩
    rintro _ _ ⟨rfl, rfl⟩
    rintro _ _ ⟨rfl, rfl⟩
    rintro _ _ ⟨v150, xs151, rfl, rfl, h152⟩
    rintro _ _ ⟨v150, xs151, rfl, rfl, h152⟩
    rintro _ _ ⟨v150, xs151, rfl, rfl, h152⟩
    intro hU hUp
    refine W_as (M' := .row v150 9 (Rep.sz ByteArray) r145.1.length xs151 :: Rest) rfl ?_
    refine W_assign rfl rfl rfl ?_
    exact W_end (OneT_end [.row v150 9 (Rep.sz ByteArray) r145.1.length xs151] (Hp.le_refl _) ⟨v150, xs151, rfl, rfl, (h152)⟩)
   intro H153 hle154
   rintro _ _ ⟨rfl, rfl⟩
   rintro _ _ ⟨rfl, rfl⟩
   rintro _ _ ⟨rfl, rfl⟩
   rintro _ _ ⟨rfl, rfl⟩
   rintro _ _ ⟨rfl, rfl⟩
   rintro _ _ ⟨rfl, rfl⟩
   rintro _ _ ⟨rfl, rfl⟩
   rintro _ _ ⟨rfl, rfl⟩
   rintro _ _ ⟨rfl, rfl⟩
   rintro _ _ ⟨rfl, rfl⟩
   rintro _ _ ⟨rfl, rfl⟩
   rintro _ _ ⟨v150, xs151, rfl, rfl, h152⟩
   rintro _ _ ⟨v150, xs151, rfl, rfl, h152⟩
   rintro _ _ ⟨v150, xs151, rfl, rfl, h152⟩
   rintro _ _ ⟨rfl, rfl⟩
   rintro _ _ ⟨v150, xs151, rfl, rfl, h152⟩
   refine W_as (M' := .row v150 9 (Rep.sz ByteArray) r145.1.length xs151 :: .row v132 9 (Rep.sz ByteArray) r127.1.length xs133 :: .obj b103 (.cells ([.int .i64 (r117)] : List Value).toArray 3 (0, 0)) :: .obj b102 (.cells ([.int .i64 (r113)] : List Value).toArray 3 (0, 0)) :: .obj b101 (.cells [v0, v1, v2, v3, v4, v5].toArray 29 (0, 0)) :: M) rfl ?_
   refine W_assign rfl rfl rfl ?_
   refine W_end (E_then (C_seq (C_seq (C_region ?_))))
   refine W_move rfl rfl rfl ?_
   refine W_bin rfl rfl rfl rfl rfl ?_
   refine W_end (E_then ?_)
   refine C_cond (b := !decide (r127.2 = 0)) rfl (fun hb155 => ?_) (fun hb155 => ?_)
   ·have hm := ite_t' hb155 hm
    obtain ⟨r161, hc162, hm⟩ := bind_some hm
    refine C_seq_join (fun H' M' L' => H153 = H' ∧ M = M' ∧ [(6, .bool (((r161 && (decide (r127.2 = 8))) && (decide (r145.2 = r127.2))) && (decide ((r127.1.length : Int) = 0))))] = L') ?_ (fun J163 => ?_)
    ·rintro _ _ _ ⟨rfl, rfl, rfl⟩
     refine C_ret (E_ret_then ?_)
     obtain rfl := Option.some.inj hm
     refine E_weak (Hp.le_trans (Hp.le_trans hle116 hle136) hle154) ?_
     exact end1 rfl rfl ⟨rfl, rfl, rfl⟩
    ·refine C_region ?_
     refine W_call call8 rfl rfl rfl (fun w ht => by have h := m_gridhallkeep4_blackstartFact_c (hm := hc162)  ht; exact h) ?_
     rintro _ _ _ ⟨rfl, rfl, rfl⟩
     refine W_move rfl rfl rfl ?_
     cases hb164 : (r161)
     ·refine W_no rfl rfl rfl ?_
      refine W_no rfl rfl rfl ?_
      refine W_pick rfl rfl rfl rfl ?_
      refine W_move rfl rfl rfl ?_
      refine W_no rfl rfl rfl ?_
      refine W_no rfl rfl rfl ?_
      refine W_no rfl rfl rfl ?_
      refine W_pick rfl rfl rfl rfl ?_
      refine W_move rfl rfl rfl ?_
      refine W_no rfl rfl rfl ?_
      refine W_no rfl rfl rfl ?_
      refine W_no rfl rfl rfl ?_
      refine W_pick rfl rfl rfl rfl ?_
      refine W_assign rfl rfl rfl ?_
      refine W_end ?_
      refine E_drop (List.Sublist.cons _ (List.Sublist.cons _ (List.Sublist.cons _ (List.Sublist.cons _ (List.Sublist.cons _ (List.Sublist.refl _)))))) ?_
      exact E_keepJ (J163 _ _ _ ⟨rfl, rfl, rfl⟩) (List.Perm.refl _) ⟨(by show some (Value.bool (false)) = some (Value.bool (((r161 && (decide (r127.2 = 8))) && (decide (r145.2 = r127.2))) && (decide ((r127.1.length : Int) = 0)))); first | (simp only [hb110, hb155, hb164, Bool.and_true, Bool.true_and, Bool.false_and, Bool.and_false, Bool.or_true, Bool.true_or, Bool.or_false, Bool.false_or, Bool.not_true, Bool.not_false]; done) | (simp only [hb110, hb155, hb164]; first | done | simp only [Bool.and_true, Bool.true_and, Bool.false_and, Bool.and_false, Bool.or_true, Bool.true_or, Bool.or_false, Bool.false_or, Bool.not_true, Bool.not_false])), trivial⟩
     ·refine W_move rfl rfl rfl ?_
      refine W_bin rfl rfl rfl rfl rfl ?_
      refine W_pick rfl rfl rfl rfl ?_
      refine W_move rfl rfl rfl ?_
      cases hb165 : (decide (r127.2 = 8))
      ·refine W_no rfl rfl rfl ?_
       refine W_no rfl rfl rfl ?_
       refine W_no rfl rfl rfl ?_
       refine W_pick rfl rfl rfl rfl ?_
       refine W_move rfl rfl rfl ?_
       refine W_no rfl rfl rfl ?_
       refine W_no rfl rfl rfl ?_
       refine W_no rfl rfl rfl ?_
       refine W_pick rfl rfl rfl rfl ?_
       refine W_assign rfl rfl rfl ?_
       refine W_end ?_
       refine E_drop (List.Sublist.cons _ (List.Sublist.cons _ (List.Sublist.cons _ (List.Sublist.cons _ (List.Sublist.cons _ (List.Sublist.refl _)))))) ?_
       exact E_keepJ (J163 _ _ _ ⟨rfl, rfl, rfl⟩) (List.Perm.refl _) ⟨(by show some (Value.bool (false)) = some (Value.bool (((r161 && (decide (r127.2 = 8))) && (decide (r145.2 = r127.2))) && (decide ((r127.1.length : Int) = 0)))); first | (simp only [hb110, hb155, hb164, hb165, Bool.and_true, Bool.true_and, Bool.false_and, Bool.and_false, Bool.or_true, Bool.true_or, Bool.or_false, Bool.false_or, Bool.not_true, Bool.not_false]; done) | (simp only [hb110, hb155, hb164, hb165]; first | done | simp only [Bool.and_true, Bool.true_and, Bool.false_and, Bool.and_false, Bool.or_true, Bool.true_or, Bool.or_false, Bool.false_or, Bool.not_true, Bool.not_false])), trivial⟩
      ·refine W_move rfl rfl rfl ?_
       refine W_move rfl rfl rfl ?_
       refine W_bin rfl rfl rfl rfl rfl ?_
       refine W_pick rfl rfl rfl rfl ?_
       refine W_move rfl rfl rfl ?_
       cases hb166 : (decide (r145.2 = r127.2))
       ·refine W_no rfl rfl rfl ?_
        refine W_no rfl rfl rfl ?_
        refine W_no rfl rfl rfl ?_
        refine W_pick rfl rfl rfl rfl ?_
        refine W_assign rfl rfl rfl ?_
        refine W_end ?_
        refine E_drop (List.Sublist.cons _ (List.Sublist.cons _ (List.Sublist.cons _ (List.Sublist.cons _ (List.Sublist.cons _ (List.Sublist.refl _)))))) ?_
        exact E_keepJ (J163 _ _ _ ⟨rfl, rfl, rfl⟩) (List.Perm.refl _) ⟨(by show some (Value.bool (false)) = some (Value.bool (((r161 && (decide (r127.2 = 8))) && (decide (r145.2 = r127.2))) && (decide ((r127.1.length : Int) = 0)))); first | (simp only [hb110, hb155, hb164, hb165, hb166, Bool.and_true, Bool.true_and, Bool.false_and, Bool.and_false, Bool.or_true, Bool.true_or, Bool.or_false, Bool.false_or, Bool.not_true, Bool.not_false]; done) | (simp only [hb110, hb155, hb164, hb165, hb166]; first | done | simp only [Bool.and_true, Bool.true_and, Bool.false_and, Bool.and_false, Bool.or_true, Bool.true_or, Bool.or_false, Bool.false_or, Bool.not_true, Bool.not_false])), trivial⟩
       ·refine W_move rfl rfl rfl ?_
        refine W_lenO (List.mem_cons_of_mem _ (List.mem_cons_self ..)) rfl rfl runUnderlying22 rfl ?_
        refine W_bin rfl rfl rfl rfl rfl ?_
        refine W_pick rfl rfl rfl rfl ?_
        refine W_assign rfl rfl rfl ?_
        refine W_end ?_
        refine E_drop (List.Sublist.cons _ (List.Sublist.cons _ (List.Sublist.cons _ (List.Sublist.cons _ (List.Sublist.cons _ (List.Sublist.refl _)))))) ?_
        exact E_keepJ (J163 _ _ _ ⟨rfl, rfl, rfl⟩) (List.Perm.refl _) ⟨(by show some (Value.bool (decide ((r127.1.length : Int) = 0))) = some (Value.bool (((r161 && (decide (r127.2 = 8))) && (decide (r145.2 = r127.2))) && (decide ((r127.1.length : Int) = 0)))); first | (simp only [hb110, hb155, hb164, hb165, hb166, Bool.and_true, Bool.true_and, Bool.false_and, Bool.and_false, Bool.or_true, Bool.true_or, Bool.or_false, Bool.false_or, Bool.not_true, Bool.not_false]; done) | (simp only [hb110, hb155, hb164, hb165, hb166]; first | done | simp only [Bool.and_true, Bool.true_and, Bool.false_and, Bool.and_false, Bool.or_true, Bool.true_or, Bool.or_false, Bool.false_or, Bool.not_true, Bool.not_false])), trivial⟩
   ·have hm := ite_f' hb155 hm
    refine C_skip (E_then (C_seq ?_))
    refine C_seq_join (fun H' M' L' => H153 = H' ∧ .row v132 9 (Rep.sz ByteArray) r127.1.length xs133 :: .obj b103 (.cells ([.int .i64 (r117)] : List Value).toArray 3 (0, 0)) :: .obj b102 (.cells ([.int .i64 (r113)] : List Value).toArray 3 (0, 0)) :: .obj b101 (.cells [v0, v1, v2, v3, v4, v5].toArray 29 (0, 0)) :: M = M' ∧ [(3, .pointer (some ⟨b101, 0, none⟩)), (4, .pointer (some ⟨b102, 0, none⟩)), (5, .pointer (some ⟨b103, 0, none⟩)), (7, v132), (90, .bool ((!decide (r145.2 = 0)) || (!decide ((r145.1.length : Int) = (r127.1.length : Int)))))] = L') ?_ (fun J168 => ?_)
    ·rintro _ _ _ ⟨rfl, rfl, rfl⟩
     refine C_cond (b := (!decide (r145.2 = 0)) || (!decide ((r145.1.length : Int) = (r127.1.length : Int)))) rfl (fun hb169 => ?_) (fun hb169 => ?_)
     ·have hm := ite_t' hb169 hm
      refine C_seq (C_region ?_)
      refine W_assign rfl rfl rfl ?_
      refine W_end (E_then (C_ret (E_ret_then ?_)))
      obtain rfl := Option.some.inj hm
      refine E_drop (List.Sublist.cons _ (List.Sublist.cons _ (List.Sublist.cons _ (List.Sublist.cons _ (List.Sublist.refl _))))) ?_
      refine E_weak (Hp.le_trans (Hp.le_trans hle116 hle136) hle154) ?_
      exact end1 rfl rfl ⟨rfl, rfl, rfl⟩
     ·have hm := ite_f' hb169 hm
      refine C_skip (E_then (C_seq (C_region ?_)))
      refine W_makeFunc rfl rfl rfl rfl ?_
      refine W_assign rfl rfl rfl ?_
      refine W_end (E_then (C_seq (C_seq (C_region ?_))))
      refine W_move rfl rfl rfl ?_
      refine W_lenO (List.mem_cons_self ..) rfl rfl runUnderlying22 rfl ?_
      refine W_move rfl rfl rfl ?_
      refine W_end (E_then (C_block ?_))
      refine C_rowMax (List.mem_cons_self ..) (fun hmx199 => ?_)
      refine C_keep (L' := [(7, v132), (11, .func (.func 18) [].toArray [.pointer (some ⟨b101, 0, none⟩), .pointer (some ⟨b102, 0, none⟩), .pointer (some ⟨b103, 0, none⟩)].toArray), (93, .int .i64 ((r127.1.length : Int))), (94, .int .i64 (((0 : Nat) : Int)))]) ⟨rfl, rfl, rfl, rfl, trivial⟩ (List.Perm.refl _) ?_
      refine C_loop (fun n H' M' L' => ∃ (k170 : Nat) (zs201' : Nat), k170 + zs201' = ((r127.1.length : Int) : Int).toNat ∧ zs201' = n ∧ forN (fun k s195 n => m_gridhallkeep4_BlackstartPaths_b1 p0_n r113 r117 r127 k n) (fun _ => (m_gridhallkeep4_blackstartFact).bind fun r217 => if r217 then ((m_gridhallkeep4_BlackstartPaths_1 r127.1 p0_n r113 r117).bind fun r220 => some r220) else (some false)) zs201' k170 () = some r ∧ H153.le H' ∧ .row v132 9 (Rep.sz ByteArray) r127.1.length xs133 :: .obj b103 (.cells ([.int .i64 (r117)] : List Value).toArray 3 (0, 0)) :: .obj b102 (.cells ([.int .i64 (r113)] : List Value).toArray 3 (0, 0)) :: .obj b101 (.cells [v0, v1, v2, v3, v4, v5].toArray 29 (0, 0)) :: M = M' ∧ [(7, v132), (11, .func (.func 18) [].toArray [.pointer (some ⟨b101, 0, none⟩), .pointer (some ⟨b102, 0, none⟩), .pointer (some ⟨b103, 0, none⟩)].toArray), (93, .int .i64 ((r127.1.length : Int))), (94, .int .i64 ((k170 : Int)))] = L') _ ⟨0, _, Nat.zero_add _, rfl, hm, (Hp.le_refl _), rfl, rfl⟩ ?_
      rintro _ H193 _ _ ⟨k170, zs201', hd203, rfl, hm, hle194, rfl, rfl⟩
      refine C_seq (C_region ?_)
      refine W_bin rfl rfl rfl rfl rfl ?_
      refine W_end (E_then (C_seq ?_))
      refine C_cond (b := decide ((k170 : Int) < (r127.1.length : Int))) rfl (fun hb205 => ?_) (fun hb205 => ?_)
      ·obtain ⟨zs201, rfl, hd204, hy202⟩ := rngN_t hd203 hb205
       have hm : m_gridhallkeep4_BlackstartPaths_b1 p0_n r113 r117 r127 k170 (forN (fun k s195 n => m_gridhallkeep4_BlackstartPaths_b1 p0_n r113 r117 r127 k n) (fun _ => (m_gridhallkeep4_blackstartFact).bind fun r217 => if r217 then ((m_gridhallkeep4_BlackstartPaths_1 r127.1 p0_n r113 r117).bind fun r220 => some r220) else (some false)) zs201 (k170 + 1)) = some r := hm
       generalize hn197 : forN (fun k s195 n => m_gridhallkeep4_BlackstartPaths_b1 p0_n r113 r117 r127 k n) (fun _ => (m_gridhallkeep4_blackstartFact).bind fun r217 => if r217 then ((m_gridhallkeep4_BlackstartPaths_1 r127.1 p0_n r113 r117).bind fun r220 => some r220) else (some false)) zs201 (k170 + 1) = nx196 at hm
       unfold m_gridhallkeep4_BlackstartPaths_b1 at hm
       refine C_skip (E_then (C_seq (C_block (C_seq (C_region ?_)))))
       refine W_move rfl rfl rfl ?_
       refine W_assign rfl rfl rfl ?_
       refine W_end (E_then (C_seq (C_region ?_)))
       refine W_move rfl rfl rfl ?_
       refine W_move rfl rfl rfl ?_
       obtain ⟨hz206, hm⟩ := need_some hm
       refine W_call call21 rfl rfl rfl (fun w ht => by obtain ⟨H0_, hl0_, ht0_, hr0_, bk0_⟩ := ht.lendRow ((h134.mono hle154).mono hle194) rfl; have h := clone21_c hr0_ hz206 ht0_; exact lend_back bk0_ h) ?_
       rintro _ _ _ ⟨rfl, _, rfl, v207, xs208, rfl, rfl, hr209⟩
       have hr209 := hr209 H193
       refine W_move rfl rfl rfl ?_
       refine W_move rfl rfl rfl ?_
       refine W_bin rfl rfl rfl rfl rfl ?_
       obtain ⟨hz210, hm⟩ := need_some hm
       refine W_perm (List.Perm.swap _ _ _) ?_
       refine W_call call20 rfl rfl rfl (fun w ht => by have h := delete20_c hr209 hz210 ht; exact h) ?_
       rintro _ _ _ ⟨rfl, v211, xs212, rfl, rfl, hr213⟩
       have hr213 := hr213 H193
       refine W_perm (List.Perm.trans (List.Perm.cons _ (List.Perm.cons _ (List.Perm.cons _ (List.Perm.swap _ _ _)))) (List.Perm.trans (List.Perm.cons _ (List.Perm.cons _ (List.Perm.swap _ _ _))) (List.Perm.trans (List.Perm.cons _ (List.Perm.swap _ _ _)) (List.Perm.trans (List.Perm.cons _ (List.Perm.cons _ (List.Perm.cons _ (List.Perm.swap _ _ _)))) (List.Perm.trans (List.Perm.cons _ (List.Perm.cons _ (List.Perm.swap _ _ _))) (List.Perm.cons _ (List.Perm.cons _ (List.Perm.cons _ (List.Perm.swap _ _ _))))))))) ?_
       obtain ⟨r214, hc215, hm⟩ := bind_some hm
       refine W_callv call18 rfl rfl rfl rfl (fun w ht => by obtain ⟨H0_, hl0_, ht0_, hr0_, bk0_⟩ := ht.lendRow hr213 rfl; have h := m_gridhallkeep4_BlackstartPaths_1_c (hm := hc215) hr0_ (((((h0.mono hle116).mono hle136).mono hle154).mono hle194).mono hl0_) (((((h1.mono hle116).mono hle136).mono hle154).mono hle194).mono hl0_) (((((h2.mono hle116).mono hle136).mono hle154).mono hle194).mono hl0_) (((((h3.mono hle116).mono hle136).mono hle154).mono hle194).mono hl0_) (((((h4.mono hle116).mono hle136).mono hle154).mono hle194).mono hl0_) (((((h5.mono hle116).mono hle136).mono hle154).mono hle194).mono hl0_) ht0_; exact lend_back bk0_ (h)) ?_
       rintro _ _ _ ⟨rfl, ⟨_, rfl, rfl, rfl⟩⟩
       refine W_end (E_then ?_)
       refine C_cond (b := r214) rfl (fun hb216 => ?_) (fun hb216 => ?_)
       ·have hm := ite_t' hb216 hm
        refine C_seq (C_region ?_)
        refine W_assign rfl rfl rfl ?_
        refine W_end (E_then (C_ret (E_ret_block (E_ret_then (E_ret_then (E_ret_block (E_ret_then ?_)))))))
        obtain rfl := Option.some.inj hm
        refine E_drop (List.Sublist.cons _ (List.Sublist.cons _ (List.Sublist.cons _ (List.Sublist.cons _ (List.Sublist.cons _ (List.Sublist.refl _)))))) ?_
        refine E_weak (Hp.le_trans (Hp.le_trans (Hp.le_trans hle116 hle136) hle154) hle194) ?_
        exact end1 rfl rfl ⟨rfl, rfl, rfl⟩
       ·have hm := ite_f' hb216 hm
        refine C_skip (E_normal_block (E_then (C_region ?_)))
        refine W_bin rfl rfl rfl rfl rfl ?_
        refine W_move rfl rfl rfl ?_
        refine W_end ?_
        refine E_drop (List.Sublist.cons _ (List.Sublist.refl _)) ?_
        exact E_keepJ (E_back (Nat.lt_succ_self _) ⟨k170 + 1, zs201, hd204, rfl, (by rw [hn197]; exact hm), hle194, rfl, rfl⟩) (List.Perm.trans (List.Perm.cons _ (List.Perm.cons _ (List.Perm.swap _ _ _))) (List.Perm.trans (List.Perm.cons _ (List.Perm.swap _ _ _)) (List.Perm.trans (List.Perm.swap _ _ _) (List.Perm.trans (List.Perm.cons _ (List.Perm.cons _ (List.Perm.swap _ _ _))) (List.Perm.trans (List.Perm.cons _ (List.Perm.swap _ _ _)) (List.Perm.cons _ (List.Perm.cons _ (List.Perm.swap _ _ _)))))))) ⟨rfl, rfl, rfl, (congrArg (fun z => some (Value.int .i64 z)) (i64_succN hy202 (toNat_max (len_max hmx199)))), trivial⟩
      ·obtain rfl := rngN_f hd203 hb205
       have hm : ((m_gridhallkeep4_blackstartFact).bind fun r217 => if r217 then ((m_gridhallkeep4_BlackstartPaths_1 r127.1 p0_n r113 r117).bind fun r220 => some r220) else (some false)) = some r := hm
       refine C_exit (E_exit_then (E_exit_then (E_exit_hit (E_then (C_seq (C_region ?_))))))
       obtain ⟨r217, hc218, hm⟩ := bind_some hm
       refine W_call call8 rfl rfl rfl (fun w ht => by have h := m_gridhallkeep4_blackstartFact_c (hm := hc218)  ht; exact h) ?_
       rintro _ _ _ ⟨rfl, rfl, rfl⟩
       refine W_move rfl rfl rfl ?_
       cases hb219 : (r217)
       ·have hm := ite_f' hb219 hm
        refine W_no rfl rfl rfl ?_
        refine W_no rfl rfl rfl ?_
        refine W_no rfl rfl rfl ?_
        refine W_pick rfl rfl rfl rfl ?_
        refine W_assign rfl rfl rfl ?_
        refine W_end (E_then (C_ret ?_))
        obtain rfl := Option.some.inj hm
        refine E_drop (List.Sublist.cons _ (List.Sublist.cons _ (List.Sublist.cons _ (List.Sublist.cons _ (List.Sublist.refl _))))) ?_
        refine E_weak (Hp.le_trans (Hp.le_trans (Hp.le_trans hle116 hle136) hle154) hle194) ?_
        exact end1 rfl rfl ⟨rfl, rfl, rfl⟩
       ·have hm := ite_t' hb219 hm
        refine W_move rfl rfl rfl ?_
        refine W_move rfl rfl rfl ?_
        refine W_perm (List.Perm.trans (List.Perm.cons _ (List.Perm.cons _ (List.Perm.swap _ _ _))) (List.Perm.trans (List.Perm.cons _ (List.Perm.swap _ _ _)) (List.Perm.cons _ (List.Perm.cons _ (List.Perm.swap _ _ _))))) ?_
        obtain ⟨r220, hc221, hm⟩ := bind_some hm
        refine W_callv call18 rfl rfl rfl rfl (fun w ht => by obtain ⟨H0_, hl0_, ht0_, hr0_, bk0_⟩ := ht.lendRow ((h134.mono hle154).mono hle194) rfl; have h := m_gridhallkeep4_BlackstartPaths_1_c (hm := hc221) hr0_ (((((h0.mono hle116).mono hle136).mono hle154).mono hle194).mono hl0_) (((((h1.mono hle116).mono hle136).mono hle154).mono hle194).mono hl0_) (((((h2.mono hle116).mono hle136).mono hle154).mono hle194).mono hl0_) (((((h3.mono hle116).mono hle136).mono hle154).mono hle194).mono hl0_) (((((h4.mono hle116).mono hle136).mono hle154).mono hle194).mono hl0_) (((((h5.mono hle116).mono hle136).mono hle154).mono hle194).mono hl0_) ht0_; exact lend_back bk0_ (h)) ?_
        rintro _ _ _ ⟨rfl, ⟨_, rfl, rfl, rfl⟩⟩
        refine W_pick rfl rfl rfl rfl ?_
        refine W_assign rfl rfl rfl ?_
        refine W_end (E_then (C_ret ?_))
        obtain rfl := Option.some.inj hm
        refine E_drop (List.Sublist.cons _ (List.Sublist.cons _ (List.Sublist.cons _ (List.Sublist.cons _ (List.Sublist.refl _))))) ?_
        refine E_weak (Hp.le_trans (Hp.le_trans (Hp.le_trans hle116 hle136) hle154) hle194) ?_
        exact end1 rfl rfl ⟨rfl, rfl, rfl⟩
    ·refine C_region ?_
     refine W_move rfl rfl rfl ?_
     refine W_bin rfl rfl rfl rfl rfl ?_
     refine W_move rfl rfl rfl ?_
     cases hb222 : (decide (r145.2 = 0))
     ·refine W_no rfl rfl rfl ?_
      refine W_no rfl rfl rfl ?_
      refine W_no rfl rfl rfl ?_
      refine W_no rfl rfl rfl ?_
      refine W_no rfl rfl rfl ?_
      refine W_pick rfl rfl rfl rfl ?_
      refine W_end ?_
      refine E_drop (List.Sublist.cons _ (List.Sublist.refl _)) ?_
      exact E_keepJ (J168 _ _ _ ⟨rfl, rfl, rfl⟩) (List.Perm.refl _) ⟨rfl, rfl, rfl, rfl, (by show some (Value.bool (true)) = some (Value.bool ((!decide (r145.2 = 0)) || (!decide ((r145.1.length : Int) = (r127.1.length : Int))))); first | (simp only [hb110, hb155, hb222, Bool.and_true, Bool.true_and, Bool.false_and, Bool.and_false, Bool.or_true, Bool.true_or, Bool.or_false, Bool.false_or, Bool.not_true, Bool.not_false]; done) | (simp only [hb110, hb155, hb222]; first | done | simp only [Bool.and_true, Bool.true_and, Bool.false_and, Bool.and_false, Bool.or_true, Bool.true_or, Bool.or_false, Bool.false_or, Bool.not_true, Bool.not_false])), trivial⟩
     ·refine W_move rfl rfl rfl ?_
      refine W_lenO (List.mem_cons_self ..) rfl rfl runUnderlying22 rfl ?_
      refine W_move rfl rfl rfl ?_
      refine W_lenO (List.mem_cons_of_mem _ (List.mem_cons_self ..)) rfl rfl runUnderlying22 rfl ?_
      refine W_bin rfl rfl rfl rfl rfl ?_
      refine W_pick rfl rfl rfl rfl ?_
      refine W_end ?_
      refine E_drop (List.Sublist.cons _ (List.Sublist.refl _)) ?_
      exact E_keepJ (J168 _ _ _ ⟨rfl, rfl, rfl⟩) (List.Perm.refl _) ⟨rfl, rfl, rfl, rfl, (by show some (Value.bool (!decide ((r145.1.length : Int) = (r127.1.length : Int)))) = some (Value.bool ((!decide (r145.2 = 0)) || (!decide ((r145.1.length : Int) = (r127.1.length : Int))))); first | (simp only [hb110, hb155, hb222, Bool.and_true, Bool.true_and, Bool.false_and, Bool.and_false, Bool.or_true, Bool.true_or, Bool.or_false, Bool.false_or, Bool.not_true, Bool.not_false]; done) | (simp only [hb110, hb155, hb222]; first | done | simp only [Bool.and_true, Bool.true_and, Bool.false_and, Bool.and_false, Bool.or_true, Bool.true_or, Bool.or_false, Bool.false_or, Bool.not_true, Bool.not_false])), trivial⟩
 ·refine C_region ?_
  refine W_loadAgg rfl rfl isAgg29 sizeOf29 rfl (own_all (List.mem_cons_of_mem _ (List.mem_cons_of_mem _ (List.mem_cons_self ..)))) rfl ?_
  refine W_call call16 rfl rfl rfl (fun w ht => by have h := m_netmodel_Check_c (hm := hc108) h0 h1 h2 h3 h4 h5 ht; exact h) ?_
  rintro _ _ _ ⟨rfl, rfl, rfl⟩
  refine W_bin rfl rfl rfl rfl rfl ?_
  refine W_move rfl rfl rfl ?_
  cases hb223 : (decide (r107 = 0))
  ·refine W_no rfl rfl rfl ?_
   refine W_no rfl rfl rfl ?_
   refine W_no rfl rfl rfl ?_
   refine W_no rfl rfl rfl ?_
   refine W_pick rfl rfl rfl rfl ?_
   refine W_end ?_
   exact E_keepJ (J109 _ _ _ ⟨rfl, rfl, rfl⟩) (List.Perm.refl _) ⟨rfl, rfl, rfl, (by show some (Value.bool (true)) = some (Value.bool ((!decide (r107 = 0)) || (decide ((p0_n.Nodes.length : Int) = 0)))); first | (simp only [hb223, Bool.and_true, Bool.true_and, Bool.false_and, Bool.and_false, Bool.or_true, Bool.true_or, Bool.or_false, Bool.false_or, Bool.not_true, Bool.not_false]; done) | (simp only [hb223]; first | done | simp only [Bool.and_true, Bool.true_and, Bool.false_and, Bool.and_false, Bool.or_true, Bool.true_or, Bool.or_false, Bool.false_or, Bool.not_true, Bool.not_false])), trivial⟩
  ·refine W_field (o := 0) rfl rfl runUnderlying29 rfl sizeOf22 rfl rfl rfl ?_
   refine W_load rfl rfl isAgg22 rfl (own_at (List.mem_cons_of_mem _ (List.mem_cons_of_mem _ (List.mem_cons_self ..))) rfl) ?_
   refine W_lenR rfl rfl runUnderlying22 rfl h0 ?_
   refine W_bin rfl rfl rfl rfl rfl ?_
   refine W_pick rfl rfl rfl rfl ?_
   refine W_end ?_
   exact E_keepJ (J109 _ _ _ ⟨rfl, rfl, rfl⟩) (List.Perm.refl _) ⟨rfl, rfl, rfl, (by show some (Value.bool (decide ((p0_n.Nodes.length : Int) = 0))) = some (Value.bool ((!decide (r107 = 0)) || (decide ((p0_n.Nodes.length : Int) = 0)))); first | (simp only [hb223, Bool.and_true, Bool.true_and, Bool.false_and, Bool.and_false, Bool.or_true, Bool.true_or, Bool.or_false, Bool.false_or, Bool.not_true, Bool.not_false]; done) | (simp only [hb223]; first | done | simp only [Bool.and_true, Bool.true_and, Bool.false_and, Bool.and_false, Bool.or_true, Bool.true_or, Bool.or_false, Bool.false_or, Bool.not_true, Bool.not_false])), trivial⟩
end Go.Sim
