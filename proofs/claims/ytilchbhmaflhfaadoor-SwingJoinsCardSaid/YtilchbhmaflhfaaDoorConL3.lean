/-
  Printed by a program: each Go function computes its model.
-/
import Derived.Test.YtilchbhmaflhfaaDoorConL2
namespace Go.Sim
open Go Go.Proofs.Tryd
set_option linter.unusedVariables false
set_option linter.unusedSimpArgs false
set_option maxRecDepth 100000
theorem m_large_Ratio_c {B : Nat} {w0 w : World} [Tabs B w0] {H : Hp} {M : List Res} {p0_n : S_large_Int} {p1_d : S_large_Int} {v0 : Value} {v1 : Value} {r : S_large_Rat} (hm : m_large_Ratio p0_n p1_d = some r) (h0 : RdS H v0 p0_n.words) (h1 : RdS H v1 p1_d.words) (ht : St B w0 H (M) w) :
  Calls prog 39 [.agg [.bool (p0_n.minus), v0].toArray, .agg [.bool (p1_d.minus), v1].toArray].toArray w (Ret B w0 fun H' M' v => H.le H' ∧ ∃ qv0 : Value, ∃ qv1 : Value, M = M' ∧ .agg [.bool (r.N.minus), qv0, .bool (r.D.minus), qv1].toArray = v ∧ RdS H' qv0 r.N.words ∧ RdS H' qv1 r.D.words) := by
 unfold m_large_Ratio at hm
 refine enter func39 rfl rfl rfl ht ?_
 refine C_seq (C_region ?_)
 refine W_box (cs := [.bool (p0_n.minus), v0]) rfl rfl rfl rfl (fun b101 => ?_)
 refine W_box (cs := [.bool (p1_d.minus), v1]) rfl rfl rfl rfl (fun b102 => ?_)
 refine W_alloc (cs := [.bool (false), .slice none 0 0, .bool (false), .slice none 0 0]) rfl rfl zeroValue49 rfl (fun b103 => ?_)
 refine W_end (E_then ?_)
 refine C_seq_join (fun H' M' L' => ∃ c123 : Bool, ∃ l125 : (List U32), ∃ c127 : Bool, ∃ l129 : (List U32), ∃ v124 : Value, ∃ v128 : Value, m_large_Ratio_b1 c123 l125 c127 l129 = some r ∧ RdS H' v124 l125 ∧ RdS H' v128 l129 ∧ H.le H' ∧ .obj b103 (.cells ([.bool (false), .slice none 0 0, .bool (false), .slice none 0 0] : List Value).toArray 49 (0, 0)) :: .obj b102 (.cells [.bool (c123), v124].toArray 47 (0, 0)) :: .obj b101 (.cells [.bool (c127), v128].toArray 47 (0, 0)) :: M = M' ∧ [(2, .pointer (some ⟨b101, 0, none⟩)), (3, .pointer (some ⟨b102, 0, none⟩)), (4, .pointer (some ⟨b103, 0, none⟩))] = L') ?_ (fun J133 => ?_)
 ·rintro H131 _ _ ⟨c123, l125, c127, l129, v124, v128, hm, h126, h130, hle132, rfl, rfl⟩
  unfold m_large_Ratio_b1 at hm
  refine C_seq (C_seq (C_region ?_))
  refine W_field (o := 1) rfl rfl runUnderlying47 rfl sizeOf45 rfl rfl rfl ?_
  refine W_load rfl rfl isAgg45 rfl (own_at (List.mem_cons_of_mem _ (List.mem_cons_self ..)) rfl) ?_
  refine W_lenR rfl rfl runUnderlying45 rfl h126 ?_
  refine W_bin rfl rfl rfl rfl rfl ?_
  refine W_move rfl rfl rfl ?_
  cases hb134 : (decide ((l125.length : Int) = 1))
  ·have hm := ite_f' hb134 hm
   refine W_no rfl rfl rfl ?_
   refine W_no rfl rfl rfl ?_
   refine W_no rfl rfl rfl ?_
   refine W_no rfl rfl rfl ?_
   refine W_no rfl rfl rfl ?_
   refine W_pick rfl rfl rfl rfl ?_
   refine W_end (E_then ?_)
   refine C_cond (b := false) rfl (fun hb => Bool.noConfusion hb) (fun _ => ?_)
   refine C_skip (E_then (C_seq (C_region ?_)))
   refine W_loadAgg rfl rfl isAgg47 sizeOf47 rfl (own_all (List.mem_cons_of_mem _ (List.mem_cons_of_mem _ (List.mem_cons_self ..)))) rfl ?_
   refine W_loadAgg rfl rfl isAgg47 sizeOf47 rfl (own_all (List.mem_cons_of_mem _ (List.mem_cons_self ..))) rfl ?_
   obtain ⟨r135, hc136, hm⟩ := bind_some hm
   refine W_call call52 rfl rfl rfl (fun w ht => by have h := m_large_Gcd_c (hm := hc136) h130 h126 ht; exact h) ?_
   rintro _ H139 _ ⟨hle140, v137, rfl, rfl, h138⟩
   refine W_alloc (cs := [.bool (false), .slice none 0 0]) rfl rfl zeroValue47 rfl (fun b141 => ?_)
   refine W_store (cs := [.bool (r135.minus), v137]) (out := [.bool (r135.minus), v137]) rfl sizeOf47 rfl rfl rfl rfl rfl (all_cons rfl (all_cons (RdS.one1 h138) all_nil)) (over_all rfl) ?_
   refine W_end (E_then (C_seq (C_seq (C_region ?_))))
   refine W_field (o := 1) rfl rfl runUnderlying47 rfl sizeOf45 rfl rfl rfl ?_
   refine W_load rfl rfl isAgg45 rfl (own_at (List.mem_cons_self ..) rfl) ?_
   refine W_lenR rfl rfl runUnderlying45 rfl h138 ?_
   refine W_bin rfl rfl rfl rfl rfl ?_
   refine W_move rfl rfl rfl ?_
   cases hb142 : (decide ((r135.words.length : Int) = 1))
   ·have hm := ite_f' hb142 hm
    refine W_no rfl rfl rfl ?_
    refine W_no rfl rfl rfl ?_
    refine W_no rfl rfl rfl ?_
    refine W_no rfl rfl rfl ?_
    refine W_no rfl rfl rfl ?_
    refine W_pick rfl rfl rfl rfl ?_
    refine W_end (E_then ?_)
    refine C_cond (b := false) rfl (fun hb => Bool.noConfusion hb) (fun _ => ?_)
    refine C_skip (E_then (C_seq (C_region ?_)))
    refine W_field (o := 0) rfl rfl runUnderlying47 rfl sizeOf4 rfl rfl rfl ?_
    refine W_load rfl rfl isAgg4 rfl (own_at (List.mem_cons_of_mem _ (List.mem_cons_of_mem _ (List.mem_cons_of_mem _ (List.mem_cons_self ..)))) rfl) ?_
    refine W_assign rfl rfl rfl ?_
    refine W_end (E_then (C_seq (C_region ?_)))
    refine W_field (o := 0) rfl rfl runUnderlying47 rfl sizeOf4 rfl rfl rfl ?_
    refine W_perm (List.Perm.trans (List.Perm.cons _ (List.Perm.cons _ (List.Perm.swap _ _ _))) (List.Perm.trans (List.Perm.cons _ (List.Perm.swap _ _ _)) (List.Perm.swap _ _ _))) ?_
    refine W_store (cs := [.bool (false)]) (out := [.bool (false), v128]) rfl sizeOf4 rfl rfl rfl rfl rfl (all_cons rfl all_nil) rfl ?_
    refine W_end (E_then (C_seq (C_region ?_)))
    refine W_loadAgg rfl rfl isAgg47 sizeOf47 rfl (own_all (List.mem_cons_self ..)) rfl ?_
    refine W_loadAgg rfl rfl isAgg47 sizeOf47 rfl (own_all (List.mem_cons_of_mem _ (List.mem_cons_self ..))) rfl ?_
    obtain ⟨r143, hc144, hm⟩ := bind_some hm
    refine W_call call53 rfl rfl rfl (fun w ht => by have h := m_large_Int_DivMod_c (hm := hc144) (h130.mono hle140) h138 ht; exact h) ?_
    rintro _ H149 _ ⟨hle150, v145, v147, rfl, rfl, h146, h148⟩
    refine W_move rfl rfl rfl ?_
    refine W_extract rfl rfl rfl rfl ?_
    refine W_extract rfl rfl rfl rfl ?_
    refine W_store (cs := [.bool (r143.1.minus), v145]) (out := [.bool (r143.1.minus), v145]) rfl sizeOf47 rfl rfl rfl rfl rfl (all_cons rfl (all_cons (RdS.one1 h146) all_nil)) (over_all rfl) ?_
    refine W_end (E_then (C_seq (C_region ?_)))
    refine W_loadAgg rfl rfl isAgg47 sizeOf47 rfl (own_all (List.mem_cons_of_mem _ (List.mem_cons_of_mem _ (List.mem_cons_of_mem _ (List.mem_cons_self ..))))) rfl ?_
    refine W_loadAgg rfl rfl isAgg47 sizeOf47 rfl (own_all (List.mem_cons_of_mem _ (List.mem_cons_self ..))) rfl ?_
    obtain ⟨r151, hc152, hm⟩ := bind_some hm
    refine W_call call53 rfl rfl rfl (fun w ht => by have h := m_large_Int_DivMod_c (hm := hc152) ((h126.mono hle140).mono hle150) (h138.mono hle150) ht; exact h) ?_
    rintro _ H157 _ ⟨hle158, v153, v155, rfl, rfl, h154, h156⟩
    refine W_move rfl rfl rfl ?_
    refine W_extract rfl rfl rfl rfl ?_
    refine W_extract rfl rfl rfl rfl ?_
    refine W_perm (List.Perm.trans (List.Perm.cons _ (List.Perm.cons _ (List.Perm.swap _ _ _))) (List.Perm.trans (List.Perm.cons _ (List.Perm.swap _ _ _)) (List.Perm.swap _ _ _))) ?_
    refine W_store (cs := [.bool (r151.1.minus), v153]) (out := [.bool (r151.1.minus), v153]) rfl sizeOf47 rfl rfl rfl rfl rfl (all_cons rfl (all_cons (RdS.one1 h154) all_nil)) (over_all rfl) ?_
    refine W_end (E_then (C_seq (C_region ?_)))
    refine W_move rfl rfl rfl ?_
    refine W_move rfl rfl rfl ?_
    cases hb159 : (c127)
    ·have hm := ite_f' hb159 hm
     refine W_no rfl rfl rfl ?_
     refine W_no rfl rfl rfl ?_
     refine W_no rfl rfl rfl ?_
     refine W_no rfl rfl rfl ?_
     refine W_pick rfl rfl rfl rfl ?_
     refine W_field (o := 0) rfl rfl runUnderlying47 rfl sizeOf4 rfl rfl rfl ?_
     refine W_perm (List.Perm.swap _ _ _) ?_
     refine W_store (cs := [.bool (false)]) (out := [.bool (false), v145]) rfl sizeOf4 rfl rfl rfl rfl rfl (all_cons rfl all_nil) rfl ?_
     refine W_end (E_then (C_seq (C_region ?_)))
     refine W_loadAgg rfl rfl isAgg47 sizeOf47 rfl (own_all (List.mem_cons_self ..)) rfl ?_
     refine W_loadAgg rfl rfl isAgg47 sizeOf47 rfl (own_all (List.mem_cons_of_mem _ (List.mem_cons_self ..))) rfl ?_
     refine W_build (css := [[.bool (false), v145], [.bool (r151.1.minus), v153]]) (zs := [.bool (false), .slice none 0 0, .bool (false), .slice none 0 0]) (out := [.bool (false), v145, .bool (r151.1.minus), v153]) (places := [(0, 2), (2, 2)]) rfl rfl rfl ⟨rfl, rfl, trivial⟩ zeroValue49 rfl runUnderlying49 (fun w => by kernel_rfl) rfl ?_
     refine W_perm (List.Perm.trans (List.Perm.cons _ (List.Perm.cons _ (List.Perm.swap _ _ _))) (List.Perm.trans (List.Perm.cons _ (List.Perm.swap _ _ _)) (List.Perm.swap _ _ _))) ?_
     refine W_store (cs := [.bool (false), v145, .bool (r151.1.minus), v153]) (out := [.bool (false), v145, .bool (r151.1.minus), v153]) rfl sizeOf49 rfl rfl rfl rfl rfl (all_cons rfl (all_cons (RdS.one1 (h146.mono hle158)) (all_cons rfl (all_cons (RdS.one1 h154) all_nil)))) (over_all rfl) ?_
     refine W_end (E_then (C_ret ?_))
     obtain rfl := Option.some.inj hm
     exact endC1 (Hp.le_refl _) rfl (ResV.agg rfl isAgg49 sizeOf49 (List.mem_cons_self ..) rfl) (List.Sublist.cons _ (List.Sublist.cons _ (List.Sublist.cons _ (List.Sublist.cons _ (List.Sublist.refl _))))) (List.Perm.refl _) ⟨(Hp.le_trans (Hp.le_trans (Hp.le_trans hle132 hle140) hle150) hle158), v145, v153, rfl, rfl, (h146.mono hle158), h154⟩
    ·have hm := ite_t' hb159 hm
     refine W_field (o := 1) rfl rfl runUnderlying47 rfl sizeOf45 rfl rfl rfl ?_
     refine W_load rfl rfl isAgg45 rfl (own_at (List.mem_cons_of_mem _ (List.mem_cons_self ..)) rfl) ?_
     refine W_lenR rfl rfl runUnderlying45 rfl (h146.mono hle158) ?_
     refine W_bin rfl rfl rfl rfl rfl ?_
     refine W_pick rfl rfl rfl rfl ?_
     refine W_field (o := 0) rfl rfl runUnderlying47 rfl sizeOf4 rfl rfl rfl ?_
     refine W_perm (List.Perm.swap _ _ _) ?_
     refine W_store (cs := [.bool (decide (0 < (r143.1.words.length : Int)))]) (out := [.bool (decide (0 < (r143.1.words.length : Int))), v145]) rfl sizeOf4 rfl rfl rfl rfl rfl (all_cons rfl all_nil) rfl ?_
     refine W_end (E_then (C_seq (C_region ?_)))
     refine W_loadAgg rfl rfl isAgg47 sizeOf47 rfl (own_all (List.mem_cons_self ..)) rfl ?_
     refine W_loadAgg rfl rfl isAgg47 sizeOf47 rfl (own_all (List.mem_cons_of_mem _ (List.mem_cons_self ..))) rfl ?_
     refine W_build (css := [[.bool (decide (0 < (r143.1.words.length : Int))), v145], [.bool (r151.1.minus), v153]]) (zs := [.bool (false), .slice none 0 0, .bool (false), .slice none 0 0]) (out := [.bool (decide (0 < (r143.1.words.length : Int))), v145, .bool (r151.1.minus), v153]) (places := [(0, 2), (2, 2)]) rfl rfl rfl ⟨rfl, rfl, trivial⟩ zeroValue49 rfl runUnderlying49 (fun w => by kernel_rfl) rfl ?_
     refine W_perm (List.Perm.trans (List.Perm.cons _ (List.Perm.cons _ (List.Perm.swap _ _ _))) (List.Perm.trans (List.Perm.cons _ (List.Perm.swap _ _ _)) (List.Perm.swap _ _ _))) ?_
     refine W_store (cs := [.bool (decide (0 < (r143.1.words.length : Int))), v145, .bool (r151.1.minus), v153]) (out := [.bool (decide (0 < (r143.1.words.length : Int))), v145, .bool (r151.1.minus), v153]) rfl sizeOf49 rfl rfl rfl rfl rfl (all_cons rfl (all_cons (RdS.one1 (h146.mono hle158)) (all_cons rfl (all_cons (RdS.one1 h154) all_nil)))) (over_all rfl) ?_
     refine W_end (E_then (C_ret ?_))
     obtain rfl := Option.some.inj hm
     exact endC1 (Hp.le_refl _) rfl (ResV.agg rfl isAgg49 sizeOf49 (List.mem_cons_self ..) rfl) (List.Sublist.cons _ (List.Sublist.cons _ (List.Sublist.cons _ (List.Sublist.cons _ (List.Sublist.refl _))))) (List.Perm.refl _) ⟨(Hp.le_trans (Hp.le_trans (Hp.le_trans hle132 hle140) hle150) hle158), v145, v153, rfl, rfl, (h146.mono hle158), h154⟩
   ·have hm := ite_t' hb142 hm
    refine W_field (o := 1) rfl rfl runUnderlying47 rfl sizeOf45 rfl rfl rfl ?_
    refine W_load rfl rfl isAgg45 rfl (own_at (List.mem_cons_self ..) rfl) ?_
    obtain ⟨y160, h161, he162, hm⟩ := idx_some hm
    obtain ⟨_, rfl, hc163⟩ := (h138).elem he162
    refine W_indexS rfl rfl runUnderlying45 sizeOf80 rfl h138 rfl h161 he162 ?_
    refine W_load rfl rfl isAgg80 rfl (HCells.one hc163 0 rfl).at ?_
    refine W_bin rfl rfl rfl rfl rfl ?_
    refine W_pick rfl rfl rfl rfl ?_
    refine W_end (E_then ?_)
    refine C_cond (b := decide (y160.n = 1)) rfl (fun hb164 => ?_) (fun hb164 => ?_)
    ·have hm := ite_t' hb164 hm
     refine C_seq (C_region ?_)
     refine W_loadAgg rfl rfl isAgg47 sizeOf47 rfl (own_all (List.mem_cons_of_mem _ (List.mem_cons_of_mem _ (List.mem_cons_of_mem _ (List.mem_cons_self ..))))) rfl ?_
     refine W_loadAgg rfl rfl isAgg47 sizeOf47 rfl (own_all (List.mem_cons_of_mem _ (List.mem_cons_of_mem _ (List.mem_cons_self ..)))) rfl ?_
     refine W_build (css := [[.bool (c127), v128], [.bool (c123), v124]]) (zs := [.bool (false), .slice none 0 0, .bool (false), .slice none 0 0]) (out := [.bool (c127), v128, .bool (c123), v124]) (places := [(0, 2), (2, 2)]) rfl rfl rfl ⟨rfl, rfl, trivial⟩ zeroValue49 rfl runUnderlying49 (fun w => by kernel_rfl) rfl ?_
     refine W_perm (List.Perm.swap _ _ _) ?_
     refine W_store (cs := [.bool (c127), v128, .bool (c123), v124]) (out := [.bool (c127), v128, .bool (c123), v124]) rfl sizeOf49 rfl rfl rfl rfl rfl (all_cons rfl (all_cons (RdS.one1 (h130.mono hle140)) (all_cons rfl (all_cons (RdS.one1 (h126.mono hle140)) all_nil)))) (over_all rfl) ?_
     refine W_end (E_then (C_ret (E_ret_then ?_)))
     obtain rfl := Option.some.inj hm
     exact endC1 (Hp.le_refl _) rfl (ResV.agg rfl isAgg49 sizeOf49 (List.mem_cons_self ..) rfl) (List.Sublist.cons _ (List.Sublist.cons _ (List.Sublist.cons _ (List.Sublist.cons _ (List.Sublist.refl _))))) (List.Perm.refl _) ⟨(Hp.le_trans hle132 hle140), v128, v124, rfl, rfl, (h130.mono hle140), (h126.mono hle140)⟩
    ·have hm := ite_f' hb164 hm
     refine C_skip (E_then (C_seq (C_region ?_)))
     refine W_field (o := 0) rfl rfl runUnderlying47 rfl sizeOf4 rfl rfl rfl ?_
     refine W_load rfl rfl isAgg4 rfl (own_at (List.mem_cons_of_mem _ (List.mem_cons_of_mem _ (List.mem_cons_of_mem _ (List.mem_cons_self ..)))) rfl) ?_
     refine W_assign rfl rfl rfl ?_
     refine W_end (E_then (C_seq (C_region ?_)))
     refine W_field (o := 0) rfl rfl runUnderlying47 rfl sizeOf4 rfl rfl rfl ?_
     refine W_perm (List.Perm.trans (List.Perm.cons _ (List.Perm.cons _ (List.Perm.swap _ _ _))) (List.Perm.trans (List.Perm.cons _ (List.Perm.swap _ _ _)) (List.Perm.swap _ _ _))) ?_
     refine W_store (cs := [.bool (false)]) (out := [.bool (false), v128]) rfl sizeOf4 rfl rfl rfl rfl rfl (all_cons rfl all_nil) rfl ?_
     refine W_end (E_then (C_seq (C_region ?_)))
     refine W_loadAgg rfl rfl isAgg47 sizeOf47 rfl (own_all (List.mem_cons_self ..)) rfl ?_
     refine W_loadAgg rfl rfl isAgg47 sizeOf47 rfl (own_all (List.mem_cons_of_mem _ (List.mem_cons_self ..))) rfl ?_
     obtain ⟨r165, hc166, hm⟩ := bind_some hm
     refine W_call call53 rfl rfl rfl (fun w ht => by have h := m_large_Int_DivMod_c (hm := hc166) (h130.mono hle140) h138 ht; exact h) ?_
     rintro _ H171 _ ⟨hle172, v167, v169, rfl, rfl, h168, h170⟩
     refine W_move rfl rfl rfl ?_
     refine W_extract rfl rfl rfl rfl ?_
     refine W_extract rfl rfl rfl rfl ?_
     refine W_store (cs := [.bool (r165.1.minus), v167]) (out := [.bool (r165.1.minus), v167]) rfl sizeOf47 rfl rfl rfl rfl rfl (all_cons rfl (all_cons (RdS.one1 h168) all_nil)) (over_all rfl) ?_
     refine W_end (E_then (C_seq (C_region ?_)))
     refine W_loadAgg rfl rfl isAgg47 sizeOf47 rfl (own_all (List.mem_cons_of_mem _ (List.mem_cons_of_mem _ (List.mem_cons_of_mem _ (List.mem_cons_self ..))))) rfl ?_
     refine W_loadAgg rfl rfl isAgg47 sizeOf47 rfl (own_all (List.mem_cons_of_mem _ (List.mem_cons_self ..))) rfl ?_
     obtain ⟨r173, hc174, hm⟩ := bind_some hm
     refine W_call call53 rfl rfl rfl (fun w ht => by have h := m_large_Int_DivMod_c (hm := hc174) ((h126.mono hle140).mono hle172) (h138.mono hle172) ht; exact h) ?_
     rintro _ H179 _ ⟨hle180, v175, v177, rfl, rfl, h176, h178⟩
     refine W_move rfl rfl rfl ?_
     refine W_extract rfl rfl rfl rfl ?_
     refine W_extract rfl rfl rfl rfl ?_
     refine W_perm (List.Perm.trans (List.Perm.cons _ (List.Perm.cons _ (List.Perm.swap _ _ _))) (List.Perm.trans (List.Perm.cons _ (List.Perm.swap _ _ _)) (List.Perm.swap _ _ _))) ?_
     refine W_store (cs := [.bool (r173.1.minus), v175]) (out := [.bool (r173.1.minus), v175]) rfl sizeOf47 rfl rfl rfl rfl rfl (all_cons rfl (all_cons (RdS.one1 h176) all_nil)) (over_all rfl) ?_
     refine W_end (E_then (C_seq (C_region ?_)))
     refine W_move rfl rfl rfl ?_
     refine W_move rfl rfl rfl ?_
     cases hb181 : (c127)
     ·have hm := ite_f' hb181 hm
      refine W_no rfl rfl rfl ?_
      refine W_no rfl rfl rfl ?_
      refine W_no rfl rfl rfl ?_
      refine W_no rfl rfl rfl ?_
      refine W_pick rfl rfl rfl rfl ?_
      refine W_field (o := 0) rfl rfl runUnderlying47 rfl sizeOf4 rfl rfl rfl ?_
      refine W_perm (List.Perm.swap _ _ _) ?_
      refine W_store (cs := [.bool (false)]) (out := [.bool (false), v167]) rfl sizeOf4 rfl rfl rfl rfl rfl (all_cons rfl all_nil) rfl ?_
      refine W_end (E_then (C_seq (C_region ?_)))
      refine W_loadAgg rfl rfl isAgg47 sizeOf47 rfl (own_all (List.mem_cons_self ..)) rfl ?_
      refine W_loadAgg rfl rfl isAgg47 sizeOf47 rfl (own_all (List.mem_cons_of_mem _ (List.mem_cons_self ..))) rfl ?_
      refine W_build (css := [[.bool (false), v167], [.bool (r173.1.minus), v175]]) (zs := [.bool (false), .slice none 0 0, .bool (false), .slice none 0 0]) (out := [.bool (false), v167, .bool (r173.1.minus), v175]) (places := [(0, 2), (2, 2)]) rfl rfl rfl ⟨rfl, rfl, trivial⟩ zeroValue49 rfl runUnderlying49 (fun w => by kernel_rfl) rfl ?_
      refine W_perm (List.Perm.trans (List.Perm.cons _ (List.Perm.cons _ (List.Perm.swap _ _ _))) (List.Perm.trans (List.Perm.cons _ (List.Perm.swap _ _ _)) (List.Perm.swap _ _ _))) ?_
      refine W_store (cs := [.bool (false), v167, .bool (r173.1.minus), v175]) (out := [.bool (false), v167, .bool (r173.1.minus), v175]) rfl sizeOf49 rfl rfl rfl rfl rfl (all_cons rfl (all_cons (RdS.one1 (h168.mono hle180)) (all_cons rfl (all_cons (RdS.one1 h176) all_nil)))) (over_all rfl) ?_
      refine W_end (E_then (C_ret ?_))
      obtain rfl := Option.some.inj hm
      exact endC1 (Hp.le_refl _) rfl (ResV.agg rfl isAgg49 sizeOf49 (List.mem_cons_self ..) rfl) (List.Sublist.cons _ (List.Sublist.cons _ (List.Sublist.cons _ (List.Sublist.cons _ (List.Sublist.refl _))))) (List.Perm.refl _) ⟨(Hp.le_trans (Hp.le_trans (Hp.le_trans hle132 hle140) hle172) hle180), v167, v175, rfl, rfl, (h168.mono hle180), h176⟩
     ·have hm := ite_t' hb181 hm
      refine W_field (o := 1) rfl rfl runUnderlying47 rfl sizeOf45 rfl rfl rfl ?_
      refine W_load rfl rfl isAgg45 rfl (own_at (List.mem_cons_of_mem _ (List.mem_cons_self ..)) rfl) ?_
      refine W_lenR rfl rfl runUnderlying45 rfl (h168.mono hle180) ?_
      refine W_bin rfl rfl rfl rfl rfl ?_
      refine W_pick rfl rfl rfl rfl ?_
      refine W_field (o := 0) rfl rfl runUnderlying47 rfl sizeOf4 rfl rfl rfl ?_
      refine W_perm (List.Perm.swap _ _ _) ?_
      refine W_store (cs := [.bool (decide (0 < (r165.1.words.length : Int)))]) (out := [.bool (decide (0 < (r165.1.words.length : Int))), v167]) rfl sizeOf4 rfl rfl rfl rfl rfl (all_cons rfl all_nil) rfl ?_
      refine W_end (E_then (C_seq (C_region ?_)))
      refine W_loadAgg rfl rfl isAgg47 sizeOf47 rfl (own_all (List.mem_cons_self ..)) rfl ?_
      refine W_loadAgg rfl rfl isAgg47 sizeOf47 rfl (own_all (List.mem_cons_of_mem _ (List.mem_cons_self ..))) rfl ?_
      refine W_build (css := [[.bool (decide (0 < (r165.1.words.length : Int))), v167], [.bool (r173.1.minus), v175]]) (zs := [.bool (false), .slice none 0 0, .bool (false), .slice none 0 0]) (out := [.bool (decide (0 < (r165.1.words.length : Int))), v167, .bool (r173.1.minus), v175]) (places := [(0, 2), (2, 2)]) rfl rfl rfl ⟨rfl, rfl, trivial⟩ zeroValue49 rfl runUnderlying49 (fun w => by kernel_rfl) rfl ?_
      refine W_perm (List.Perm.trans (List.Perm.cons _ (List.Perm.cons _ (List.Perm.swap _ _ _))) (List.Perm.trans (List.Perm.cons _ (List.Perm.swap _ _ _)) (List.Perm.swap _ _ _))) ?_
      refine W_store (cs := [.bool (decide (0 < (r165.1.words.length : Int))), v167, .bool (r173.1.minus), v175]) (out := [.bool (decide (0 < (r165.1.words.length : Int))), v167, .bool (r173.1.minus), v175]) rfl sizeOf49 rfl rfl rfl rfl rfl (all_cons rfl (all_cons (RdS.one1 (h168.mono hle180)) (all_cons rfl (all_cons (RdS.one1 h176) all_nil)))) (over_all rfl) ?_
      refine W_end (E_then (C_ret ?_))
      obtain rfl := Option.some.inj hm
      exact endC1 (Hp.le_refl _) rfl (ResV.agg rfl isAgg49 sizeOf49 (List.mem_cons_self ..) rfl) (List.Sublist.cons _ (List.Sublist.cons _ (List.Sublist.cons _ (List.Sublist.cons _ (List.Sublist.refl _))))) (List.Perm.refl _) ⟨(Hp.le_trans (Hp.le_trans (Hp.le_trans hle132 hle140) hle172) hle180), v167, v175, rfl, rfl, (h168.mono hle180), h176⟩
  ·have hm := ite_t' hb134 hm
   refine W_field (o := 1) rfl rfl runUnderlying47 rfl sizeOf45 rfl rfl rfl ?_
   refine W_load rfl rfl isAgg45 rfl (own_at (List.mem_cons_of_mem _ (List.mem_cons_self ..)) rfl) ?_
   obtain ⟨y182, h183, he184, hm⟩ := idx_some hm
   obtain ⟨_, rfl, hc185⟩ := (h126).elem he184
   refine W_indexS rfl rfl runUnderlying45 sizeOf80 rfl h126 rfl h183 he184 ?_
   refine W_load rfl rfl isAgg80 rfl (HCells.one hc185 0 rfl).at ?_
   refine W_bin rfl rfl rfl rfl rfl ?_
   refine W_pick rfl rfl rfl rfl ?_
   refine W_end (E_then ?_)
   refine C_cond (b := decide (y182.n = 1)) rfl (fun hb186 => ?_) (fun hb186 => ?_)
   ·have hm := ite_t' hb186 hm
    refine C_seq (C_region ?_)
    refine W_loadAgg rfl rfl isAgg47 sizeOf47 rfl (own_all (List.mem_cons_of_mem _ (List.mem_cons_of_mem _ (List.mem_cons_self ..)))) rfl ?_
    refine W_loadAgg rfl rfl isAgg47 sizeOf47 rfl (own_all (List.mem_cons_of_mem _ (List.mem_cons_self ..))) rfl ?_
    refine W_build (css := [[.bool (c127), v128], [.bool (c123), v124]]) (zs := [.bool (false), .slice none 0 0, .bool (false), .slice none 0 0]) (out := [.bool (c127), v128, .bool (c123), v124]) (places := [(0, 2), (2, 2)]) rfl rfl rfl ⟨rfl, rfl, trivial⟩ zeroValue49 rfl runUnderlying49 (fun w => by kernel_rfl) rfl ?_
    refine W_store (cs := [.bool (c127), v128, .bool (c123), v124]) (out := [.bool (c127), v128, .bool (c123), v124]) rfl sizeOf49 rfl rfl rfl rfl rfl (all_cons rfl (all_cons (RdS.one1 h130) (all_cons rfl (all_cons (RdS.one1 h126) all_nil)))) (over_all rfl) ?_
    refine W_end (E_then (C_ret (E_ret_then ?_)))
    obtain rfl := Option.some.inj hm
    exact endC1 (Hp.le_refl _) rfl (ResV.agg rfl isAgg49 sizeOf49 (List.mem_cons_self ..) rfl) (List.Sublist.cons _ (List.Sublist.cons _ (List.Sublist.cons _ (List.Sublist.refl _)))) (List.Perm.refl _) ⟨hle132, v128, v124, rfl, rfl, h130, h126⟩
   ·have hm := ite_f' hb186 hm
    refine C_skip (E_then (C_seq (C_region ?_)))
    refine W_loadAgg rfl rfl isAgg47 sizeOf47 rfl (own_all (List.mem_cons_of_mem _ (List.mem_cons_of_mem _ (List.mem_cons_self ..)))) rfl ?_
    refine W_loadAgg rfl rfl isAgg47 sizeOf47 rfl (own_all (List.mem_cons_of_mem _ (List.mem_cons_self ..))) rfl ?_
    obtain ⟨r187, hc188, hm⟩ := bind_some hm
    refine W_call call52 rfl rfl rfl (fun w ht => by have h := m_large_Gcd_c (hm := hc188) h130 h126 ht; exact h) ?_
    rintro _ H191 _ ⟨hle192, v189, rfl, rfl, h190⟩
    refine W_alloc (cs := [.bool (false), .slice none 0 0]) rfl rfl zeroValue47 rfl (fun b193 => ?_)
    refine W_store (cs := [.bool (r187.minus), v189]) (out := [.bool (r187.minus), v189]) rfl sizeOf47 rfl rfl rfl rfl rfl (all_cons rfl (all_cons (RdS.one1 h190) all_nil)) (over_all rfl) ?_
    refine W_end (E_then (C_seq (C_seq (C_region ?_))))
    refine W_field (o := 1) rfl rfl runUnderlying47 rfl sizeOf45 rfl rfl rfl ?_
    refine W_load rfl rfl isAgg45 rfl (own_at (List.mem_cons_self ..) rfl) ?_
    refine W_lenR rfl rfl runUnderlying45 rfl h190 ?_
    refine W_bin rfl rfl rfl rfl rfl ?_
    refine W_move rfl rfl rfl ?_
    cases hb194 : (decide ((r187.words.length : Int) = 1))
    ·have hm := ite_f' hb194 hm
     refine W_no rfl rfl rfl ?_
     refine W_no rfl rfl rfl ?_
     refine W_no rfl rfl rfl ?_
     refine W_no rfl rfl rfl ?_
     refine W_no rfl rfl rfl ?_
     refine W_pick rfl rfl rfl rfl ?_
     refine W_end (E_then ?_)
     refine C_cond (b := false) rfl (fun hb => Bool.noConfusion hb) (fun _ => ?_)
     refine C_skip (E_then (C_seq (C_region ?_)))
     refine W_field (o := 0) rfl rfl runUnderlying47 rfl sizeOf4 rfl rfl rfl ?_
     refine W_load rfl rfl isAgg4 rfl (own_at (List.mem_cons_of_mem _ (List.mem_cons_of_mem _ (List.mem_cons_of_mem _ (List.mem_cons_self ..)))) rfl) ?_
     refine W_assign rfl rfl rfl ?_
     refine W_end (E_then (C_seq (C_region ?_)))
     refine W_field (o := 0) rfl rfl runUnderlying47 rfl sizeOf4 rfl rfl rfl ?_
     refine W_perm (List.Perm.trans (List.Perm.cons _ (List.Perm.cons _ (List.Perm.swap _ _ _))) (List.Perm.trans (List.Perm.cons _ (List.Perm.swap _ _ _)) (List.Perm.swap _ _ _))) ?_
     refine W_store (cs := [.bool (false)]) (out := [.bool (false), v128]) rfl sizeOf4 rfl rfl rfl rfl rfl (all_cons rfl all_nil) rfl ?_
     refine W_end (E_then (C_seq (C_region ?_)))
     refine W_loadAgg rfl rfl isAgg47 sizeOf47 rfl (own_all (List.mem_cons_self ..)) rfl ?_
     refine W_loadAgg rfl rfl isAgg47 sizeOf47 rfl (own_all (List.mem_cons_of_mem _ (List.mem_cons_self ..))) rfl ?_
     obtain ⟨r195, hc196, hm⟩ := bind_some hm
     refine W_call call53 rfl rfl rfl (fun w ht => by have h := m_large_Int_DivMod_c (hm := hc196) (h130.mono hle192) h190 ht; exact h) ?_
     rintro _ H201 _ ⟨hle202, v197, v199, rfl, rfl, h198, h200⟩
     refine W_move rfl rfl rfl ?_
     refine W_extract rfl rfl rfl rfl ?_
     refine W_extract rfl rfl rfl rfl ?_
     refine W_store (cs := [.bool (r195.1.minus), v197]) (out := [.bool (r195.1.minus), v197]) rfl sizeOf47 rfl rfl rfl rfl rfl (all_cons rfl (all_cons (RdS.one1 h198) all_nil)) (over_all rfl) ?_
     refine W_end (E_then (C_seq (C_region ?_)))
     refine W_loadAgg rfl rfl isAgg47 sizeOf47 rfl (own_all (List.mem_cons_of_mem _ (List.mem_cons_of_mem _ (List.mem_cons_of_mem _ (List.mem_cons_self ..))))) rfl ?_
     refine W_loadAgg rfl rfl isAgg47 sizeOf47 rfl (own_all (List.mem_cons_of_mem _ (List.mem_cons_self ..))) rfl ?_
     obtain ⟨r203, hc204, hm⟩ := bind_some hm
     refine W_call call53 rfl rfl rfl (fun w ht => by have h := m_large_Int_DivMod_c (hm := hc204) ((h126.mono hle192).mono hle202) (h190.mono hle202) ht; exact h) ?_
     rintro _ H209 _ ⟨hle210, v205, v207, rfl, rfl, h206, h208⟩
     refine W_move rfl rfl rfl ?_
     refine W_extract rfl rfl rfl rfl ?_
     refine W_extract rfl rfl rfl rfl ?_
     refine W_perm (List.Perm.trans (List.Perm.cons _ (List.Perm.cons _ (List.Perm.swap _ _ _))) (List.Perm.trans (List.Perm.cons _ (List.Perm.swap _ _ _)) (List.Perm.swap _ _ _))) ?_
     refine W_store (cs := [.bool (r203.1.minus), v205]) (out := [.bool (r203.1.minus), v205]) rfl sizeOf47 rfl rfl rfl rfl rfl (all_cons rfl (all_cons (RdS.one1 h206) all_nil)) (over_all rfl) ?_
     refine W_end (E_then (C_seq (C_region ?_)))
     refine W_move rfl rfl rfl ?_
     refine W_move rfl rfl rfl ?_
     cases hb211 : (c127)
     ·have hm := ite_f' hb211 hm
      refine W_no rfl rfl rfl ?_
      refine W_no rfl rfl rfl ?_
      refine W_no rfl rfl rfl ?_
      refine W_no rfl rfl rfl ?_
      refine W_pick rfl rfl rfl rfl ?_
      refine W_field (o := 0) rfl rfl runUnderlying47 rfl sizeOf4 rfl rfl rfl ?_
      refine W_perm (List.Perm.swap _ _ _) ?_
      refine W_store (cs := [.bool (false)]) (out := [.bool (false), v197]) rfl sizeOf4 rfl rfl rfl rfl rfl (all_cons rfl all_nil) rfl ?_
      refine W_end (E_then (C_seq (C_region ?_)))
      refine W_loadAgg rfl rfl isAgg47 sizeOf47 rfl (own_all (List.mem_cons_self ..)) rfl ?_
      refine W_loadAgg rfl rfl isAgg47 sizeOf47 rfl (own_all (List.mem_cons_of_mem _ (List.mem_cons_self ..))) rfl ?_
      refine W_build (css := [[.bool (false), v197], [.bool (r203.1.minus), v205]]) (zs := [.bool (false), .slice none 0 0, .bool (false), .slice none 0 0]) (out := [.bool (false), v197, .bool (r203.1.minus), v205]) (places := [(0, 2), (2, 2)]) rfl rfl rfl ⟨rfl, rfl, trivial⟩ zeroValue49 rfl runUnderlying49 (fun w => by kernel_rfl) rfl ?_
      refine W_perm (List.Perm.trans (List.Perm.cons _ (List.Perm.cons _ (List.Perm.swap _ _ _))) (List.Perm.trans (List.Perm.cons _ (List.Perm.swap _ _ _)) (List.Perm.swap _ _ _))) ?_
      refine W_store (cs := [.bool (false), v197, .bool (r203.1.minus), v205]) (out := [.bool (false), v197, .bool (r203.1.minus), v205]) rfl sizeOf49 rfl rfl rfl rfl rfl (all_cons rfl (all_cons (RdS.one1 (h198.mono hle210)) (all_cons rfl (all_cons (RdS.one1 h206) all_nil)))) (over_all rfl) ?_
      refine W_end (E_then (C_ret ?_))
      obtain rfl := Option.some.inj hm
      exact endC1 (Hp.le_refl _) rfl (ResV.agg rfl isAgg49 sizeOf49 (List.mem_cons_self ..) rfl) (List.Sublist.cons _ (List.Sublist.cons _ (List.Sublist.cons _ (List.Sublist.cons _ (List.Sublist.refl _))))) (List.Perm.refl _) ⟨(Hp.le_trans (Hp.le_trans (Hp.le_trans hle132 hle192) hle202) hle210), v197, v205, rfl, rfl, (h198.mono hle210), h206⟩
     ·have hm := ite_t' hb211 hm
      refine W_field (o := 1) rfl rfl runUnderlying47 rfl sizeOf45 rfl rfl rfl ?_
      refine W_load rfl rfl isAgg45 rfl (own_at (List.mem_cons_of_mem _ (List.mem_cons_self ..)) rfl) ?_
      refine W_lenR rfl rfl runUnderlying45 rfl (h198.mono hle210) ?_
      refine W_bin rfl rfl rfl rfl rfl ?_
      refine W_pick rfl rfl rfl rfl ?_
      refine W_field (o := 0) rfl rfl runUnderlying47 rfl sizeOf4 rfl rfl rfl ?_
      refine W_perm (List.Perm.swap _ _ _) ?_
      refine W_store (cs := [.bool (decide (0 < (r195.1.words.length : Int)))]) (out := [.bool (decide (0 < (r195.1.words.length : Int))), v197]) rfl sizeOf4 rfl rfl rfl rfl rfl (all_cons rfl all_nil) rfl ?_
      refine W_end (E_then (C_seq (C_region ?_)))
      refine W_loadAgg rfl rfl isAgg47 sizeOf47 rfl (own_all (List.mem_cons_self ..)) rfl ?_
      refine W_loadAgg rfl rfl isAgg47 sizeOf47 rfl (own_all (List.mem_cons_of_mem _ (List.mem_cons_self ..))) rfl ?_
      refine W_build (css := [[.bool (decide (0 < (r195.1.words.length : Int))), v197], [.bool (r203.1.minus), v205]]) (zs := [.bool (false), .slice none 0 0, .bool (false), .slice none 0 0]) (out := [.bool (decide (0 < (r195.1.words.length : Int))), v197, .bool (r203.1.minus), v205]) (places := [(0, 2), (2, 2)]) rfl rfl rfl ⟨rfl, rfl, trivial⟩ zeroValue49 rfl runUnderlying49 (fun w => by kernel_rfl) rfl ?_
      refine W_perm (List.Perm.trans (List.Perm.cons _ (List.Perm.cons _ (List.Perm.swap _ _ _))) (List.Perm.trans (List.Perm.cons _ (List.Perm.swap _ _ _)) (List.Perm.swap _ _ _))) ?_
      refine W_store (cs := [.bool (decide (0 < (r195.1.words.length : Int))), v197, .bool (r203.1.minus), v205]) (out := [.bool (decide (0 < (r195.1.words.length : Int))), v197, .bool (r203.1.minus), v205]) rfl sizeOf49 rfl rfl rfl rfl rfl (all_cons rfl (all_cons (RdS.one1 (h198.mono hle210)) (all_cons rfl (all_cons (RdS.one1 h206) all_nil)))) (over_all rfl) ?_
      refine W_end (E_then (C_ret ?_))
      obtain rfl := Option.some.inj hm
      exact endC1 (Hp.le_refl _) rfl (ResV.agg rfl isAgg49 sizeOf49 (List.mem_cons_self ..) rfl) (List.Sublist.cons _ (List.Sublist.cons _ (List.Sublist.cons _ (List.Sublist.cons _ (List.Sublist.refl _))))) (List.Perm.refl _) ⟨(Hp.le_trans (Hp.le_trans (Hp.le_trans hle132 hle192) hle202) hle210), v197, v205, rfl, rfl, (h198.mono hle210), h206⟩
    ·have hm := ite_t' hb194 hm
     refine W_field (o := 1) rfl rfl runUnderlying47 rfl sizeOf45 rfl rfl rfl ?_
     refine W_load rfl rfl isAgg45 rfl (own_at (List.mem_cons_self ..) rfl) ?_
     obtain ⟨y212, h213, he214, hm⟩ := idx_some hm
     obtain ⟨_, rfl, hc215⟩ := (h190).elem he214
     refine W_indexS rfl rfl runUnderlying45 sizeOf80 rfl h190 rfl h213 he214 ?_
     refine W_load rfl rfl isAgg80 rfl (HCells.one hc215 0 rfl).at ?_
     refine W_bin rfl rfl rfl rfl rfl ?_
     refine W_pick rfl rfl rfl rfl ?_
     refine W_end (E_then ?_)
     refine C_cond (b := decide (y212.n = 1)) rfl (fun hb216 => ?_) (fun hb216 => ?_)
     ·have hm := ite_t' hb216 hm
      refine C_seq (C_region ?_)
      refine W_loadAgg rfl rfl isAgg47 sizeOf47 rfl (own_all (List.mem_cons_of_mem _ (List.mem_cons_of_mem _ (List.mem_cons_of_mem _ (List.mem_cons_self ..))))) rfl ?_
      refine W_loadAgg rfl rfl isAgg47 sizeOf47 rfl (own_all (List.mem_cons_of_mem _ (List.mem_cons_of_mem _ (List.mem_cons_self ..)))) rfl ?_
      refine W_build (css := [[.bool (c127), v128], [.bool (c123), v124]]) (zs := [.bool (false), .slice none 0 0, .bool (false), .slice none 0 0]) (out := [.bool (c127), v128, .bool (c123), v124]) (places := [(0, 2), (2, 2)]) rfl rfl rfl ⟨rfl, rfl, trivial⟩ zeroValue49 rfl runUnderlying49 (fun w => by kernel_rfl) rfl ?_
      refine W_perm (List.Perm.swap _ _ _) ?_
      refine W_store (cs := [.bool (c127), v128, .bool (c123), v124]) (out := [.bool (c127), v128, .bool (c123), v124]) rfl sizeOf49 rfl rfl rfl rfl rfl (all_cons rfl (all_cons (RdS.one1 (h130.mono hle192)) (all_cons rfl (all_cons (RdS.one1 (h126.mono hle192)) all_nil)))) (over_all rfl) ?_
      refine W_end (E_then (C_ret (E_ret_then ?_)))
      obtain rfl := Option.some.inj hm
      exact endC1 (Hp.le_refl _) rfl (ResV.agg rfl isAgg49 sizeOf49 (List.mem_cons_self ..) rfl) (List.Sublist.cons _ (List.Sublist.cons _ (List.Sublist.cons _ (List.Sublist.cons _ (List.Sublist.refl _))))) (List.Perm.refl _) ⟨(Hp.le_trans hle132 hle192), v128, v124, rfl, rfl, (h130.mono hle192), (h126.mono hle192)⟩
     ·have hm := ite_f' hb216 hm
      refine C_skip (E_then (C_seq (C_region ?_)))
      refine W_field (o := 0) rfl rfl runUnderlying47 rfl sizeOf4 rfl rfl rfl ?_
      refine W_load rfl rfl isAgg4 rfl (own_at (List.mem_cons_of_mem _ (List.mem_cons_of_mem _ (List.mem_cons_of_mem _ (List.mem_cons_self ..)))) rfl) ?_
      refine W_assign rfl rfl rfl ?_
      refine W_end (E_then (C_seq (C_region ?_)))
      refine W_field (o := 0) rfl rfl runUnderlying47 rfl sizeOf4 rfl rfl rfl ?_
      refine W_perm (List.Perm.trans (List.Perm.cons _ (List.Perm.cons _ (List.Perm.swap _ _ _))) (List.Perm.trans (List.Perm.cons _ (List.Perm.swap _ _ _)) (List.Perm.swap _ _ _))) ?_
      refine W_store (cs := [.bool (false)]) (out := [.bool (false), v128]) rfl sizeOf4 rfl rfl rfl rfl rfl (all_cons rfl all_nil) rfl ?_
      refine W_end (E_then (C_seq (C_region ?_)))
      refine W_loadAgg rfl rfl isAgg47 sizeOf47 rfl (own_all (List.mem_cons_self ..)) rfl ?_
      refine W_loadAgg rfl rfl isAgg47 sizeOf47 rfl (own_all (List.mem_cons_of_mem _ (List.mem_cons_self ..))) rfl ?_
      obtain ⟨r217, hc218, hm⟩ := bind_some hm
      refine W_call call53 rfl rfl rfl (fun w ht => by have h := m_large_Int_DivMod_c (hm := hc218) (h130.mono hle192) h190 ht; exact h) ?_
      rintro _ H223 _ ⟨hle224, v219, v221, rfl, rfl, h220, h222⟩
      refine W_move rfl rfl rfl ?_
      refine W_extract rfl rfl rfl rfl ?_
      refine W_extract rfl rfl rfl rfl ?_
      refine W_store (cs := [.bool (r217.1.minus), v219]) (out := [.bool (r217.1.minus), v219]) rfl sizeOf47 rfl rfl rfl rfl rfl (all_cons rfl (all_cons (RdS.one1 h220) all_nil)) (over_all rfl) ?_
      refine W_end (E_then (C_seq (C_region ?_)))
      refine W_loadAgg rfl rfl isAgg47 sizeOf47 rfl (own_all (List.mem_cons_of_mem _ (List.mem_cons_of_mem _ (List.mem_cons_of_mem _ (List.mem_cons_self ..))))) rfl ?_
      refine W_loadAgg rfl rfl isAgg47 sizeOf47 rfl (own_all (List.mem_cons_of_mem _ (List.mem_cons_self ..))) rfl ?_
      obtain ⟨r225, hc226, hm⟩ := bind_some hm
      refine W_call call53 rfl rfl rfl (fun w ht => by have h := m_large_Int_DivMod_c (hm := hc226) ((h126.mono hle192).mono hle224) (h190.mono hle224) ht; exact h) ?_
      rintro _ H231 _ ⟨hle232, v227, v229, rfl, rfl, h228, h230⟩
      refine W_move rfl rfl rfl ?_
      refine W_extract rfl rfl rfl rfl ?_
      refine W_extract rfl rfl rfl rfl ?_
      refine W_perm (List.Perm.trans (List.Perm.cons _ (List.Perm.cons _ (List.Perm.swap _ _ _))) (List.Perm.trans (List.Perm.cons _ (List.Perm.swap _ _ _)) (List.Perm.swap _ _ _))) ?_
      refine W_store (cs := [.bool (r225.1.minus), v227]) (out := [.bool (r225.1.minus), v227]) rfl sizeOf47 rfl rfl rfl rfl rfl (all_cons rfl (all_cons (RdS.one1 h228) all_nil)) (over_all rfl) ?_
      refine W_end (E_then (C_seq (C_region ?_)))
      refine W_move rfl rfl rfl ?_
      refine W_move rfl rfl rfl ?_
      cases hb233 : (c127)
      ·have hm := ite_f' hb233 hm
       refine W_no rfl rfl rfl ?_
       refine W_no rfl rfl rfl ?_
       refine W_no rfl rfl rfl ?_
       refine W_no rfl rfl rfl ?_
       refine W_pick rfl rfl rfl rfl ?_
       refine W_field (o := 0) rfl rfl runUnderlying47 rfl sizeOf4 rfl rfl rfl ?_
       refine W_perm (List.Perm.swap _ _ _) ?_
       refine W_store (cs := [.bool (false)]) (out := [.bool (false), v219]) rfl sizeOf4 rfl rfl rfl rfl rfl (all_cons rfl all_nil) rfl ?_
       refine W_end (E_then (C_seq (C_region ?_)))
       refine W_loadAgg rfl rfl isAgg47 sizeOf47 rfl (own_all (List.mem_cons_self ..)) rfl ?_
       refine W_loadAgg rfl rfl isAgg47 sizeOf47 rfl (own_all (List.mem_cons_of_mem _ (List.mem_cons_self ..))) rfl ?_
       refine W_build (css := [[.bool (false), v219], [.bool (r225.1.minus), v227]]) (zs := [.bool (false), .slice none 0 0, .bool (false), .slice none 0 0]) (out := [.bool (false), v219, .bool (r225.1.minus), v227]) (places := [(0, 2), (2, 2)]) rfl rfl rfl ⟨rfl, rfl, trivial⟩ zeroValue49 rfl runUnderlying49 (fun w => by kernel_rfl) rfl ?_
       refine W_perm (List.Perm.trans (List.Perm.cons _ (List.Perm.cons _ (List.Perm.swap _ _ _))) (List.Perm.trans (List.Perm.cons _ (List.Perm.swap _ _ _)) (List.Perm.swap _ _ _))) ?_
       refine W_store (cs := [.bool (false), v219, .bool (r225.1.minus), v227]) (out := [.bool (false), v219, .bool (r225.1.minus), v227]) rfl sizeOf49 rfl rfl rfl rfl rfl (all_cons rfl (all_cons (RdS.one1 (h220.mono hle232)) (all_cons rfl (all_cons (RdS.one1 h228) all_nil)))) (over_all rfl) ?_
       refine W_end (E_then (C_ret ?_))
       obtain rfl := Option.some.inj hm
       exact endC1 (Hp.le_refl _) rfl (ResV.agg rfl isAgg49 sizeOf49 (List.mem_cons_self ..) rfl) (List.Sublist.cons _ (List.Sublist.cons _ (List.Sublist.cons _ (List.Sublist.cons _ (List.Sublist.refl _))))) (List.Perm.refl _) ⟨(Hp.le_trans (Hp.le_trans (Hp.le_trans hle132 hle192) hle224) hle232), v219, v227, rfl, rfl, (h220.mono hle232), h228⟩
      ·have hm := ite_t' hb233 hm
       refine W_field (o := 1) rfl rfl runUnderlying47 rfl sizeOf45 rfl rfl rfl ?_
       refine W_load rfl rfl isAgg45 rfl (own_at (List.mem_cons_of_mem _ (List.mem_cons_self ..)) rfl) ?_
       refine W_lenR rfl rfl runUnderlying45 rfl (h220.mono hle232) ?_
       refine W_bin rfl rfl rfl rfl rfl ?_
       refine W_pick rfl rfl rfl rfl ?_
       refine W_field (o := 0) rfl rfl runUnderlying47 rfl sizeOf4 rfl rfl rfl ?_
       refine W_perm (List.Perm.swap _ _ _) ?_
       refine W_store (cs := [.bool (decide (0 < (r217.1.words.length : Int)))]) (out := [.bool (decide (0 < (r217.1.words.length : Int))), v219]) rfl sizeOf4 rfl rfl rfl rfl rfl (all_cons rfl all_nil) rfl ?_
       refine W_end (E_then (C_seq (C_region ?_)))
       refine W_loadAgg rfl rfl isAgg47 sizeOf47 rfl (own_all (List.mem_cons_self ..)) rfl ?_
       refine W_loadAgg rfl rfl isAgg47 sizeOf47 rfl (own_all (List.mem_cons_of_mem _ (List.mem_cons_self ..))) rfl ?_
       refine W_build (css := [[.bool (decide (0 < (r217.1.words.length : Int))), v219], [.bool (r225.1.minus), v227]]) (zs := [.bool (false), .slice none 0 0, .bool (false), .slice none 0 0]) (out := [.bool (decide (0 < (r217.1.words.length : Int))), v219, .bool (r225.1.minus), v227]) (places := [(0, 2), (2, 2)]) rfl rfl rfl ⟨rfl, rfl, trivial⟩ zeroValue49 rfl runUnderlying49 (fun w => by kernel_rfl) rfl ?_
       refine W_perm (List.Perm.trans (List.Perm.cons _ (List.Perm.cons _ (List.Perm.swap _ _ _))) (List.Perm.trans (List.Perm.cons _ (List.Perm.swap _ _ _)) (List.Perm.swap _ _ _))) ?_
       refine W_store (cs := [.bool (decide (0 < (r217.1.words.length : Int))), v219, .bool (r225.1.minus), v227]) (out := [.bool (decide (0 < (r217.1.words.length : Int))), v219, .bool (r225.1.minus), v227]) rfl sizeOf49 rfl rfl rfl rfl rfl (all_cons rfl (all_cons (RdS.one1 (h220.mono hle232)) (all_cons rfl (all_cons (RdS.one1 h228) all_nil)))) (over_all rfl) ?_
       refine W_end (E_then (C_ret ?_))
       obtain rfl := Option.some.inj hm
       exact endC1 (Hp.le_refl _) rfl (ResV.agg rfl isAgg49 sizeOf49 (List.mem_cons_self ..) rfl) (List.Sublist.cons _ (List.Sublist.cons _ (List.Sublist.cons _ (List.Sublist.cons _ (List.Sublist.refl _))))) (List.Perm.refl _) ⟨(Hp.le_trans (Hp.le_trans (Hp.le_trans hle132 hle192) hle224) hle232), v219, v227, rfl, rfl, (h220.mono hle232), h228⟩
 ·refine C_seq (C_region ?_)
  refine W_field (o := 0) rfl rfl runUnderlying47 rfl sizeOf4 rfl rfl rfl ?_
  refine W_load rfl rfl isAgg4 rfl (own_at (List.mem_cons_of_mem _ (List.mem_cons_self ..)) rfl) ?_
  refine W_end (E_then ?_)
  refine C_cond (b := p1_d.minus) rfl (fun hb234 => ?_) (fun hb234 => ?_)
  ·have hm := ite_t' hb234 hm
   obtain ⟨r235, hc236, hm⟩ := bind_some hm
   refine C_region_tok0 3 (phiT [(fun H rs v => [] = rs ∧ .agg [.bool (p0_n.minus), v0].toArray = v), (fun H rs v => ∃ v241 : Value, [] = rs ∧ .agg [.bool (r235.minus), v241].toArray = v ∧ RdS H v241 r235.words), (fun H rs v => [] = rs ∧ .agg [.bool (p1_d.minus), v1].toArray = v)]) [[], [], []] [[], [], []] [] [0, 1, 2] Facts.mixed (by kernel_rfl) (by rfl) (by rfl) (by rfl) (by kernel_rfl) (phiT_mono ⟨eq_monoT _ _, (by rintro H1 H2 rs v hle ⟨v241, rfl, rfl, h242⟩; exact ⟨v241, rfl, rfl, (h242.mono hle)⟩), eq_monoT _ _, trivial⟩) ⟨?_, ?_, ?_, trivial⟩ ?_
   ·intro HX hX X Rest hR
    intro hU hUp
    refine W_loadAgg rfl rfl isAgg47 sizeOf47 rfl (own_all (hR _ (List.mem_cons_of_mem _ (List.mem_cons_of_mem _ (List.mem_cons_self ..))))) rfl ?_
    exact W_end (OneT_end [] (Hp.le_refl _) ⟨rfl, rfl⟩)
   ·intro HX hX X Rest hR
    rintro _ _ ⟨rfl, rfl⟩
    intro hU hUp
    refine W_call call51 rfl rfl rfl (fun w ht => by have h := m_large_Int_Neg_c (hm := hc236) (h0.mono hX) ht; exact h) ?_
    rintro _ H243 _ ⟨hle244, v241, rfl, rfl, h242⟩
    exact W_end (OneT_end [] hle244 ⟨v241, rfl, rfl, (h242)⟩)
   ·intro HX hX X Rest hR
    intro hU hUp
    refine W_loadAgg rfl rfl isAgg47 sizeOf47 rfl (own_all (hR _ (List.mem_cons_of_mem _ (List.mem_cons_self ..)))) rfl ?_
    exact W_end (OneT_end [] (Hp.le_refl _) ⟨rfl, rfl⟩)
   intro H245 hle246
   rintro _ _ ⟨rfl, rfl⟩
   rintro _ _ ⟨v241, rfl, rfl, h242⟩
   rintro _ _ ⟨rfl, rfl⟩
   obtain ⟨r247, hc248, hm⟩ := bind_some hm
   refine W_call call51 rfl rfl rfl (fun w ht => by have h := m_large_Int_Neg_c (hm := hc248) (h1.mono hle246) ht; exact h) ?_
   rintro _ H251 _ ⟨hle252, v249, rfl, rfl, h250⟩
   refine W_perm (List.Perm.trans (List.Perm.cons _ (List.Perm.swap _ _ _)) (List.Perm.swap _ _ _)) ?_
   refine W_store (cs := [.bool (r235.minus), v241]) (out := [.bool (r235.minus), v241]) rfl sizeOf47 rfl rfl rfl rfl rfl (all_cons rfl (all_cons (RdS.one1 (h242.mono hle252)) all_nil)) (over_all rfl) ?_
   refine W_perm (List.Perm.trans (List.Perm.cons _ (List.Perm.swap _ _ _)) (List.Perm.swap _ _ _)) ?_
   refine W_store (cs := [.bool (r247.minus), v249]) (out := [.bool (r247.minus), v249]) rfl sizeOf47 rfl rfl rfl rfl rfl (all_cons rfl (all_cons (RdS.one1 h250) all_nil)) (over_all rfl) ?_
   refine W_end ?_
   exact E_keepJ (J133 _ _ _ ⟨r247.minus, r247.words, r235.minus, r235.words, v249, v241, hm, h250, (h242.mono hle252), (Hp.le_trans hle246 hle252), rfl, rfl⟩) (List.Perm.trans (List.Perm.cons _ (List.Perm.swap _ _ _)) (List.Perm.swap _ _ _)) ⟨rfl, rfl, rfl, trivial⟩
  ·have hm := ite_f' hb234 hm
   refine C_skip ?_
   exact E_keepJ (J133 _ _ _ ⟨p1_d.minus, p1_d.words, p0_n.minus, p0_n.words, v1, v0, hm, h1, h0, (Hp.le_refl _), rfl, rfl⟩) (List.Perm.refl _) ⟨rfl, rfl, rfl, trivial⟩

theorem m_large_Frac_c {B : Nat} {w0 w : World} [Tabs B w0] {H : Hp} {M : List Res} {p0_n : Int} {p1_d : Int} {r : S_large_Rat} (hm : m_large_Frac p0_n p1_d = some r) (ht : St B w0 H (M) w) :
  Calls prog 24 [.int .i64 (p0_n), .int .i64 (p1_d)].toArray w (Ret B w0 fun H' M' v => H.le H' ∧ ∃ qv0 : Value, ∃ qv1 : Value, M = M' ∧ .agg [.bool (r.N.minus), qv0, .bool (r.D.minus), qv1].toArray = v ∧ RdS H' qv0 r.N.words ∧ RdS H' qv1 r.D.words) := by
 unfold m_large_Frac at hm
 refine enter func24 rfl rfl rfl ht ?_
 refine C_seq (C_region ?_)
 refine W_alloc (cs := [.bool (false), .slice none 0 0, .bool (false), .slice none 0 0]) rfl rfl zeroValue49 rfl (fun b101 => ?_)
 refine W_end (E_then (C_seq (C_region ?_)))
 refine W_move rfl rfl rfl ?_
 obtain ⟨r102, hc103, hm⟩ := bind_some hm
 refine W_call call40 rfl rfl rfl (fun w ht => by have h := m_large_Of_c (hm := hc103)  ht; exact h) ?_
 rintro _ H106 _ ⟨hle107, v104, rfl, rfl, h105⟩
 refine W_move rfl rfl rfl ?_
 obtain ⟨r108, hc109, hm⟩ := bind_some hm
 refine W_call call40 rfl rfl rfl (fun w ht => by have h := m_large_Of_c (hm := hc109)  ht; exact h) ?_
 rintro _ H112 _ ⟨hle113, v110, rfl, rfl, h111⟩
 obtain ⟨r114, hc115, hm⟩ := bind_some hm
 refine W_call call39 rfl rfl rfl (fun w ht => by have h := m_large_Ratio_c (hm := hc115) (h105.mono hle113) h111 ht; exact h) ?_
 rintro _ H120 _ ⟨hle121, v116, v118, rfl, rfl, h117, h119⟩
 refine W_store (cs := [.bool (r114.N.minus), v116, .bool (r114.D.minus), v118]) (out := [.bool (r114.N.minus), v116, .bool (r114.D.minus), v118]) rfl sizeOf49 rfl rfl rfl rfl rfl (all_cons rfl (all_cons (RdS.one1 h117) (all_cons rfl (all_cons (RdS.one1 h119) all_nil)))) (over_all rfl) ?_
 refine W_end (E_then (C_ret ?_))
 obtain rfl := Option.some.inj hm
 exact endC1 (Hp.le_refl _) rfl (ResV.agg rfl isAgg49 sizeOf49 (List.mem_cons_self ..) rfl) (List.Sublist.cons _ (List.Sublist.refl _)) (List.Perm.refl _) ⟨(Hp.le_trans (Hp.le_trans hle107 hle113) hle121), v116, v118, rfl, rfl, h117, h119⟩

theorem m_large_Rat_Text_c {B : Nat} {w0 w : World} [Tabs B w0] {H : Hp} {M : List Res} {p0_a : S_large_Rat} {v0 : Value} {v1 : Value} {r : ByteArray × Bool} (hm : m_large_Rat_Text p0_a = some r) (h0 : RdS H v0 p0_a.N.words) (h1 : RdS H v1 p0_a.D.words) (ht : St B w0 H (M) w) :
  Calls prog 38 [.agg [.bool (p0_a.N.minus), v0, .bool (p0_a.D.minus), v1].toArray].toArray w (Ret B w0 fun H' M' v => H = H' ∧ M = M' ∧ .tuple #[.string (r.1), .bool (r.2)] = v) := by
 unfold m_large_Rat_Text at hm
 refine enter func38 rfl rfl rfl ht ?_
 refine C_seq (C_region ?_)
 refine W_box (cs := [.bool (p0_a.N.minus), v0, .bool (p0_a.D.minus), v1]) rfl rfl rfl rfl (fun b101 => ?_)
 refine W_assign rfl rfl rfl ?_
 refine W_assign rfl rfl rfl ?_
 refine W_end (E_then (C_seq (C_region ?_)))
 refine W_field (o := 0) rfl rfl runUnderlying49 rfl sizeOf47 rfl rfl rfl ?_
 refine W_loadAgg (cs := [.bool (p0_a.N.minus), v0]) rfl rfl isAgg47 sizeOf47 rfl (own_part (List.mem_cons_self ..) rfl) rfl ?_
 obtain ⟨r102, hc103, hm⟩ := bind_some hm
 refine W_call call50 rfl rfl rfl (fun w ht => by have h := m_large_Int_Text_c (hm := hc103) h0 ht; exact h) ?_
 rintro _ _ _ ⟨rfl, rfl, rfl⟩
 refine W_move rfl rfl rfl ?_
 refine W_extract rfl rfl rfl rfl ?_
 refine W_extract rfl rfl rfl rfl ?_
 refine W_assign rfl rfl rfl ?_
 refine W_assign rfl rfl rfl ?_
 refine W_end (E_then (C_seq (C_seq (C_region ?_))))
 refine W_move rfl rfl rfl ?_
 refine W_un rfl rfl rfl rfl ?_
 refine W_end (E_then ?_)
 refine C_cond (b := !r102.2) rfl (fun hb104 => ?_) (fun hb104 => ?_)
 ·have hm := ite_t' hb104 hm
  refine C_seq (C_region ?_)
  refine W_assign rfl rfl rfl ?_
  refine W_assign rfl rfl rfl ?_
  refine W_end (E_then (C_ret (E_ret_then ?_)))
  obtain rfl := Option.some.inj hm
  refine E_drop (List.Sublist.cons _ (List.Sublist.refl _)) ?_
  refine E_weak (Hp.le_refl _) ?_
  exact end2 rfl rfl rfl ⟨rfl, rfl, rfl⟩
 ·have hm := ite_f' hb104 hm
  refine C_skip (E_then (C_seq (C_region ?_)))
  refine W_field (o := 2) rfl rfl runUnderlying49 rfl sizeOf47 rfl rfl rfl ?_
  refine W_loadAgg (cs := [.bool (p0_a.D.minus), v1]) rfl rfl isAgg47 sizeOf47 rfl (own_part (List.mem_cons_self ..) rfl) rfl ?_
  obtain ⟨r105, hc106, hm⟩ := bind_some hm
  refine W_call call50 rfl rfl rfl (fun w ht => by have h := m_large_Int_Text_c (hm := hc106) h1 ht; exact h) ?_
  rintro _ _ _ ⟨rfl, rfl, rfl⟩
  refine W_move rfl rfl rfl ?_
  refine W_extract rfl rfl rfl rfl ?_
  refine W_extract rfl rfl rfl rfl ?_
  refine W_assign rfl rfl rfl ?_
  refine W_assign rfl rfl rfl ?_
  refine W_end (E_then (C_seq (C_seq (C_region ?_))))
  refine W_move rfl rfl rfl ?_
  refine W_bin rfl rfl rfl rfl rfl ?_
  refine W_end (E_then ?_)
  refine C_cond (b := decide (r105.1 = (⟨#[49]⟩))) rfl (fun hb107 => ?_) (fun hb107 => ?_)
  ·have hm := ite_t' hb107 hm
   refine C_seq (C_region ?_)
   refine W_move rfl rfl rfl ?_
   refine W_move rfl rfl rfl ?_
   refine W_assign rfl rfl rfl ?_
   refine W_assign rfl rfl rfl ?_
   refine W_end (E_then (C_ret (E_ret_then ?_)))
   obtain rfl := Option.some.inj hm
   refine E_drop (List.Sublist.cons _ (List.Sublist.refl _)) ?_
   refine E_weak (Hp.le_refl _) ?_
   exact end2 rfl rfl rfl ⟨rfl, rfl, rfl⟩
  ·have hm := ite_f' hb107 hm
   refine C_skip (E_then (C_seq (C_region ?_)))
   refine W_move rfl rfl rfl ?_
   obtain ⟨hq108, hm⟩ := need_some hm
   refine W_addStr rfl rfl rfl rfl hq108 ?_
   refine W_move rfl rfl rfl ?_
   obtain ⟨hq109, hm⟩ := need_some hm
   refine W_addStr rfl rfl rfl rfl hq109 ?_
   refine W_move rfl rfl rfl ?_
   refine W_assign rfl rfl rfl ?_
   refine W_assign rfl rfl rfl ?_
   refine W_end (E_then (C_ret ?_))
   obtain rfl := Option.some.inj hm
   refine E_drop (List.Sublist.cons _ (List.Sublist.refl _)) ?_
   refine E_weak (Hp.le_refl _) ?_
   exact end2 rfl rfl rfl ⟨rfl, rfl, rfl⟩

theorem m_swing_text_c {B : Nat} {w0 w : World} [Tabs B w0] {H : Hp} {M : List Res} {p0_a : S_large_Rat} {v0 : Value} {v1 : Value} {r : ByteArray × Int} (hm : m_swing_text p0_a = some r) (h0 : RdS H v0 p0_a.N.words) (h1 : RdS H v1 p0_a.D.words) (ht : St B w0 H (M) w) :
  Calls prog 23 [.agg [.bool (p0_a.N.minus), v0, .bool (p0_a.D.minus), v1].toArray].toArray w (Ret B w0 fun H' M' v => H = H' ∧ M = M' ∧ .tuple #[.string (r.1), .int .i64 (r.2)] = v) := by
 unfold m_swing_text at hm
 refine enter func23 rfl rfl rfl ht ?_
 refine C_seq (C_region ?_)
 refine W_box (cs := [.bool (p0_a.N.minus), v0, .bool (p0_a.D.minus), v1]) rfl rfl rfl rfl (fun b101 => ?_)
 refine W_assign rfl rfl rfl ?_
 refine W_assign rfl rfl rfl ?_
 refine W_end (E_then (C_seq (C_region ?_)))
 refine W_loadAgg rfl rfl isAgg49 sizeOf49 rfl (own_all (List.mem_cons_self ..)) rfl ?_
 obtain ⟨r102, hc103, hm⟩ := bind_some hm
 refine W_call call38 rfl rfl rfl (fun w ht => by have h := m_large_Rat_Text_c (hm := hc103) h0 h1 ht; exact h) ?_
 rintro _ _ _ ⟨rfl, rfl, rfl⟩
 refine W_move rfl rfl rfl ?_
 refine W_extract rfl rfl rfl rfl ?_
 refine W_extract rfl rfl rfl rfl ?_
 refine W_assign rfl rfl rfl ?_
 refine W_assign rfl rfl rfl ?_
 refine W_end (E_then (C_seq (C_seq (C_region ?_))))
 refine W_move rfl rfl rfl ?_
 refine W_un rfl rfl rfl rfl ?_
 refine W_end (E_then ?_)
 refine C_cond (b := !r102.2) rfl (fun hb104 => ?_) (fun hb104 => ?_)
 ·have hm := ite_t' hb104 hm
  refine C_seq (C_region ?_)
  refine W_assign rfl rfl rfl ?_
  refine W_assign rfl rfl rfl ?_
  refine W_end (E_then (C_ret (E_ret_then ?_)))
  obtain rfl := Option.some.inj hm
  refine E_drop (List.Sublist.cons _ (List.Sublist.refl _)) ?_
  refine E_weak (Hp.le_refl _) ?_
  exact end2 rfl rfl rfl ⟨rfl, rfl, rfl⟩
 ·have hm := ite_f' hb104 hm
  refine C_skip (E_then (C_seq (C_region ?_)))
  refine W_move rfl rfl rfl ?_
  refine W_assign rfl rfl rfl ?_
  refine W_assign rfl rfl rfl ?_
  refine W_end (E_then (C_ret ?_))
  obtain rfl := Option.some.inj hm
  refine E_drop (List.Sublist.cons _ (List.Sublist.refl _)) ?_
  refine E_weak (Hp.le_refl _) ?_
  exact end2 rfl rfl rfl ⟨rfl, rfl, rfl⟩

theorem m_swing_Steady_c {B : Nat} {w0 w : World} [Tabs B w0] {H : Hp} {M : List Res} {p0_x : S_api_SwingIsland} {r : ByteArray × Int} (hm : m_swing_Steady p0_x = some r) (ht : St B w0 H (M) w) :
  Calls prog 8 [.agg [.int .i64 (p0_x.Inertia), .int .i64 (p0_x.Damping), .int .i64 (p0_x.Supply), .int .i64 (p0_x.Demand), .string (p0_x.Frequency)].toArray].toArray w (Ret B w0 fun H' M' v => H = H' ∧ M = M' ∧ .tuple #[.string (r.1), .int .i64 (r.2)] = v) := by
 unfold m_swing_Steady at hm
 refine enter func8 rfl rfl rfl ht ?_
 refine C_seq (C_region ?_)
 refine W_box (cs := [.int .i64 (p0_x.Inertia), .int .i64 (p0_x.Damping), .int .i64 (p0_x.Supply), .int .i64 (p0_x.Demand), .string (p0_x.Frequency)]) rfl rfl rfl rfl (fun b101 => ?_)
 refine W_assign rfl rfl rfl ?_
 refine W_assign rfl rfl rfl ?_
 refine W_end (E_then (C_seq (C_seq (C_region ?_))))
 refine W_loadAgg rfl rfl isAgg24 sizeOf24 rfl (own_all (List.mem_cons_self ..)) rfl ?_
 obtain ⟨r102, hc103, hm⟩ := bind_some hm
 refine W_call call10 rfl rfl rfl (fun w ht => by have h := m_swing_Check_c (hm := hc103)  ht; exact h) ?_
 rintro _ _ _ ⟨rfl, rfl, rfl⟩
 refine W_assign rfl rfl rfl ?_
 refine W_end (E_then (C_seq (C_region ?_)))
 refine W_move rfl rfl rfl ?_
 refine W_bin rfl rfl rfl rfl rfl ?_
 refine W_end (E_then ?_)
 refine C_cond (b := !decide (r102 = 0)) rfl (fun hb104 => ?_) (fun hb104 => ?_)
 ·have hm := ite_t' hb104 hm
  refine C_seq (C_region ?_)
  refine W_move rfl rfl rfl ?_
  refine W_assign rfl rfl rfl ?_
  refine W_assign rfl rfl rfl ?_
  refine W_end (E_then (C_ret (E_ret_then ?_)))
  obtain rfl := Option.some.inj hm
  refine E_drop (List.Sublist.cons _ (List.Sublist.refl _)) ?_
  refine E_weak (Hp.le_refl _) ?_
  exact end2 rfl rfl rfl ⟨rfl, rfl, rfl⟩
 ·have hm := ite_f' hb104 hm
  refine C_skip (E_then (C_seq (C_seq (C_region ?_))))
  refine W_field (o := 1) rfl rfl runUnderlying24 rfl sizeOf3 rfl rfl rfl ?_
  refine W_load rfl rfl isAgg3 rfl (own_at (List.mem_cons_self ..) rfl) ?_
  refine W_bin rfl rfl rfl rfl rfl ?_
  refine W_end (E_then ?_)
  refine C_cond (b := decide (p0_x.Damping = 0)) rfl (fun hb105 => ?_) (fun hb105 => ?_)
  ·have hm := ite_t' hb105 hm
   refine C_seq (C_region ?_)
   refine W_assign rfl rfl rfl ?_
   refine W_assign rfl rfl rfl ?_
   refine W_end (E_then (C_ret (E_ret_then ?_)))
   obtain rfl := Option.some.inj hm
   refine E_drop (List.Sublist.cons _ (List.Sublist.refl _)) ?_
   refine E_weak (Hp.le_refl _) ?_
   exact end2 rfl rfl rfl ⟨rfl, rfl, rfl⟩
  ·have hm := ite_f' hb105 hm
   refine C_skip (E_then (C_seq (C_region ?_)))
   refine W_field (o := 2) rfl rfl runUnderlying24 rfl sizeOf3 rfl rfl rfl ?_
   refine W_load rfl rfl isAgg3 rfl (own_at (List.mem_cons_self ..) rfl) ?_
   refine W_field (o := 3) rfl rfl runUnderlying24 rfl sizeOf3 rfl rfl rfl ?_
   refine W_load rfl rfl isAgg3 rfl (own_at (List.mem_cons_self ..) rfl) ?_
   refine W_bin rfl rfl rfl rfl rfl ?_
   refine W_field (o := 1) rfl rfl runUnderlying24 rfl sizeOf3 rfl rfl rfl ?_
   refine W_load rfl rfl isAgg3 rfl (own_at (List.mem_cons_self ..) rfl) ?_
   obtain ⟨r106, hc107, hm⟩ := bind_some hm
   refine W_call call24 rfl rfl rfl (fun w ht => by have h := m_large_Frac_c (hm := hc107)  ht; exact h) ?_
   rintro _ H112 _ ⟨hle113, v108, v110, rfl, rfl, h109, h111⟩
   obtain ⟨r114, hc115, hm⟩ := bind_some hm
   refine W_call call23 rfl rfl rfl (fun w ht => by have h := m_swing_text_c (hm := hc115) h109 h111 ht; exact h) ?_
   rintro _ _ _ ⟨rfl, rfl, rfl⟩
   refine W_extract rfl rfl rfl rfl ?_
   refine W_extract rfl rfl rfl rfl ?_
   refine W_assign rfl rfl rfl ?_
   refine W_assign rfl rfl rfl ?_
   refine W_end (E_then (C_ret ?_))
   obtain rfl := Option.some.inj hm
   refine E_drop (List.Sublist.cons _ (List.Sublist.refl _)) ?_
   refine E_weak hle113 ?_
   exact end2 rfl rfl rfl ⟨rfl, rfl, rfl⟩

theorem m_large_Parse_c {B : Nat} {w0 w : World} [Tabs B w0] {H : Hp} {M : List Res} {p0_r : ByteArray} {r : S_large_Rat} (hm : m_large_Parse p0_r = some r) (ht : St B w0 H (M) w) :
  Calls prog 29 [.string (p0_r)].toArray w (Ret B w0 fun H' M' v => H.le H' ∧ ∃ qv0 : Value, ∃ qv1 : Value, M = M' ∧ .agg [.bool (r.N.minus), qv0, .bool (r.D.minus), qv1].toArray = v ∧ RdS H' qv0 r.N.words ∧ RdS H' qv1 r.D.words) := by
 unfold m_large_Parse at hm
 refine enter func29 rfl rfl rfl ht ?_
 refine C_seq (C_region ?_)
 refine W_alloc (cs := [.bool (false), .slice none 0 0, .bool (false), .slice none 0 0]) rfl rfl zeroValue49 rfl (fun b101 => ?_)
 refine W_end (E_then (C_seq (C_region ?_)))
 refine W_move rfl rfl rfl ?_
 obtain ⟨r102, hc103, hm⟩ := bind_some hm
 refine W_call call42 rfl rfl rfl (fun w ht => by have h := m_strings_Cut_c (hm := hc103)  ht; exact h) ?_
 rintro _ _ _ ⟨rfl, rfl, rfl⟩
 refine W_move rfl rfl rfl ?_
 refine W_extract rfl rfl rfl rfl ?_
 refine W_extract rfl rfl rfl rfl ?_
 refine W_extract rfl rfl rfl rfl ?_
 refine W_assign rfl rfl rfl ?_
 refine W_assign rfl rfl rfl ?_
 refine W_assign rfl rfl rfl ?_
 refine W_end (E_then (C_seq (C_seq (C_region ?_))))
 refine W_move rfl rfl rfl ?_
 refine W_un rfl rfl rfl rfl ?_
 refine W_end (E_then ?_)
 refine C_cond (b := !r102.2.2) rfl (fun hb104 => ?_) (fun hb104 => ?_)
 ·have hm := ite_t' hb104 hm
  refine C_seq (C_region ?_)
  refine W_move rfl rfl rfl ?_
  obtain ⟨r105, hc106, hm⟩ := bind_some hm
  refine W_call call45 rfl rfl rfl (fun w ht => by have h := m_large_Read_c (hm := hc106)  ht; exact h) ?_
  rintro _ H109 _ ⟨hle110, v107, rfl, rfl, h108⟩
  obtain ⟨r111, hc112, hm⟩ := bind_some hm
  refine W_call call40 rfl rfl rfl (fun w ht => by have h := m_large_Of_c (hm := hc112)  ht; exact h) ?_
  rintro _ H115 _ ⟨hle116, v113, rfl, rfl, h114⟩
  refine W_build (css := [[.bool (r105.minus), v107], [.bool (r111.minus), v113]]) (zs := [.bool (false), .slice none 0 0, .bool (false), .slice none 0 0]) (out := [.bool (r105.minus), v107, .bool (r111.minus), v113]) (places := [(0, 2), (2, 2)]) rfl rfl rfl ⟨rfl, rfl, trivial⟩ zeroValue49 rfl runUnderlying49 (fun w => by kernel_rfl) rfl ?_
  refine W_store (cs := [.bool (r105.minus), v107, .bool (r111.minus), v113]) (out := [.bool (r105.minus), v107, .bool (r111.minus), v113]) rfl sizeOf49 rfl rfl rfl rfl rfl (all_cons rfl (all_cons (RdS.one1 (h108.mono hle116)) (all_cons rfl (all_cons (RdS.one1 h114) all_nil)))) (over_all rfl) ?_
  refine W_end (E_then (C_ret (E_ret_then ?_)))
  obtain rfl := Option.some.inj hm
  exact endC1 (Hp.le_refl _) rfl (ResV.agg rfl isAgg49 sizeOf49 (List.mem_cons_self ..) rfl) (List.Sublist.cons _ (List.Sublist.refl _)) (List.Perm.refl _) ⟨(Hp.le_trans hle110 hle116), v107, v113, rfl, rfl, (h108.mono hle116), h114⟩
 ·have hm := ite_f' hb104 hm
  refine C_skip (E_then (C_seq (C_region ?_)))
  refine W_move rfl rfl rfl ?_
  obtain ⟨r117, hc118, hm⟩ := bind_some hm
  refine W_call call45 rfl rfl rfl (fun w ht => by have h := m_large_Read_c (hm := hc118)  ht; exact h) ?_
  rintro _ H121 _ ⟨hle122, v119, rfl, rfl, h120⟩
  refine W_move rfl rfl rfl ?_
  obtain ⟨r123, hc124, hm⟩ := bind_some hm
  refine W_call call45 rfl rfl rfl (fun w ht => by have h := m_large_Read_c (hm := hc124)  ht; exact h) ?_
  rintro _ H127 _ ⟨hle128, v125, rfl, rfl, h126⟩
  refine W_build (css := [[.bool (r117.minus), v119], [.bool (r123.minus), v125]]) (zs := [.bool (false), .slice none 0 0, .bool (false), .slice none 0 0]) (out := [.bool (r117.minus), v119, .bool (r123.minus), v125]) (places := [(0, 2), (2, 2)]) rfl rfl rfl ⟨rfl, rfl, trivial⟩ zeroValue49 rfl runUnderlying49 (fun w => by kernel_rfl) rfl ?_
  refine W_store (cs := [.bool (r117.minus), v119, .bool (r123.minus), v125]) (out := [.bool (r117.minus), v119, .bool (r123.minus), v125]) rfl sizeOf49 rfl rfl rfl rfl rfl (all_cons rfl (all_cons (RdS.one1 (h120.mono hle128)) (all_cons rfl (all_cons (RdS.one1 h126) all_nil)))) (over_all rfl) ?_
  refine W_end (E_then (C_ret ?_))
  obtain rfl := Option.some.inj hm
  exact endC1 (Hp.le_refl _) rfl (ResV.agg rfl isAgg49 sizeOf49 (List.mem_cons_self ..) rfl) (List.Sublist.cons _ (List.Sublist.refl _)) (List.Perm.refl _) ⟨(Hp.le_trans hle122 hle128), v119, v125, rfl, rfl, (h120.mono hle128), h126⟩

theorem m_large_Whole_c {B : Nat} {w0 w : World} [Tabs B w0] {H : Hp} {M : List Res} {p0_n : Int} {r : S_large_Rat} (hm : m_large_Whole p0_n = some r) (ht : St B w0 H (M) w) :
  Calls prog 36 [.int .i64 (p0_n)].toArray w (Ret B w0 fun H' M' v => H.le H' ∧ ∃ qv0 : Value, ∃ qv1 : Value, M = M' ∧ .agg [.bool (r.N.minus), qv0, .bool (r.D.minus), qv1].toArray = v ∧ RdS H' qv0 r.N.words ∧ RdS H' qv1 r.D.words) := by
 unfold m_large_Whole at hm
 refine enter func36 rfl rfl rfl ht ?_
 refine C_seq (C_region ?_)
 refine W_alloc (cs := [.bool (false), .slice none 0 0, .bool (false), .slice none 0 0]) rfl rfl zeroValue49 rfl (fun b101 => ?_)
 refine W_end (E_then (C_seq (C_region ?_)))
 refine W_move rfl rfl rfl ?_
 obtain ⟨r102, hc103, hm⟩ := bind_some hm
 refine W_call call40 rfl rfl rfl (fun w ht => by have h := m_large_Of_c (hm := hc103)  ht; exact h) ?_
 rintro _ H106 _ ⟨hle107, v104, rfl, rfl, h105⟩
 obtain ⟨r108, hc109, hm⟩ := bind_some hm
 refine W_call call40 rfl rfl rfl (fun w ht => by have h := m_large_Of_c (hm := hc109)  ht; exact h) ?_
 rintro _ H112 _ ⟨hle113, v110, rfl, rfl, h111⟩
 refine W_build (css := [[.bool (r102.minus), v104], [.bool (r108.minus), v110]]) (zs := [.bool (false), .slice none 0 0, .bool (false), .slice none 0 0]) (out := [.bool (r102.minus), v104, .bool (r108.minus), v110]) (places := [(0, 2), (2, 2)]) rfl rfl rfl ⟨rfl, rfl, trivial⟩ zeroValue49 rfl runUnderlying49 (fun w => by kernel_rfl) rfl ?_
 refine W_store (cs := [.bool (r102.minus), v104, .bool (r108.minus), v110]) (out := [.bool (r102.minus), v104, .bool (r108.minus), v110]) rfl sizeOf49 rfl rfl rfl rfl rfl (all_cons rfl (all_cons (RdS.one1 (h105.mono hle113)) (all_cons rfl (all_cons (RdS.one1 h111) all_nil)))) (over_all rfl) ?_
 refine W_end (E_then (C_ret ?_))
 obtain rfl := Option.some.inj hm
 exact endC1 (Hp.le_refl _) rfl (ResV.agg rfl isAgg49 sizeOf49 (List.mem_cons_self ..) rfl) (List.Sublist.cons _ (List.Sublist.refl _)) (List.Perm.refl _) ⟨(Hp.le_trans hle107 hle113), v104, v110, rfl, rfl, (h105.mono hle113), h111⟩

theorem m_large_Rat_Mul_c {B : Nat} {w0 w : World} [Tabs B w0] {H : Hp} {M : List Res} {p0_a : S_large_Rat} {p1_b : S_large_Rat} {v0 : Value} {v1 : Value} {v2 : Value} {v3 : Value} {r : S_large_Rat} (hm : m_large_Rat_Mul p0_a p1_b = some r) (h0 : RdS H v0 p0_a.N.words) (h1 : RdS H v1 p0_a.D.words) (h2 : RdS H v2 p1_b.N.words) (h3 : RdS H v3 p1_b.D.words) (ht : St B w0 H (M) w) :
  Calls prog 34 [.agg [.bool (p0_a.N.minus), v0, .bool (p0_a.D.minus), v1].toArray, .agg [.bool (p1_b.N.minus), v2, .bool (p1_b.D.minus), v3].toArray].toArray w (Ret B w0 fun H' M' v => H.le H' ∧ ∃ qv0 : Value, ∃ qv1 : Value, M = M' ∧ .agg [.bool (r.N.minus), qv0, .bool (r.D.minus), qv1].toArray = v ∧ RdS H' qv0 r.N.words ∧ RdS H' qv1 r.D.words) := by
 unfold m_large_Rat_Mul at hm
 refine enter func34 rfl rfl rfl ht ?_
 refine C_seq (C_region ?_)
 refine W_box (cs := [.bool (p0_a.N.minus), v0, .bool (p0_a.D.minus), v1]) rfl rfl rfl rfl (fun b101 => ?_)
 refine W_box (cs := [.bool (p1_b.N.minus), v2, .bool (p1_b.D.minus), v3]) rfl rfl rfl rfl (fun b102 => ?_)
 refine W_alloc (cs := [.bool (false), .slice none 0 0, .bool (false), .slice none 0 0]) rfl rfl zeroValue49 rfl (fun b103 => ?_)
 refine W_end (E_then (C_seq ?_))
 obtain ⟨r104, hc105, hm⟩ := bind_some hm
 refine C_region_tok0 9 (phiT [(fun H rs v => [] = rs ∧ .pointer (some ⟨b101, 0, none⟩) = v), (fun H rs v => [] = rs ∧ .agg [.bool (p0_a.N.minus), v0].toArray = v), (fun H rs v => [] = rs ∧ .pointer (some ⟨b102, 0, none⟩) = v), (fun H rs v => [] = rs ∧ .agg [.bool (p1_b.N.minus), v2].toArray = v), (fun H rs v => ∃ v110 : Value, [] = rs ∧ .agg [.bool (r104.minus), v110].toArray = v ∧ RdS H v110 r104.words), (fun H rs v => [] = rs ∧ .pointer (some ⟨b101, 2, none⟩) = v), (fun H rs v => [] = rs ∧ .agg [.bool (p0_a.D.minus), v1].toArray = v), (fun H rs v => [] = rs ∧ .pointer (some ⟨b102, 2, none⟩) = v), (fun H rs v => [] = rs ∧ .agg [.bool (p1_b.D.minus), v3].toArray = v)]) [[], [], [], [], [], [], [], [], []] [[], [], [], [], [], [], [], [], []] [] [0, 1, 2, 3, 4, 5, 6, 7, 8] Facts.mixed (by kernel_rfl) (by rfl) (by rfl) (by rfl) (by kernel_rfl) (phiT_mono ⟨eq_monoT _ _, eq_monoT _ _, eq_monoT _ _, eq_monoT _ _, (by rintro H1 H2 rs v hle ⟨v110, rfl, rfl, h111⟩; exact ⟨v110, rfl, rfl, (h111.mono hle)⟩), eq_monoT _ _, eq_monoT _ _, eq_monoT _ _, eq_monoT _ _, trivial⟩) ⟨?_, ?_, ?_, ?_, ?_, ?_, ?_, ?_, ?_, trivial⟩ ?_
 ·intro HX hX X Rest hR
  intro hU hUp
  refine W_field (o := 0) rfl rfl runUnderlying49 rfl sizeOf47 rfl rfl rfl ?_
  exact W_end (OneT_end [] (Hp.le_refl _) ⟨rfl, rfl⟩)
 ·intro HX hX X Rest hR
  rintro _ _ ⟨rfl, rfl⟩
  intro hU hUp
  refine W_loadAgg (cs := [.bool (p0_a.N.minus), v0]) rfl rfl isAgg47 sizeOf47 rfl (own_part (hR _ (List.mem_cons_of_mem _ (List.mem_cons_of_mem _ (List.mem_cons_self ..)))) rfl) rfl ?_
  exact W_end (OneT_end [] (Hp.le_refl _) ⟨rfl, rfl⟩)
 ·intro HX hX X Rest hR
  intro hU hUp
  refine W_field (o := 0) rfl rfl runUnderlying49 rfl sizeOf47 rfl rfl rfl ?_
  exact W_end (OneT_end [] (Hp.le_refl _) ⟨rfl, rfl⟩)
 ·intro HX hX X Rest hR
  rintro _ _ ⟨rfl, rfl⟩
  intro hU hUp
  refine W_loadAgg (cs := [.bool (p1_b.N.minus), v2]) rfl rfl isAgg47 sizeOf47 rfl (own_part (hR _ (List.mem_cons_of_mem _ (List.mem_cons_self ..))) rfl) rfl ?_
  exact W_end (OneT_end [] (Hp.le_refl _) ⟨rfl, rfl⟩)
 ·intro HX hX X Rest hR
  rintro _ _ ⟨rfl, rfl⟩
  rintro _ _ ⟨rfl, rfl⟩
  intro hU hUp
  refine W_call call47 rfl rfl rfl (fun w ht => by have h := m_large_Int_Mul_c (hm := hc105) (h0.mono hX) (h2.mono hX) ht; exact h) ?_
  rintro _ H112 _ ⟨hle113, v110, rfl, rfl, h111⟩
  exact W_end (OneT_end [] hle113 ⟨v110, rfl, rfl, (h111)⟩)
 ·intro HX hX X Rest hR
  intro hU hUp
  refine W_field (o := 2) rfl rfl runUnderlying49 rfl sizeOf47 rfl rfl rfl ?_
  exact W_end (OneT_end [] (Hp.le_refl _) ⟨rfl, rfl⟩)
 ·intro HX hX X Rest hR
  rintro _ _ ⟨rfl, rfl⟩
  intro hU hUp
  refine W_loadAgg (cs := [.bool (p0_a.D.minus), v1]) rfl rfl isAgg47 sizeOf47 rfl (own_part (hR _ (List.mem_cons_of_mem _ (List.mem_cons_of_mem _ (List.mem_cons_self ..)))) rfl) rfl ?_
  exact W_end (OneT_end [] (Hp.le_refl _) ⟨rfl, rfl⟩)
 ·intro HX hX X Rest hR
  intro hU hUp
  refine W_field (o := 2) rfl rfl runUnderlying49 rfl sizeOf47 rfl rfl rfl ?_
  exact W_end (OneT_end [] (Hp.le_refl _) ⟨rfl, rfl⟩)
 ·intro HX hX X Rest hR
  rintro _ _ ⟨rfl, rfl⟩
  intro hU hUp
  refine W_loadAgg (cs := [.bool (p1_b.D.minus), v3]) rfl rfl isAgg47 sizeOf47 rfl (own_part (hR _ (List.mem_cons_of_mem _ (List.mem_cons_self ..))) rfl) rfl ?_
  exact W_end (OneT_end [] (Hp.le_refl _) ⟨rfl, rfl⟩)
 intro H114 hle115
 rintro _ _ ⟨rfl, rfl⟩
 rintro _ _ ⟨rfl, rfl⟩
 rintro _ _ ⟨rfl, rfl⟩
 rintro _ _ ⟨rfl, rfl⟩
 rintro _ _ ⟨v110, rfl, rfl, h111⟩
 rintro _ _ ⟨rfl, rfl⟩
 rintro _ _ ⟨rfl, rfl⟩
 rintro _ _ ⟨rfl, rfl⟩
 rintro _ _ ⟨rfl, rfl⟩
 obtain ⟨r116, hc117, hm⟩ := bind_some hm
 refine W_call call47 rfl rfl rfl (fun w ht => by have h := m_large_Int_Mul_c (hm := hc117) (h1.mono hle115) (h3.mono hle115) ht; exact h) ?_
 rintro _ H120 _ ⟨hle121, v118, rfl, rfl, h119⟩
 obtain ⟨r122, hc123, hm⟩ := bind_some hm
 refine W_call call39 rfl rfl rfl (fun w ht => by have h := m_large_Ratio_c (hm := hc123) (h111.mono hle121) h119 ht; exact h) ?_
 rintro _ H128 _ ⟨hle129, v124, v126, rfl, rfl, h125, h127⟩
 refine W_store (cs := [.bool (r122.N.minus), v124, .bool (r122.D.minus), v126]) (out := [.bool (r122.N.minus), v124, .bool (r122.D.minus), v126]) rfl sizeOf49 rfl rfl rfl rfl rfl (all_cons rfl (all_cons (RdS.one1 h125) (all_cons rfl (all_cons (RdS.one1 h127) all_nil)))) (over_all rfl) ?_
 refine W_end (E_then (C_ret ?_))
 obtain rfl := Option.some.inj hm
 exact endC1 (Hp.le_refl _) rfl (ResV.agg rfl isAgg49 sizeOf49 (List.mem_cons_self ..) rfl) (List.Sublist.cons _ (List.Sublist.cons _ (List.Sublist.cons _ (List.Sublist.refl _)))) (List.Perm.refl _) ⟨(Hp.le_trans (Hp.le_trans hle115 hle121) hle129), v124, v126, rfl, rfl, h125, h127⟩

theorem m_large_Rat_Neg_c {B : Nat} {w0 w : World} [Tabs B w0] {H : Hp} {M : List Res} {p0_a : S_large_Rat} {v0 : Value} {v1 : Value} {r : S_large_Rat} (hm : m_large_Rat_Neg p0_a = some r) (h0 : RdS H v0 p0_a.N.words) (h1 : RdS H v1 p0_a.D.words) (ht : St B w0 H (M) w) :
  Calls prog 49 [.agg [.bool (p0_a.N.minus), v0, .bool (p0_a.D.minus), v1].toArray].toArray w (Ret B w0 fun H' M' v => H.le H' ∧ ∃ qv0 : Value, ∃ qv1 : Value, M = M' ∧ .agg [.bool (r.N.minus), qv0, .bool (r.D.minus), qv1].toArray = v ∧ RdS H' qv0 r.N.words ∧ RdS H' qv1 r.D.words) := by
 unfold m_large_Rat_Neg at hm
 refine enter func49 rfl rfl rfl ht ?_
 refine C_seq (C_region ?_)
 refine W_box (cs := [.bool (p0_a.N.minus), v0, .bool (p0_a.D.minus), v1]) rfl rfl rfl rfl (fun b101 => ?_)
 refine W_alloc (cs := [.bool (false), .slice none 0 0, .bool (false), .slice none 0 0]) rfl rfl zeroValue49 rfl (fun b102 => ?_)
 refine W_end (E_then (C_seq ?_))
 obtain ⟨r103, hc104, hm⟩ := bind_some hm
 refine C_region_tok0 5 (phiT [(fun H rs v => [] = rs ∧ .pointer (some ⟨b101, 0, none⟩) = v), (fun H rs v => [] = rs ∧ .agg [.bool (p0_a.N.minus), v0].toArray = v), (fun H rs v => ∃ v109 : Value, [] = rs ∧ .agg [.bool (r103.minus), v109].toArray = v ∧ RdS H v109 r103.words), (fun H rs v => [] = rs ∧ .pointer (some ⟨b101, 2, none⟩) = v), (fun H rs v => [] = rs ∧ .agg [.bool (p0_a.D.minus), v1].toArray = v)]) [[], [], [], [], []] [[], [], [], [], []] [] [0, 1, 2, 3, 4] Facts.mixed (by kernel_rfl) (by rfl) (by rfl) (by rfl) (by kernel_rfl) (phiT_mono ⟨eq_monoT _ _, eq_monoT _ _, (by rintro H1 H2 rs v hle ⟨v109, rfl, rfl, h110⟩; exact ⟨v109, rfl, rfl, (h110.mono hle)⟩), eq_monoT _ _, eq_monoT _ _, trivial⟩) ⟨?_, ?_, ?_, ?_, ?_, trivial⟩ ?_
 ·intro HX hX X Rest hR
  intro hU hUp
  refine W_field (o := 0) rfl rfl runUnderlying49 rfl sizeOf47 rfl rfl rfl ?_
  exact W_end (OneT_end [] (Hp.le_refl _) ⟨rfl, rfl⟩)
 ·intro HX hX X Rest hR
  rintro _ _ ⟨rfl, rfl⟩
  intro hU hUp
  refine W_loadAgg (cs := [.bool (p0_a.N.minus), v0]) rfl rfl isAgg47 sizeOf47 rfl (own_part (hR _ (List.mem_cons_of_mem _ (List.mem_cons_self ..))) rfl) rfl ?_
  exact W_end (OneT_end [] (Hp.le_refl _) ⟨rfl, rfl⟩)
 ·intro HX hX X Rest hR
  rintro _ _ ⟨rfl, rfl⟩
  intro hU hUp
  refine W_call call51 rfl rfl rfl (fun w ht => by have h := m_large_Int_Neg_c (hm := hc104) (h0.mono hX) ht; exact h) ?_
  rintro _ H111 _ ⟨hle112, v109, rfl, rfl, h110⟩
  exact W_end (OneT_end [] hle112 ⟨v109, rfl, rfl, (h110)⟩)
 ·intro HX hX X Rest hR
  intro hU hUp
  refine W_field (o := 2) rfl rfl runUnderlying49 rfl sizeOf47 rfl rfl rfl ?_
  exact W_end (OneT_end [] (Hp.le_refl _) ⟨rfl, rfl⟩)
 ·intro HX hX X Rest hR
  rintro _ _ ⟨rfl, rfl⟩
  intro hU hUp
  refine W_loadAgg (cs := [.bool (p0_a.D.minus), v1]) rfl rfl isAgg47 sizeOf47 rfl (own_part (hR _ (List.mem_cons_of_mem _ (List.mem_cons_self ..))) rfl) rfl ?_
  exact W_end (OneT_end [] (Hp.le_refl _) ⟨rfl, rfl⟩)
 intro H113 hle114
 rintro _ _ ⟨rfl, rfl⟩
 rintro _ _ ⟨rfl, rfl⟩
 rintro _ _ ⟨v109, rfl, rfl, h110⟩
 rintro _ _ ⟨rfl, rfl⟩
 rintro _ _ ⟨rfl, rfl⟩
 refine W_build (css := [[.bool (r103.minus), v109], [.bool (p0_a.D.minus), v1]]) (zs := [.bool (false), .slice none 0 0, .bool (false), .slice none 0 0]) (out := [.bool (r103.minus), v109, .bool (p0_a.D.minus), v1]) (places := [(0, 2), (2, 2)]) rfl rfl rfl ⟨rfl, rfl, trivial⟩ zeroValue49 rfl runUnderlying49 (fun w => by kernel_rfl) rfl ?_
 refine W_store (cs := [.bool (r103.minus), v109, .bool (p0_a.D.minus), v1]) (out := [.bool (r103.minus), v109, .bool (p0_a.D.minus), v1]) rfl sizeOf49 rfl rfl rfl rfl rfl (all_cons rfl (all_cons (RdS.one1 h110) (all_cons rfl (all_cons (RdS.one1 (h1.mono hle114)) all_nil)))) (over_all rfl) ?_
 refine W_end (E_then (C_ret ?_))
 obtain rfl := Option.some.inj hm
 exact endC1 (Hp.le_refl _) rfl (ResV.agg rfl isAgg49 sizeOf49 (List.mem_cons_self ..) rfl) (List.Sublist.cons _ (List.Sublist.cons _ (List.Sublist.refl _))) (List.Perm.refl _) ⟨hle114, v109, v1, rfl, rfl, h110, (h1.mono hle114)⟩

theorem m_large_Rat_Add_c {B : Nat} {w0 w : World} [Tabs B w0] {H : Hp} {M : List Res} {p0_a : S_large_Rat} {p1_b : S_large_Rat} {v0 : Value} {v1 : Value} {v2 : Value} {v3 : Value} {r : S_large_Rat} (hm : m_large_Rat_Add p0_a p1_b = some r) (h0 : RdS H v0 p0_a.N.words) (h1 : RdS H v1 p0_a.D.words) (h2 : RdS H v2 p1_b.N.words) (h3 : RdS H v3 p1_b.D.words) (ht : St B w0 H (M) w) :
  Calls prog 31 [.agg [.bool (p0_a.N.minus), v0, .bool (p0_a.D.minus), v1].toArray, .agg [.bool (p1_b.N.minus), v2, .bool (p1_b.D.minus), v3].toArray].toArray w (Ret B w0 fun H' M' v => H.le H' ∧ ∃ qv0 : Value, ∃ qv1 : Value, M = M' ∧ .agg [.bool (r.N.minus), qv0, .bool (r.D.minus), qv1].toArray = v ∧ RdS H' qv0 r.N.words ∧ RdS H' qv1 r.D.words) := by
 unfold m_large_Rat_Add at hm
 refine enter func31 rfl rfl rfl ht ?_
 refine C_seq (C_region ?_)
 refine W_box (cs := [.bool (p0_a.N.minus), v0, .bool (p0_a.D.minus), v1]) rfl rfl rfl rfl (fun b101 => ?_)
 refine W_box (cs := [.bool (p1_b.N.minus), v2, .bool (p1_b.D.minus), v3]) rfl rfl rfl rfl (fun b102 => ?_)
 refine W_alloc (cs := [.bool (false), .slice none 0 0, .bool (false), .slice none 0 0]) rfl rfl zeroValue49 rfl (fun b103 => ?_)
 refine W_end (E_then (C_seq ?_))
 obtain ⟨r104, hc105, hm⟩ := bind_some hm
 obtain ⟨r110, hc111, hm⟩ := bind_some hm
 obtain ⟨r116, hc117, hm⟩ := bind_some hm
 refine C_region_tok0 15 (phiT [(fun H rs v => [] = rs ∧ .pointer (some ⟨b101, 0, none⟩) = v), (fun H rs v => [] = rs ∧ .agg [.bool (p0_a.N.minus), v0].toArray = v), (fun H rs v => [] = rs ∧ .pointer (some ⟨b102, 2, none⟩) = v), (fun H rs v => [] = rs ∧ .agg [.bool (p1_b.D.minus), v3].toArray = v), (fun H rs v => ∃ v122 : Value, [] = rs ∧ .agg [.bool (r104.minus), v122].toArray = v ∧ RdS H v122 r104.words), (fun H rs v => [] = rs ∧ .pointer (some ⟨b102, 0, none⟩) = v), (fun H rs v => [] = rs ∧ .agg [.bool (p1_b.N.minus), v2].toArray = v), (fun H rs v => [] = rs ∧ .pointer (some ⟨b101, 2, none⟩) = v), (fun H rs v => [] = rs ∧ .agg [.bool (p0_a.D.minus), v1].toArray = v), (fun H rs v => ∃ v126 : Value, [] = rs ∧ .agg [.bool (r110.minus), v126].toArray = v ∧ RdS H v126 r110.words), (fun H rs v => ∃ v130 : Value, [] = rs ∧ .agg [.bool (r116.minus), v130].toArray = v ∧ RdS H v130 r116.words), (fun H rs v => [] = rs ∧ .pointer (some ⟨b101, 2, none⟩) = v), (fun H rs v => [] = rs ∧ .agg [.bool (p0_a.D.minus), v1].toArray = v), (fun H rs v => [] = rs ∧ .pointer (some ⟨b102, 2, none⟩) = v), (fun H rs v => [] = rs ∧ .agg [.bool (p1_b.D.minus), v3].toArray = v)]) [[], [], [], [], [], [], [], [], [], [], [], [], [], [], []] [[], [], [], [], [], [], [], [], [], [], [], [], [], [], []] [] [0, 1, 2, 3, 4, 5, 6, 7, 8, 9, 10, 11, 12, 13, 14] Facts.mixed (by kernel_rfl) (by rfl) (by rfl) (by rfl) (by kernel_rfl) (phiT_mono ⟨eq_monoT _ _, eq_monoT _ _, eq_monoT _ _, eq_monoT _ _, (by rintro H1 H2 rs v hle ⟨v122, rfl, rfl, h123⟩; exact ⟨v122, rfl, rfl, (h123.mono hle)⟩), eq_monoT _ _, eq_monoT _ _, eq_monoT _ _, eq_monoT _ _, (by rintro H1 H2 rs v hle ⟨v126, rfl, rfl, h127⟩; exact ⟨v126, rfl, rfl, (h127.mono hle)⟩), (by rintro H1 H2 rs v hle ⟨v130, rfl, rfl, h131⟩; exact ⟨v130, rfl, rfl, (h131.mono hle)⟩), eq_monoT _ _, eq_monoT _ _, eq_monoT _ _, eq_monoT _ _, trivial⟩) ⟨?_, ?_, ?_, ?_, ?_, ?_, ?_, ?_, ?_, ?_, ?_, ?_, ?_, ?_, ?_, trivial⟩ ?_
 ·intro HX hX X Rest hR
  intro hU hUp
  refine W_field (o := 0) rfl rfl runUnderlying49 rfl sizeOf47 rfl rfl rfl ?_
  exact W_end (OneT_end [] (Hp.le_refl _) ⟨rfl, rfl⟩)
 ·intro HX hX X Rest hR
  rintro _ _ ⟨rfl, rfl⟩
  intro hU hUp
  refine W_loadAgg (cs := [.bool (p0_a.N.minus), v0]) rfl rfl isAgg47 sizeOf47 rfl (own_part (hR _ (List.mem_cons_of_mem _ (List.mem_cons_of_mem _ (List.mem_cons_self ..)))) rfl) rfl ?_
  exact W_end (OneT_end [] (Hp.le_refl _) ⟨rfl, rfl⟩)
 ·intro HX hX X Rest hR
  intro hU hUp
  refine W_field (o := 2) rfl rfl runUnderlying49 rfl sizeOf47 rfl rfl rfl ?_
  exact W_end (OneT_end [] (Hp.le_refl _) ⟨rfl, rfl⟩)
 ·intro HX hX X Rest hR
  rintro _ _ ⟨rfl, rfl⟩
  intro hU hUp
  refine W_loadAgg (cs := [.bool (p1_b.D.minus), v3]) rfl rfl isAgg47 sizeOf47 rfl (own_part (hR _ (List.mem_cons_of_mem _ (List.mem_cons_self ..))) rfl) rfl ?_
  exact W_end (OneT_end [] (Hp.le_refl _) ⟨rfl, rfl⟩)
 ·intro HX hX X Rest hR
  rintro _ _ ⟨rfl, rfl⟩
  rintro _ _ ⟨rfl, rfl⟩
  intro hU hUp
  refine W_call call47 rfl rfl rfl (fun w ht => by have h := m_large_Int_Mul_c (hm := hc105) (h0.mono hX) (h3.mono hX) ht; exact h) ?_
  rintro _ H124 _ ⟨hle125, v122, rfl, rfl, h123⟩
  exact W_end (OneT_end [] hle125 ⟨v122, rfl, rfl, (h123)⟩)
 ·intro HX hX X Rest hR
  intro hU hUp
  refine W_field (o := 0) rfl rfl runUnderlying49 rfl sizeOf47 rfl rfl rfl ?_
  exact W_end (OneT_end [] (Hp.le_refl _) ⟨rfl, rfl⟩)
 ·intro HX hX X Rest hR
  rintro _ _ ⟨rfl, rfl⟩
  intro hU hUp
  refine W_loadAgg (cs := [.bool (p1_b.N.minus), v2]) rfl rfl isAgg47 sizeOf47 rfl (own_part (hR _ (List.mem_cons_of_mem _ (List.mem_cons_self ..))) rfl) rfl ?_
  exact W_end (OneT_end [] (Hp.le_refl _) ⟨rfl, rfl⟩)
 ·intro HX hX X Rest hR
  intro hU hUp
  refine W_field (o := 2) rfl rfl runUnderlying49 rfl sizeOf47 rfl rfl rfl ?_
  exact W_end (OneT_end [] (Hp.le_refl _) ⟨rfl, rfl⟩)
 ·intro HX hX X Rest hR
  rintro _ _ ⟨rfl, rfl⟩
  intro hU hUp
  refine W_loadAgg (cs := [.bool (p0_a.D.minus), v1]) rfl rfl isAgg47 sizeOf47 rfl (own_part (hR _ (List.mem_cons_of_mem _ (List.mem_cons_of_mem _ (List.mem_cons_self ..)))) rfl) rfl ?_
  exact W_end (OneT_end [] (Hp.le_refl _) ⟨rfl, rfl⟩)
 ·intro HX hX X Rest hR
  rintro _ _ ⟨rfl, rfl⟩
  rintro _ _ ⟨rfl, rfl⟩
  rintro _ _ ⟨v122, rfl, rfl, h123⟩
  intro hU hUp
  refine W_call call47 rfl rfl rfl (fun w ht => by have h := m_large_Int_Mul_c (hm := hc111) (h2.mono hX) (h1.mono hX) ht; exact h) ?_
  rintro _ H128 _ ⟨hle129, v126, rfl, rfl, h127⟩
  exact W_end (OneT_end [] hle129 ⟨v126, rfl, rfl, (h127)⟩)
 ·intro HX hX X Rest hR
  rintro _ _ ⟨v122, rfl, rfl, h123⟩
  rintro _ _ ⟨v126, rfl, rfl, h127⟩
  rintro _ _ ⟨v126, rfl, rfl, h127⟩
  intro hU hUp
  refine W_call call48 rfl rfl rfl (fun w ht => by have h := m_large_Int_Add_c (hm := hc117) h123 h127 ht; exact h) ?_
  rintro _ H132 _ ⟨hle133, v130, rfl, rfl, h131⟩
  exact W_end (OneT_end [] hle133 ⟨v130, rfl, rfl, (h131)⟩)
 ·intro HX hX X Rest hR
  intro hU hUp
  refine W_field (o := 2) rfl rfl runUnderlying49 rfl sizeOf47 rfl rfl rfl ?_
  exact W_end (OneT_end [] (Hp.le_refl _) ⟨rfl, rfl⟩)
 ·intro HX hX X Rest hR
  rintro _ _ ⟨rfl, rfl⟩
  intro hU hUp
  refine W_loadAgg (cs := [.bool (p0_a.D.minus), v1]) rfl rfl isAgg47 sizeOf47 rfl (own_part (hR _ (List.mem_cons_of_mem _ (List.mem_cons_of_mem _ (List.mem_cons_self ..)))) rfl) rfl ?_
  exact W_end (OneT_end [] (Hp.le_refl _) ⟨rfl, rfl⟩)
 ·intro HX hX X Rest hR
  intro hU hUp
  refine W_field (o := 2) rfl rfl runUnderlying49 rfl sizeOf47 rfl rfl rfl ?_
  exact W_end (OneT_end [] (Hp.le_refl _) ⟨rfl, rfl⟩)
 ·intro HX hX X Rest hR
  rintro _ _ ⟨rfl, rfl⟩
  intro hU hUp
  refine W_loadAgg (cs := [.bool (p1_b.D.minus), v3]) rfl rfl isAgg47 sizeOf47 rfl (own_part (hR _ (List.mem_cons_of_mem _ (List.mem_cons_self ..))) rfl) rfl ?_
  exact W_end (OneT_end [] (Hp.le_refl _) ⟨rfl, rfl⟩)
 intro H134 hle135
 rintro _ _ ⟨rfl, rfl⟩
 rintro _ _ ⟨rfl, rfl⟩
 rintro _ _ ⟨rfl, rfl⟩
 rintro _ _ ⟨rfl, rfl⟩
 rintro _ _ ⟨v122, rfl, rfl, h123⟩
 rintro _ _ ⟨rfl, rfl⟩
 rintro _ _ ⟨rfl, rfl⟩
 rintro _ _ ⟨rfl, rfl⟩
 rintro _ _ ⟨rfl, rfl⟩
 rintro _ _ ⟨v126, rfl, rfl, h127⟩
 rintro _ _ ⟨v130, rfl, rfl, h131⟩
 rintro _ _ ⟨rfl, rfl⟩
 rintro _ _ ⟨rfl, rfl⟩
 rintro _ _ ⟨rfl, rfl⟩
 rintro _ _ ⟨rfl, rfl⟩
 obtain ⟨r136, hc137, hm⟩ := bind_some hm
 refine W_call call47 rfl rfl rfl (fun w ht => by have h := m_large_Int_Mul_c (hm := hc137) (h1.mono hle135) (h3.mono hle135) ht; exact h) ?_
 rintro _ H140 _ ⟨hle141, v138, rfl, rfl, h139⟩
 obtain ⟨r142, hc143, hm⟩ := bind_some hm
 refine W_call call39 rfl rfl rfl (fun w ht => by have h := m_large_Ratio_c (hm := hc143) (h131.mono hle141) h139 ht; exact h) ?_
 rintro _ H148 _ ⟨hle149, v144, v146, rfl, rfl, h145, h147⟩
 refine W_store (cs := [.bool (r142.N.minus), v144, .bool (r142.D.minus), v146]) (out := [.bool (r142.N.minus), v144, .bool (r142.D.minus), v146]) rfl sizeOf49 rfl rfl rfl rfl rfl (all_cons rfl (all_cons (RdS.one1 h145) (all_cons rfl (all_cons (RdS.one1 h147) all_nil)))) (over_all rfl) ?_
 refine W_end (E_then (C_ret ?_))
 obtain rfl := Option.some.inj hm
 exact endC1 (Hp.le_refl _) rfl (ResV.agg rfl isAgg49 sizeOf49 (List.mem_cons_self ..) rfl) (List.Sublist.cons _ (List.Sublist.cons _ (List.Sublist.cons _ (List.Sublist.refl _)))) (List.Perm.refl _) ⟨(Hp.le_trans (Hp.le_trans hle135 hle141) hle149), v144, v146, rfl, rfl, h145, h147⟩

theorem m_large_Rat_Sub_c {B : Nat} {w0 w : World} [Tabs B w0] {H : Hp} {M : List Res} {p0_a : S_large_Rat} {p1_b : S_large_Rat} {v0 : Value} {v1 : Value} {v2 : Value} {v3 : Value} {r : S_large_Rat} (hm : m_large_Rat_Sub p0_a p1_b = some r) (h0 : RdS H v0 p0_a.N.words) (h1 : RdS H v1 p0_a.D.words) (h2 : RdS H v2 p1_b.N.words) (h3 : RdS H v3 p1_b.D.words) (ht : St B w0 H (M) w) :
  Calls prog 32 [.agg [.bool (p0_a.N.minus), v0, .bool (p0_a.D.minus), v1].toArray, .agg [.bool (p1_b.N.minus), v2, .bool (p1_b.D.minus), v3].toArray].toArray w (Ret B w0 fun H' M' v => H.le H' ∧ ∃ qv0 : Value, ∃ qv1 : Value, M = M' ∧ .agg [.bool (r.N.minus), qv0, .bool (r.D.minus), qv1].toArray = v ∧ RdS H' qv0 r.N.words ∧ RdS H' qv1 r.D.words) := by
 unfold m_large_Rat_Sub at hm
 refine enter func32 rfl rfl rfl ht ?_
 refine C_seq (C_region ?_)
 refine W_box (cs := [.bool (p0_a.N.minus), v0, .bool (p0_a.D.minus), v1]) rfl rfl rfl rfl (fun b101 => ?_)
 refine W_box (cs := [.bool (p1_b.N.minus), v2, .bool (p1_b.D.minus), v3]) rfl rfl rfl rfl (fun b102 => ?_)
 refine W_alloc (cs := [.bool (false), .slice none 0 0, .bool (false), .slice none 0 0]) rfl rfl zeroValue49 rfl (fun b103 => ?_)
 refine W_end (E_then (C_seq ?_))
 obtain ⟨r104, hc105, hm⟩ := bind_some hm
 refine C_region_tok0 3 (phiT [(fun H rs v => [] = rs ∧ .agg [.bool (p0_a.N.minus), v0, .bool (p0_a.D.minus), v1].toArray = v), (fun H rs v => [] = rs ∧ .agg [.bool (p1_b.N.minus), v2, .bool (p1_b.D.minus), v3].toArray = v), (fun H rs v => ∃ v112 : Value, ∃ v114 : Value, [] = rs ∧ .agg [.bool (r104.N.minus), v112, .bool (r104.D.minus), v114].toArray = v ∧ RdS H v112 r104.N.words ∧ RdS H v114 r104.D.words)]) [[], [], []] [[], [], []] [] [0, 1, 2] Facts.mixed (by kernel_rfl) (by rfl) (by rfl) (by rfl) (by kernel_rfl) (phiT_mono ⟨eq_monoT _ _, eq_monoT _ _, (by rintro H1 H2 rs v hle ⟨v112, v114, rfl, rfl, h113, h115⟩; exact ⟨v112, v114, rfl, rfl, (h113.mono hle), (h115.mono hle)⟩), trivial⟩) ⟨?_, ?_, ?_, trivial⟩ ?_
 ·intro HX hX X Rest hR
  intro hU hUp
  refine W_loadAgg rfl rfl isAgg49 sizeOf49 rfl (own_all (hR _ (List.mem_cons_of_mem _ (List.mem_cons_of_mem _ (List.mem_cons_self ..))))) rfl ?_
  exact W_end (OneT_end [] (Hp.le_refl _) ⟨rfl, rfl⟩)
 ·intro HX hX X Rest hR
  intro hU hUp
  refine W_loadAgg rfl rfl isAgg49 sizeOf49 rfl (own_all (hR _ (List.mem_cons_of_mem _ (List.mem_cons_self ..)))) rfl ?_
  exact W_end (OneT_end [] (Hp.le_refl _) ⟨rfl, rfl⟩)
 ·intro HX hX X Rest hR
  rintro _ _ ⟨rfl, rfl⟩
  intro hU hUp
  refine W_call call49 rfl rfl rfl (fun w ht => by have h := m_large_Rat_Neg_c (hm := hc105) (h2.mono hX) (h3.mono hX) ht; exact h) ?_
  rintro _ H116 _ ⟨hle117, v112, v114, rfl, rfl, h113, h115⟩
  exact W_end (OneT_end [] hle117 ⟨v112, v114, rfl, rfl, (h113), (h115)⟩)
 intro H118 hle119
 rintro _ _ ⟨rfl, rfl⟩
 rintro _ _ ⟨rfl, rfl⟩
 rintro _ _ ⟨v112, v114, rfl, rfl, h113, h115⟩
 obtain ⟨r120, hc121, hm⟩ := bind_some hm
 refine W_call call31 rfl rfl rfl (fun w ht => by have h := m_large_Rat_Add_c (hm := hc121) (h0.mono hle119) (h1.mono hle119) h113 h115 ht; exact h) ?_
 rintro _ H126 _ ⟨hle127, v122, v124, rfl, rfl, h123, h125⟩
 refine W_store (cs := [.bool (r120.N.minus), v122, .bool (r120.D.minus), v124]) (out := [.bool (r120.N.minus), v122, .bool (r120.D.minus), v124]) rfl sizeOf49 rfl rfl rfl rfl rfl (all_cons rfl (all_cons (RdS.one1 h123) (all_cons rfl (all_cons (RdS.one1 h125) all_nil)))) (over_all rfl) ?_
 refine W_end (E_then (C_ret ?_))
 obtain rfl := Option.some.inj hm
 exact endC1 (Hp.le_refl _) rfl (ResV.agg rfl isAgg49 sizeOf49 (List.mem_cons_self ..) rfl) (List.Sublist.cons _ (List.Sublist.cons _ (List.Sublist.cons _ (List.Sublist.refl _)))) (List.Perm.refl _) ⟨(Hp.le_trans hle119 hle127), v122, v124, rfl, rfl, h123, h125⟩

theorem m_swing_excess_c {B : Nat} {w0 w : World} [Tabs B w0] {H : Hp} {M : List Res} {p0_x : S_api_SwingIsland} {p1_f : S_large_Rat} {v0 : Value} {v1 : Value} {r : S_large_Rat} (hm : m_swing_excess p0_x p1_f = some r) (h0 : RdS H v0 p1_f.N.words) (h1 : RdS H v1 p1_f.D.words) (ht : St B w0 H (M) w) :
  Calls prog 28 [.agg [.int .i64 (p0_x.Inertia), .int .i64 (p0_x.Damping), .int .i64 (p0_x.Supply), .int .i64 (p0_x.Demand), .string (p0_x.Frequency)].toArray, .agg [.bool (p1_f.N.minus), v0, .bool (p1_f.D.minus), v1].toArray].toArray w (Ret B w0 fun H' M' v => H.le H' ∧ ∃ qv0 : Value, ∃ qv1 : Value, M = M' ∧ .agg [.bool (r.N.minus), qv0, .bool (r.D.minus), qv1].toArray = v ∧ RdS H' qv0 r.N.words ∧ RdS H' qv1 r.D.words) := by
 unfold m_swing_excess at hm
 refine enter func28 rfl rfl rfl ht ?_
 refine C_seq (C_region ?_)
 refine W_box (cs := [.int .i64 (p0_x.Inertia), .int .i64 (p0_x.Damping), .int .i64 (p0_x.Supply), .int .i64 (p0_x.Demand), .string (p0_x.Frequency)]) rfl rfl rfl rfl (fun b101 => ?_)
 refine W_box (cs := [.bool (p1_f.N.minus), v0, .bool (p1_f.D.minus), v1]) rfl rfl rfl rfl (fun b102 => ?_)
 refine W_alloc (cs := [.bool (false), .slice none 0 0, .bool (false), .slice none 0 0]) rfl rfl zeroValue49 rfl (fun b103 => ?_)
 refine W_end (E_then (C_seq ?_))
 obtain ⟨r104, hc105, hm⟩ := bind_some hm
 obtain ⟨r112, hc113, hm⟩ := bind_some hm
 refine C_region_tok0 10 (phiT [(fun H rs v => [] = rs ∧ .pointer (some ⟨b101, 2, none⟩) = v), (fun H rs v => [] = rs ∧ .int .i64 (p0_x.Supply) = v), (fun H rs v => [] = rs ∧ .pointer (some ⟨b101, 3, none⟩) = v), (fun H rs v => [] = rs ∧ .int .i64 (p0_x.Demand) = v), (fun H rs v => [] = rs ∧ .int .i64 (IntKind.i64.wrap (p0_x.Supply - p0_x.Demand)) = v), (fun H rs v => ∃ v120 : Value, ∃ v122 : Value, [] = rs ∧ .agg [.bool (r104.N.minus), v120, .bool (r104.D.minus), v122].toArray = v ∧ RdS H v120 r104.N.words ∧ RdS H v122 r104.D.words), (fun H rs v => [] = rs ∧ .pointer (some ⟨b101, 1, none⟩) = v), (fun H rs v => [] = rs ∧ .int .i64 (p0_x.Damping) = v), (fun H rs v => ∃ v126 : Value, ∃ v128 : Value, [] = rs ∧ .agg [.bool (r112.N.minus), v126, .bool (r112.D.minus), v128].toArray = v ∧ RdS H v126 r112.N.words ∧ RdS H v128 r112.D.words), (fun H rs v => [] = rs ∧ .agg [.bool (p1_f.N.minus), v0, .bool (p1_f.D.minus), v1].toArray = v)]) [[], [], [], [], [], [], [], [], [], []] [[], [], [], [], [], [], [], [], [], []] [] [0, 1, 2, 3, 4, 5, 6, 7, 8, 9] Facts.mixed (by kernel_rfl) (by rfl) (by rfl) (by rfl) (by kernel_rfl) (phiT_mono ⟨eq_monoT _ _, eq_monoT _ _, eq_monoT _ _, eq_monoT _ _, eq_monoT _ _, (by rintro H1 H2 rs v hle ⟨v120, v122, rfl, rfl, h121, h123⟩; exact ⟨v120, v122, rfl, rfl, (h121.mono hle), (h123.mono hle)⟩), eq_monoT _ _, eq_monoT _ _, (by rintro H1 H2 rs v hle ⟨v126, v128, rfl, rfl, h127, h129⟩; exact ⟨v126, v128, rfl, rfl, (h127.mono hle), (h129.mono hle)⟩), eq_monoT _ _, trivial⟩) ⟨?_, ?_, ?_, ?_, ?_, ?_, ?_, ?_, ?_, ?_, trivial⟩ ?_
 ·intro HX hX X Rest hR
  intro hU hUp
  refine W_field (o := 2) rfl rfl runUnderlying24 rfl sizeOf3 rfl rfl rfl ?_
  exact W_end (OneT_end [] (Hp.le_refl _) ⟨rfl, rfl⟩)
 ·intro HX hX X Rest hR
  rintro _ _ ⟨rfl, rfl⟩
  intro hU hUp
  refine W_load rfl rfl isAgg3 rfl (own_at (hR _ (List.mem_cons_of_mem _ (List.mem_cons_of_mem _ (List.mem_cons_self ..)))) rfl) ?_
  exact W_end (OneT_end [] (Hp.le_refl _) ⟨rfl, rfl⟩)
 ·intro HX hX X Rest hR
  intro hU hUp
  refine W_field (o := 3) rfl rfl runUnderlying24 rfl sizeOf3 rfl rfl rfl ?_
  exact W_end (OneT_end [] (Hp.le_refl _) ⟨rfl, rfl⟩)
 ·intro HX hX X Rest hR
  rintro _ _ ⟨rfl, rfl⟩
  intro hU hUp
  refine W_load rfl rfl isAgg3 rfl (own_at (hR _ (List.mem_cons_of_mem _ (List.mem_cons_of_mem _ (List.mem_cons_self ..)))) rfl) ?_
  exact W_end (OneT_end [] (Hp.le_refl _) ⟨rfl, rfl⟩)
 ·intro HX hX X Rest hR
  rintro _ _ ⟨rfl, rfl⟩
  rintro _ _ ⟨rfl, rfl⟩
  intro hU hUp
  refine W_bin rfl rfl rfl rfl rfl ?_
  exact W_end (OneT_end [] (Hp.le_refl _) ⟨rfl, rfl⟩)
 ·intro HX hX X Rest hR
  rintro _ _ ⟨rfl, rfl⟩
  intro hU hUp
  refine W_call call36 rfl rfl rfl (fun w ht => by have h := m_large_Whole_c (hm := hc105)  ht; exact h) ?_
  rintro _ H124 _ ⟨hle125, v120, v122, rfl, rfl, h121, h123⟩
  exact W_end (OneT_end [] hle125 ⟨v120, v122, rfl, rfl, (h121), (h123)⟩)
 ·intro HX hX X Rest hR
  intro hU hUp
  refine W_field (o := 1) rfl rfl runUnderlying24 rfl sizeOf3 rfl rfl rfl ?_
  exact W_end (OneT_end [] (Hp.le_refl _) ⟨rfl, rfl⟩)
 ·intro HX hX X Rest hR
  rintro _ _ ⟨rfl, rfl⟩
  intro hU hUp
  refine W_load rfl rfl isAgg3 rfl (own_at (hR _ (List.mem_cons_of_mem _ (List.mem_cons_of_mem _ (List.mem_cons_self ..)))) rfl) ?_
  exact W_end (OneT_end [] (Hp.le_refl _) ⟨rfl, rfl⟩)
 ·intro HX hX X Rest hR
  rintro _ _ ⟨rfl, rfl⟩
  rintro _ _ ⟨v120, v122, rfl, rfl, h121, h123⟩
  intro hU hUp
  refine W_call call36 rfl rfl rfl (fun w ht => by have h := m_large_Whole_c (hm := hc113)  ht; exact h) ?_
  rintro _ H130 _ ⟨hle131, v126, v128, rfl, rfl, h127, h129⟩
  exact W_end (OneT_end [] hle131 ⟨v126, v128, rfl, rfl, (h127), (h129)⟩)
 ·intro HX hX X Rest hR
  intro hU hUp
  refine W_loadAgg rfl rfl isAgg49 sizeOf49 rfl (own_all (hR _ (List.mem_cons_of_mem _ (List.mem_cons_self ..)))) rfl ?_
  exact W_end (OneT_end [] (Hp.le_refl _) ⟨rfl, rfl⟩)
 intro H132 hle133
 rintro _ _ ⟨rfl, rfl⟩
 rintro _ _ ⟨rfl, rfl⟩
 rintro _ _ ⟨rfl, rfl⟩
 rintro _ _ ⟨rfl, rfl⟩
 rintro _ _ ⟨rfl, rfl⟩
 rintro _ _ ⟨v120, v122, rfl, rfl, h121, h123⟩
 rintro _ _ ⟨rfl, rfl⟩
 rintro _ _ ⟨rfl, rfl⟩
 rintro _ _ ⟨v126, v128, rfl, rfl, h127, h129⟩
 rintro _ _ ⟨rfl, rfl⟩
 obtain ⟨r134, hc135, hm⟩ := bind_some hm
 refine W_call call34 rfl rfl rfl (fun w ht => by have h := m_large_Rat_Mul_c (hm := hc135) h127 h129 (h0.mono hle133) (h1.mono hle133) ht; exact h) ?_
 rintro _ H140 _ ⟨hle141, v136, v138, rfl, rfl, h137, h139⟩
 obtain ⟨r142, hc143, hm⟩ := bind_some hm
 refine W_call call32 rfl rfl rfl (fun w ht => by have h := m_large_Rat_Sub_c (hm := hc143) (h121.mono hle141) (h123.mono hle141) h137 h139 ht; exact h) ?_
 rintro _ H148 _ ⟨hle149, v144, v146, rfl, rfl, h145, h147⟩
 refine W_store (cs := [.bool (r142.N.minus), v144, .bool (r142.D.minus), v146]) (out := [.bool (r142.N.minus), v144, .bool (r142.D.minus), v146]) rfl sizeOf49 rfl rfl rfl rfl rfl (all_cons rfl (all_cons (RdS.one1 h145) (all_cons rfl (all_cons (RdS.one1 h147) all_nil)))) (over_all rfl) ?_
 refine W_end (E_then (C_ret ?_))
 obtain rfl := Option.some.inj hm
 exact endC1 (Hp.le_refl _) rfl (ResV.agg rfl isAgg49 sizeOf49 (List.mem_cons_self ..) rfl) (List.Sublist.cons _ (List.Sublist.cons _ (List.Sublist.cons _ (List.Sublist.refl _)))) (List.Perm.refl _) ⟨(Hp.le_trans (Hp.le_trans hle133 hle141) hle149), v144, v146, rfl, rfl, h145, h147⟩

theorem m_large_Rat_Div_c {B : Nat} {w0 w : World} [Tabs B w0] {H : Hp} {M : List Res} {p0_a : S_large_Rat} {p1_b : S_large_Rat} {v0 : Value} {v1 : Value} {v2 : Value} {v3 : Value} {r : S_large_Rat} (hm : m_large_Rat_Div p0_a p1_b = some r) (h0 : RdS H v0 p0_a.N.words) (h1 : RdS H v1 p0_a.D.words) (h2 : RdS H v2 p1_b.N.words) (h3 : RdS H v3 p1_b.D.words) (ht : St B w0 H (M) w) :
  Calls prog 35 [.agg [.bool (p0_a.N.minus), v0, .bool (p0_a.D.minus), v1].toArray, .agg [.bool (p1_b.N.minus), v2, .bool (p1_b.D.minus), v3].toArray].toArray w (Ret B w0 fun H' M' v => H.le H' ∧ ∃ qv0 : Value, ∃ qv1 : Value, M = M' ∧ .agg [.bool (r.N.minus), qv0, .bool (r.D.minus), qv1].toArray = v ∧ RdS H' qv0 r.N.words ∧ RdS H' qv1 r.D.words) := by
 unfold m_large_Rat_Div at hm
 refine enter func35 rfl rfl rfl ht ?_
 refine C_seq (C_region ?_)
 refine W_box (cs := [.bool (p0_a.N.minus), v0, .bool (p0_a.D.minus), v1]) rfl rfl rfl rfl (fun b101 => ?_)
 refine W_box (cs := [.bool (p1_b.N.minus), v2, .bool (p1_b.D.minus), v3]) rfl rfl rfl rfl (fun b102 => ?_)
 refine W_alloc (cs := [.bool (false), .slice none 0 0, .bool (false), .slice none 0 0]) rfl rfl zeroValue49 rfl (fun b103 => ?_)
 refine W_end (E_then (C_seq ?_))
 obtain ⟨r104, hc105, hm⟩ := bind_some hm
 refine C_region_tok0 9 (phiT [(fun H rs v => [] = rs ∧ .pointer (some ⟨b101, 0, none⟩) = v), (fun H rs v => [] = rs ∧ .agg [.bool (p0_a.N.minus), v0].toArray = v), (fun H rs v => [] = rs ∧ .pointer (some ⟨b102, 2, none⟩) = v), (fun H rs v => [] = rs ∧ .agg [.bool (p1_b.D.minus), v3].toArray = v), (fun H rs v => ∃ v110 : Value, [] = rs ∧ .agg [.bool (r104.minus), v110].toArray = v ∧ RdS H v110 r104.words), (fun H rs v => [] = rs ∧ .pointer (some ⟨b101, 2, none⟩) = v), (fun H rs v => [] = rs ∧ .agg [.bool (p0_a.D.minus), v1].toArray = v), (fun H rs v => [] = rs ∧ .pointer (some ⟨b102, 0, none⟩) = v), (fun H rs v => [] = rs ∧ .agg [.bool (p1_b.N.minus), v2].toArray = v)]) [[], [], [], [], [], [], [], [], []] [[], [], [], [], [], [], [], [], []] [] [0, 1, 2, 3, 4, 5, 6, 7, 8] Facts.mixed (by kernel_rfl) (by rfl) (by rfl) (by rfl) (by kernel_rfl) (phiT_mono ⟨eq_monoT _ _, eq_monoT _ _, eq_monoT _ _, eq_monoT _ _, (by rintro H1 H2 rs v hle ⟨v110, rfl, rfl, h111⟩; exact ⟨v110, rfl, rfl, (h111.mono hle)⟩), eq_monoT _ _, eq_monoT _ _, eq_monoT _ _, eq_monoT _ _, trivial⟩) ⟨?_, ?_, ?_, ?_, ?_, ?_, ?_, ?_, ?_, trivial⟩ ?_
 ·intro HX hX X Rest hR
  intro hU hUp
  refine W_field (o := 0) rfl rfl runUnderlying49 rfl sizeOf47 rfl rfl rfl ?_
  exact W_end (OneT_end [] (Hp.le_refl _) ⟨rfl, rfl⟩)
 ·intro HX hX X Rest hR
  rintro _ _ ⟨rfl, rfl⟩
  intro hU hUp
  refine W_loadAgg (cs := [.bool (p0_a.N.minus), v0]) rfl rfl isAgg47 sizeOf47 rfl (own_part (hR _ (List.mem_cons_of_mem _ (List.mem_cons_of_mem _ (List.mem_cons_self ..)))) rfl) rfl ?_
  exact W_end (OneT_end [] (Hp.le_refl _) ⟨rfl, rfl⟩)
 ·intro HX hX X Rest hR
  intro hU hUp
  refine W_field (o := 2) rfl rfl runUnderlying49 rfl sizeOf47 rfl rfl rfl ?_
  exact W_end (OneT_end [] (Hp.le_refl _) ⟨rfl, rfl⟩)
 ·intro HX hX X Rest hR
  rintro _ _ ⟨rfl, rfl⟩
  intro hU hUp
  refine W_loadAgg (cs := [.bool (p1_b.D.minus), v3]) rfl rfl isAgg47 sizeOf47 rfl (own_part (hR _ (List.mem_cons_of_mem _ (List.mem_cons_self ..))) rfl) rfl ?_
  exact W_end (OneT_end [] (Hp.le_refl _) ⟨rfl, rfl⟩)
 ·intro HX hX X Rest hR
  rintro _ _ ⟨rfl, rfl⟩
  rintro _ _ ⟨rfl, rfl⟩
  intro hU hUp
  refine W_call call47 rfl rfl rfl (fun w ht => by have h := m_large_Int_Mul_c (hm := hc105) (h0.mono hX) (h3.mono hX) ht; exact h) ?_
  rintro _ H112 _ ⟨hle113, v110, rfl, rfl, h111⟩
  exact W_end (OneT_end [] hle113 ⟨v110, rfl, rfl, (h111)⟩)
 ·intro HX hX X Rest hR
  intro hU hUp
  refine W_field (o := 2) rfl rfl runUnderlying49 rfl sizeOf47 rfl rfl rfl ?_
  exact W_end (OneT_end [] (Hp.le_refl _) ⟨rfl, rfl⟩)
 ·intro HX hX X Rest hR
  rintro _ _ ⟨rfl, rfl⟩
  intro hU hUp
  refine W_loadAgg (cs := [.bool (p0_a.D.minus), v1]) rfl rfl isAgg47 sizeOf47 rfl (own_part (hR _ (List.mem_cons_of_mem _ (List.mem_cons_of_mem _ (List.mem_cons_self ..)))) rfl) rfl ?_
  exact W_end (OneT_end [] (Hp.le_refl _) ⟨rfl, rfl⟩)
 ·intro HX hX X Rest hR
  intro hU hUp
  refine W_field (o := 0) rfl rfl runUnderlying49 rfl sizeOf47 rfl rfl rfl ?_
  exact W_end (OneT_end [] (Hp.le_refl _) ⟨rfl, rfl⟩)
 ·intro HX hX X Rest hR
  rintro _ _ ⟨rfl, rfl⟩
  intro hU hUp
  refine W_loadAgg (cs := [.bool (p1_b.N.minus), v2]) rfl rfl isAgg47 sizeOf47 rfl (own_part (hR _ (List.mem_cons_of_mem _ (List.mem_cons_self ..))) rfl) rfl ?_
  exact W_end (OneT_end [] (Hp.le_refl _) ⟨rfl, rfl⟩)
 intro H114 hle115
 rintro _ _ ⟨rfl, rfl⟩
 rintro _ _ ⟨rfl, rfl⟩
 rintro _ _ ⟨rfl, rfl⟩
 rintro _ _ ⟨rfl, rfl⟩
 rintro _ _ ⟨v110, rfl, rfl, h111⟩
 rintro _ _ ⟨rfl, rfl⟩
 rintro _ _ ⟨rfl, rfl⟩
 rintro _ _ ⟨rfl, rfl⟩
 rintro _ _ ⟨rfl, rfl⟩
 obtain ⟨r116, hc117, hm⟩ := bind_some hm
 refine W_call call47 rfl rfl rfl (fun w ht => by have h := m_large_Int_Mul_c (hm := hc117) (h1.mono hle115) (h2.mono hle115) ht; exact h) ?_
 rintro _ H120 _ ⟨hle121, v118, rfl, rfl, h119⟩
 obtain ⟨r122, hc123, hm⟩ := bind_some hm
 refine W_call call39 rfl rfl rfl (fun w ht => by have h := m_large_Ratio_c (hm := hc123) (h111.mono hle121) h119 ht; exact h) ?_
 rintro _ H128 _ ⟨hle129, v124, v126, rfl, rfl, h125, h127⟩
 refine W_store (cs := [.bool (r122.N.minus), v124, .bool (r122.D.minus), v126]) (out := [.bool (r122.N.minus), v124, .bool (r122.D.minus), v126]) rfl sizeOf49 rfl rfl rfl rfl rfl (all_cons rfl (all_cons (RdS.one1 h125) (all_cons rfl (all_cons (RdS.one1 h127) all_nil)))) (over_all rfl) ?_
 refine W_end (E_then (C_ret ?_))
 obtain rfl := Option.some.inj hm
 exact endC1 (Hp.le_refl _) rfl (ResV.agg rfl isAgg49 sizeOf49 (List.mem_cons_self ..) rfl) (List.Sublist.cons _ (List.Sublist.cons _ (List.Sublist.cons _ (List.Sublist.refl _)))) (List.Perm.refl _) ⟨(Hp.le_trans (Hp.le_trans hle115 hle121) hle129), v124, v126, rfl, rfl, h125, h127⟩

theorem m_swing_Run_c {B : Nat} {w0 w : World} [Tabs B w0] {H : Hp} {M : List Res} {p0_x : S_api_SwingIsland} {p1_n : Int} {r : (List ByteArray) × Int} (hm : m_swing_Run p0_x p1_n = some r) (ht : St B w0 H (M) w) :
  Calls prog 20 [.agg [.int .i64 (p0_x.Inertia), .int .i64 (p0_x.Damping), .int .i64 (p0_x.Supply), .int .i64 (p0_x.Demand), .string (p0_x.Frequency)].toArray, .int .i64 (p1_n)].toArray w (Ret B w0 fun H' M' v => H = H' ∧ ∃ qv0 : Value, ∃ qxs0 : List Value, .row qv0 22 (Rep.sz ByteArray) r.1.length qxs0 :: M = M' ∧ .tuple #[qv0, .int .i64 (r.2)] = v ∧ RwF qv0 qxs0 r.1) := by
 unfold m_swing_Run at hm
 refine enter func20 rfl rfl rfl ht ?_
 refine C_seq (C_region ?_)
 refine W_box (cs := [.int .i64 (p0_x.Inertia), .int .i64 (p0_x.Damping), .int .i64 (p0_x.Supply), .int .i64 (p0_x.Demand), .string (p0_x.Frequency)]) rfl rfl rfl rfl (fun b101 => ?_)
 refine W_assign rfl rfl rfl ?_
 refine W_assign rfl rfl rfl ?_
 refine W_end (E_then (C_seq (C_seq (C_region ?_))))
 refine W_loadAgg rfl rfl isAgg24 sizeOf24 rfl (own_all (List.mem_cons_self ..)) rfl ?_
 obtain ⟨r102, hc103, hm⟩ := bind_some hm
 refine W_call call10 rfl rfl rfl (fun w ht => by have h := m_swing_Check_c (hm := hc103)  ht; exact h) ?_
 rintro _ _ _ ⟨rfl, rfl, rfl⟩
 refine W_assign rfl rfl rfl ?_
 refine W_end (E_then (C_seq (C_region ?_)))
 refine W_move rfl rfl rfl ?_
 refine W_bin rfl rfl rfl rfl rfl ?_
 refine W_end (E_then ?_)
 refine C_cond (b := !decide (r102 = 0)) rfl (fun hb104 => ?_) (fun hb104 => ?_)
 ·have hm := ite_t' hb104 hm
  refine C_seq (C_region ?_)
  refine W_move rfl rfl rfl ?_
  refine W_assign rfl rfl rfl ?_
  refine W_assign rfl rfl rfl ?_
  refine W_end (E_then (C_ret (E_ret_then ?_)))
  refine E_nilRow 22 (Rep.sz ByteArray) ?_
  obtain rfl := Option.some.inj hm
  refine E_drop (List.Sublist.cons_cons _ (List.Sublist.cons _ (List.Sublist.refl _))) ?_
  refine E_weak (Hp.le_refl _) ?_
  exact end2 rfl rfl rfl ⟨rfl, (.slice none 0 0), [], rfl, rfl, (Rw.nil (H := H)).toF⟩
 ·have hm := ite_f' hb104 hm
  refine C_skip (E_then (C_seq ?_))
  refine C_seq_join (fun H' M' L' => H = H' ∧ .obj b101 (.cells ([.int .i64 (p0_x.Inertia), .int .i64 (p0_x.Damping), .int .i64 (p0_x.Supply), .int .i64 (p0_x.Demand), .string (p0_x.Frequency)] : List Value).toArray 24 (0, 0)) :: M = M' ∧ [(1, .int .i64 (p1_n)), (2, .pointer (some ⟨b101, 0, none⟩)), (21, .bool ((decide (p1_n < 0)) || (decide (200 < p1_n))))] = L') ?_ (fun J106 => ?_)
  ·rintro _ _ _ ⟨rfl, rfl, rfl⟩
   refine C_cond (b := (decide (p1_n < 0)) || (decide (200 < p1_n))) rfl (fun hb107 => ?_) (fun hb107 => ?_)
   ·have hm := ite_t' hb107 hm
    refine C_seq (C_region ?_)
    refine W_assign rfl rfl rfl ?_
    refine W_assign rfl rfl rfl ?_
    refine W_end (E_then (C_ret (E_ret_then ?_)))
    refine E_nilRow 22 (Rep.sz ByteArray) ?_
    obtain rfl := Option.some.inj hm
    refine E_drop (List.Sublist.cons_cons _ (List.Sublist.cons _ (List.Sublist.refl _))) ?_
    refine E_weak (Hp.le_refl _) ?_
    exact end2 rfl rfl rfl ⟨rfl, (.slice none 0 0), [], rfl, rfl, (Rw.nil (H := H)).toF⟩
   ·have hm := ite_f' hb107 hm
    refine C_skip (E_then (C_seq (C_region ?_)))
    refine W_field (o := 4) rfl rfl runUnderlying24 rfl sizeOf22 rfl rfl rfl ?_
    refine W_load rfl rfl isAgg22 rfl (own_at (List.mem_cons_self ..) rfl) ?_
    obtain ⟨r108, hc109, hm⟩ := bind_some hm
    refine W_call call29 rfl rfl rfl (fun w ht => by have h := m_large_Parse_c (hm := hc109)  ht; exact h) ?_
    rintro _ H114 _ ⟨hle115, v110, v112, rfl, rfl, h111, h113⟩
    refine W_alloc (cs := [.bool (false), .slice none 0 0, .bool (false), .slice none 0 0]) rfl rfl zeroValue49 rfl (fun b116 => ?_)
    refine W_store (cs := [.bool (r108.N.minus), v110, .bool (r108.D.minus), v112]) (out := [.bool (r108.N.minus), v110, .bool (r108.D.minus), v112]) rfl sizeOf49 rfl rfl rfl rfl rfl (all_cons rfl (all_cons (RdS.one1 h111) (all_cons rfl (all_cons (RdS.one1 h113) all_nil)))) (over_all rfl) ?_
    refine W_end (E_then (C_seq (C_region ?_)))
    refine W_assign rfl rfl rfl ?_
    refine W_end (E_then (C_seq (C_seq (C_region ?_))))
    refine W_move rfl rfl rfl ?_
    refine W_move rfl rfl rfl ?_
    refine W_end (E_then (C_block ?_))
    obtain ⟨hq296, hm⟩ := need_some hm
    refine C_nilRow 22 (Rep.sz ByteArray) ?_
    refine C_keep (L' := [(2, .pointer (some ⟨b101, 0, none⟩)), (7, .pointer (some ⟨b116, 0, none⟩)), (8, (.slice none 0 0)), (25, .int .i64 (p1_n)), (26, .int .i64 (((0 : Nat) : Int)))]) ⟨rfl, rfl, rfl, rfl, rfl, trivial⟩ (List.Perm.refl _) ?_
    refine C_loop (fun n H' M' L' => ∃ (k117 : Nat) (zs298' : Nat), ∃ l280 : List ByteArray, ∃ c282 : Bool, ∃ l284 : (List U32), ∃ c286 : Bool, ∃ l288 : (List U32), ∃ v278 : Value, ∃ xs279 : List Value, ∃ v283 : Value, ∃ v287 : Value, k117 + zs298' = (p1_n : Int).toNat ∧ zs298' = n ∧ forN (fun k s292 n => m_swing_Run_b1 p0_x k s292.1 s292.2.1 s292.2.2.1 s292.2.2.2.1 s292.2.2.2.2 n) (fun s292 => some (s292.1, 0)) zs298' k117 (l280, c282, l284, c286, l288) = some r ∧ Rw H' v278 xs279 l280 ∧ RdS H' v283 l284 ∧ RdS H' v287 l288 ∧ H114.le H' ∧ .row v278 22 (Rep.sz ByteArray) l280.length xs279 :: .obj b116 (.cells [.bool (c282), v283, .bool (c286), v287].toArray 49 (0, 0)) :: .obj b101 (.cells ([.int .i64 (p0_x.Inertia), .int .i64 (p0_x.Damping), .int .i64 (p0_x.Supply), .int .i64 (p0_x.Demand), .string (p0_x.Frequency)] : List Value).toArray 24 (0, 0)) :: M = M' ∧ [(2, .pointer (some ⟨b101, 0, none⟩)), (7, .pointer (some ⟨b116, 0, none⟩)), (8, v278), (25, .int .i64 (p1_n)), (26, .int .i64 ((k117 : Int)))] = L') _ ⟨0, _, ([] : List ByteArray), r108.N.minus, r108.N.words, r108.D.minus, r108.D.words, (.slice none 0 0), ([]), v110, v112, Nat.zero_add _, rfl, hm, Rw.nil, h111, h113, (Hp.le_refl _), rfl, rfl⟩ ?_
    rintro _ H290 _ _ ⟨k117, zs298', l280, c282, l284, c286, l288, v278, xs279, v283, v287, hd300, rfl, hm, hr281, h285, h289, hle291, rfl, rfl⟩
    refine C_seq (C_region ?_)
    refine W_bin rfl rfl rfl rfl rfl ?_
    refine W_end (E_then (C_seq ?_))
    refine C_cond (b := decide ((k117 : Int) < p1_n)) rfl (fun hb302 => ?_) (fun hb302 => ?_)
    ·obtain ⟨zs298, rfl, hd301, hy299⟩ := rngN_t hd300 hb302
     have hm : m_swing_Run_b1 p0_x k117 l280 c282 l284 c286 l288 (forN (fun k s292 n => m_swing_Run_b1 p0_x k s292.1 s292.2.1 s292.2.2.1 s292.2.2.2.1 s292.2.2.2.2 n) (fun s292 => some (s292.1, 0)) zs298 (k117 + 1)) = some r := hm
     generalize hn294 : forN (fun k s292 n => m_swing_Run_b1 p0_x k s292.1 s292.2.1 s292.2.2.1 s292.2.2.2.1 s292.2.2.2.2 n) (fun s292 => some (s292.1, 0)) zs298 (k117 + 1) = nx293 at hm
     unfold m_swing_Run_b1 at hm
     refine C_skip (E_then (C_seq (C_block (C_seq ?_))))
     obtain ⟨r303, hc304, hm⟩ := bind_some hm
     obtain ⟨r311, hc312, hm⟩ := bind_some hm
     obtain ⟨r319, hc320, hm⟩ := bind_some hm
     refine C_region_tok0 8 (phiT [(fun H rs v => [] = rs ∧ .agg [.bool (c282), v283, .bool (c286), v287].toArray = v), (fun H rs v => [] = rs ∧ .agg [.int .i64 (p0_x.Inertia), .int .i64 (p0_x.Damping), .int .i64 (p0_x.Supply), .int .i64 (p0_x.Demand), .string (p0_x.Frequency)].toArray = v), (fun H rs v => [] = rs ∧ .agg [.bool (c282), v283, .bool (c286), v287].toArray = v), (fun H rs v => ∃ v327 : Value, ∃ v329 : Value, [] = rs ∧ .agg [.bool (r303.N.minus), v327, .bool (r303.D.minus), v329].toArray = v ∧ RdS H v327 r303.N.words ∧ RdS H v329 r303.D.words), (fun H rs v => [] = rs ∧ .pointer (some ⟨b101, 0, none⟩) = v), (fun H rs v => [] = rs ∧ .int .i64 (p0_x.Inertia) = v), (fun H rs v => ∃ v333 : Value, ∃ v335 : Value, [] = rs ∧ .agg [.bool (r311.N.minus), v333, .bool (r311.D.minus), v335].toArray = v ∧ RdS H v333 r311.N.words ∧ RdS H v335 r311.D.words), (fun H rs v => ∃ v339 : Value, ∃ v341 : Value, [] = rs ∧ .agg [.bool (r319.N.minus), v339, .bool (r319.D.minus), v341].toArray = v ∧ RdS H v339 r319.N.words ∧ RdS H v341 r319.D.words)]) [[], [], [], [], [], [], [], []] [[], [], [], [], [], [], [], []] [] [0, 1, 2, 3, 4, 5, 6, 7] Facts.mixed (by kernel_rfl) (by rfl) (by rfl) (by rfl) (by kernel_rfl) (phiT_mono ⟨eq_monoT _ _, eq_monoT _ _, eq_monoT _ _, (by rintro H1 H2 rs v hle ⟨v327, v329, rfl, rfl, h328, h330⟩; exact ⟨v327, v329, rfl, rfl, (h328.mono hle), (h330.mono hle)⟩), eq_monoT _ _, eq_monoT _ _, (by rintro H1 H2 rs v hle ⟨v333, v335, rfl, rfl, h334, h336⟩; exact ⟨v333, v335, rfl, rfl, (h334.mono hle), (h336.mono hle)⟩), (by rintro H1 H2 rs v hle ⟨v339, v341, rfl, rfl, h340, h342⟩; exact ⟨v339, v341, rfl, rfl, (h340.mono hle), (h342.mono hle)⟩), trivial⟩) ⟨?_, ?_, ?_, ?_, ?_, ?_, ?_, ?_, trivial⟩ ?_
     ·intro HX hX X Rest hR
      intro hU hUp
      refine W_loadAgg rfl rfl isAgg49 sizeOf49 rfl (own_all (hR _ (List.mem_cons_of_mem _ (List.mem_cons_self ..)))) rfl ?_
      exact W_end (OneT_end [] (Hp.le_refl _) ⟨rfl, rfl⟩)
     ·intro HX hX X Rest hR
      intro hU hUp
      refine W_loadAgg rfl rfl isAgg24 sizeOf24 rfl (own_all (hR _ (List.mem_cons_of_mem _ (List.mem_cons_of_mem _ (List.mem_cons_self ..))))) rfl ?_
      exact W_end (OneT_end [] (Hp.le_refl _) ⟨rfl, rfl⟩)
     ·intro HX hX X Rest hR
      intro hU hUp
      refine W_loadAgg rfl rfl isAgg49 sizeOf49 rfl (own_all (hR _ (List.mem_cons_of_mem _ (List.mem_cons_self ..)))) rfl ?_
      exact W_end (OneT_end [] (Hp.le_refl _) ⟨rfl, rfl⟩)
     ·intro HX hX X Rest hR
      rintro _ _ ⟨rfl, rfl⟩
      rintro _ _ ⟨rfl, rfl⟩
      intro hU hUp
      refine W_call call28 rfl rfl rfl (fun w ht => by have h := m_swing_excess_c (hm := hc304) (h285.mono hX) (h289.mono hX) ht; exact h) ?_
      rintro _ H331 _ ⟨hle332, v327, v329, rfl, rfl, h328, h330⟩
      exact W_end (OneT_end [] hle332 ⟨v327, v329, rfl, rfl, (h328), (h330)⟩)
     ·intro HX hX X Rest hR
      intro hU hUp
      refine W_field (o := 0) rfl rfl runUnderlying24 rfl sizeOf3 rfl rfl rfl ?_
      exact W_end (OneT_end [] (Hp.le_refl _) ⟨rfl, rfl⟩)
     ·intro HX hX X Rest hR
      rintro _ _ ⟨rfl, rfl⟩
      intro hU hUp
      refine W_load rfl rfl isAgg3 rfl (own_at (hR _ (List.mem_cons_of_mem _ (List.mem_cons_of_mem _ (List.mem_cons_self ..)))) rfl) ?_
      exact W_end (OneT_end [] (Hp.le_refl _) ⟨rfl, rfl⟩)
     ·intro HX hX X Rest hR
      rintro _ _ ⟨rfl, rfl⟩
      rintro _ _ ⟨v327, v329, rfl, rfl, h328, h330⟩
      intro hU hUp
      refine W_call call36 rfl rfl rfl (fun w ht => by have h := m_large_Whole_c (hm := hc312)  ht; exact h) ?_
      rintro _ H337 _ ⟨hle338, v333, v335, rfl, rfl, h334, h336⟩
      exact W_end (OneT_end [] hle338 ⟨v333, v335, rfl, rfl, (h334), (h336)⟩)
     ·intro HX hX X Rest hR
      rintro _ _ ⟨v327, v329, rfl, rfl, h328, h330⟩
      rintro _ _ ⟨v333, v335, rfl, rfl, h334, h336⟩
      rintro _ _ ⟨v333, v335, rfl, rfl, h334, h336⟩
      intro hU hUp
      refine W_call call35 rfl rfl rfl (fun w ht => by have h := m_large_Rat_Div_c (hm := hc320) h328 h330 h334 h336 ht; exact h) ?_
      rintro _ H343 _ ⟨hle344, v339, v341, rfl, rfl, h340, h342⟩
      exact W_end (OneT_end [] hle344 ⟨v339, v341, rfl, rfl, (h340), (h342)⟩)
     intro H345 hle346
     rintro _ _ ⟨rfl, rfl⟩
     rintro _ _ ⟨rfl, rfl⟩
     rintro _ _ ⟨rfl, rfl⟩
     rintro _ _ ⟨v327, v329, rfl, rfl, h328, h330⟩
     rintro _ _ ⟨rfl, rfl⟩
     rintro _ _ ⟨rfl, rfl⟩
     rintro _ _ ⟨v333, v335, rfl, rfl, h334, h336⟩
     rintro _ _ ⟨v339, v341, rfl, rfl, h340, h342⟩
     obtain ⟨r347, hc348, hm⟩ := bind_some hm
     refine W_call call31 rfl rfl rfl (fun w ht => by have h := m_large_Rat_Add_c (hm := hc348) (h285.mono hle346) (h289.mono hle346) h340 h342 ht; exact h) ?_
     rintro _ H353 _ ⟨hle354, v349, v351, rfl, rfl, h350, h352⟩
     refine W_perm (List.Perm.swap _ _ _) ?_
     refine W_store (cs := [.bool (r347.N.minus), v349, .bool (r347.D.minus), v351]) (out := [.bool (r347.N.minus), v349, .bool (r347.D.minus), v351]) rfl sizeOf49 rfl rfl rfl rfl rfl (all_cons rfl (all_cons (RdS.one1 h350) (all_cons rfl (all_cons (RdS.one1 h352) all_nil)))) (over_all rfl) ?_
     refine W_end (E_then (C_seq (C_region ?_)))
     refine W_loadAgg rfl rfl isAgg49 sizeOf49 rfl (own_all (List.mem_cons_self ..)) rfl ?_
     obtain ⟨r355, hc356, hm⟩ := bind_some hm
     refine W_call call23 rfl rfl rfl (fun w ht => by have h := m_swing_text_c (hm := hc356) h350 h352 ht; exact h) ?_
     rintro _ _ _ ⟨rfl, rfl, rfl⟩
     refine W_move rfl rfl rfl ?_
     refine W_extract rfl rfl rfl rfl ?_
     refine W_extract rfl rfl rfl rfl ?_
     refine W_assign rfl rfl rfl ?_
     refine W_assign rfl rfl rfl ?_
     refine W_end (E_then (C_seq (C_seq (C_region ?_))))
     refine W_move rfl rfl rfl ?_
     refine W_bin rfl rfl rfl rfl rfl ?_
     refine W_end (E_then ?_)
     refine C_cond (b := !decide (r355.2 = 0)) rfl (fun hb357 => ?_) (fun hb357 => ?_)
     ·have hm := ite_t' hb357 hm
      refine C_seq (C_region ?_)
      refine W_move rfl rfl rfl ?_
      refine W_assign rfl rfl rfl ?_
      refine W_assign rfl rfl rfl ?_
      refine W_end (E_then (C_ret (E_ret_then (E_ret_block (E_ret_then (E_ret_then (E_ret_block (E_ret_then ?_))))))))
      refine E_nilRow 22 (Rep.sz ByteArray) ?_
      obtain rfl := Option.some.inj hm
      refine E_drop (List.Sublist.cons_cons _ (List.Sublist.cons _ (List.Sublist.cons _ (List.Sublist.cons _ (List.Sublist.refl _))))) ?_
      refine E_weak (Hp.le_trans (Hp.le_trans (Hp.le_trans hle115 hle291) hle346) hle354) ?_
      exact end2 rfl rfl rfl ⟨rfl, (.slice none 0 0), [], rfl, rfl, (Rw.nil (H := H)).toF⟩
     ·have hm := ite_f' hb357 hm
      refine C_skip (E_then (C_region ?_))
      refine W_move rfl rfl rfl ?_
      refine W_move rfl rfl rfl ?_
      refine W_buildSlice (α := ByteArray) (css := [[.string (r355.1)]]) (zs := [.string (⟨#[]⟩)]) (out := [.string (r355.1)]) (ys := [r355.1]) rfl rfl rfl ⟨rfl, trivial⟩ runUnderlying38 sizeOf22 rfl zeroValue22 (by kernel_rfl) rfl rfl rfl rfl ⟨[.string (r355.1)], [], rfl, rfl, rfl⟩ rfl ?_
      intro b358 v359 H360 hv361 hle362 h363
      have hc364 : Value.cap' v359 = ([r355.1]).length := by rw [hv361]; rfl
      obtain ⟨hz365, hm⟩ := need_some hm
      refine W_perm (List.Perm.swap _ _ _) ?_
      refine W_appendO (α := ByteArray) (l := l280) (ys := [r355.1]) rfl rfl underlying38 ⟨_, rfl, rfl, rfl, rfl⟩ rfl rfl rfl rfl rfl (((hr281.mono hle346).mono hle354).mono hle362) h363 hz365 ?_
      intro v366 xs367 hr368
      refine W_assign rfl rfl rfl ?_
      refine W_end (E_normal_block (E_then (C_region ?_)))
      refine W_bin rfl rfl rfl rfl rfl ?_
      refine W_move rfl rfl rfl ?_
      refine W_end ?_
      exact E_keepJ (E_back (Nat.lt_succ_self _) ⟨k117 + 1, zs298, (l280 ++ ([r355.1])), r347.N.minus, r347.N.words, r347.D.minus, r347.D.words, v366, xs367, v349, v351, hd301, rfl, (by rw [hn294]; exact hm), hr368, (h350.mono hle362), (h352.mono hle362), (Hp.le_trans (Hp.le_trans (Hp.le_trans hle291 hle346) hle354) hle362), rfl, rfl⟩) (List.Perm.refl _) ⟨rfl, rfl, rfl, rfl, (congrArg (fun z => some (Value.int .i64 z)) (i64_succN hy299 (toNat_max hq296))), trivial⟩
    ·obtain rfl := rngN_f hd300 hb302
     have hm : (some (l280, 0)) = some r := hm
     refine C_exit (E_exit_then (E_exit_then (E_exit_hit (E_then (C_seq (C_region ?_))))))
     refine W_move rfl rfl rfl ?_
     refine W_assign rfl rfl rfl ?_
     refine W_assign rfl rfl rfl ?_
     refine W_end (E_then (C_ret ?_))
     obtain rfl := Option.some.inj hm
     refine E_drop (List.Sublist.cons_cons _ (List.Sublist.cons _ (List.Sublist.cons _ (List.Sublist.refl _)))) ?_
     refine E_weak (Hp.le_trans hle115 hle291) ?_
     exact end2 rfl rfl rfl ⟨rfl, v278, xs279, rfl, rfl, (hr281).toF⟩
  ·refine C_region ?_
   refine W_move rfl rfl rfl ?_
   refine W_bin rfl rfl rfl rfl rfl ?_
   refine W_move rfl rfl rfl ?_
   cases hb369 : (decide (p1_n < 0))
   ·refine W_move rfl rfl rfl ?_
    refine W_bin rfl rfl rfl rfl rfl ?_
    refine W_pick rfl rfl rfl rfl ?_
    refine W_end ?_
    exact E_keepJ (J106 _ _ _ ⟨rfl, rfl, rfl⟩) (List.Perm.refl _) ⟨rfl, rfl, (by show some (Value.bool (decide (200 < p1_n))) = some (Value.bool ((decide (p1_n < 0)) || (decide (200 < p1_n)))); first | (simp only [hb104, hb369, Bool.and_true, Bool.true_and, Bool.false_and, Bool.and_false, Bool.or_true, Bool.true_or, Bool.or_false, Bool.false_or, Bool.not_true, Bool.not_false]; done) | (simp only [hb104, hb369]; first | done | simp only [Bool.and_true, Bool.true_and, Bool.false_and, Bool.and_false, Bool.or_true, Bool.true_or, Bool.or_false, Bool.false_or, Bool.not_true, Bool.not_false])), trivial⟩
   ·refine W_no rfl rfl rfl ?_
    refine W_no rfl rfl rfl ?_
    refine W_pick rfl rfl rfl rfl ?_
    refine W_end ?_
    exact E_keepJ (J106 _ _ _ ⟨rfl, rfl, rfl⟩) (List.Perm.refl _) ⟨rfl, rfl, (by show some (Value.bool (true)) = some (Value.bool ((decide (p1_n < 0)) || (decide (200 < p1_n)))); first | (simp only [hb104, hb369, Bool.and_true, Bool.true_and, Bool.false_and, Bool.and_false, Bool.or_true, Bool.true_or, Bool.or_false, Bool.false_or, Bool.not_true, Bool.not_false]; done) | (simp only [hb104, hb369]; first | done | simp only [Bool.and_true, Bool.true_and, Bool.false_and, Bool.and_false, Bool.or_true, Bool.true_or, Bool.or_false, Bool.false_or, Bool.not_true, Bool.not_false])), trivial⟩

theorem m_swing_Step_c {B : Nat} {w0 w : World} [Tabs B w0] {H : Hp} {M : List Res} {p0_x : S_api_SwingIsland} {r : S_api_SwingIsland × Int} (hm : m_swing_Step p0_x = some r) (ht : St B w0 H (M) w) :
  Calls prog 11 [.agg [.int .i64 (p0_x.Inertia), .int .i64 (p0_x.Damping), .int .i64 (p0_x.Supply), .int .i64 (p0_x.Demand), .string (p0_x.Frequency)].toArray].toArray w (Ret B w0 fun H' M' v => H = H' ∧ M = M' ∧ .tuple #[.agg [.int .i64 (r.1.Inertia), .int .i64 (r.1.Damping), .int .i64 (r.1.Supply), .int .i64 (r.1.Demand), .string (r.1.Frequency)].toArray, .int .i64 (r.2)] = v) := by
 unfold m_swing_Step at hm
 refine enter func11 rfl rfl rfl ht ?_
 refine C_seq (C_region ?_)
 refine W_box (cs := [.int .i64 (p0_x.Inertia), .int .i64 (p0_x.Damping), .int .i64 (p0_x.Supply), .int .i64 (p0_x.Demand), .string (p0_x.Frequency)]) rfl rfl rfl rfl (fun b101 => ?_)
 refine W_alloc (cs := [.int .i64 (0), .int .i64 (0), .int .i64 (0), .int .i64 (0), .string (⟨#[]⟩)]) rfl rfl zeroValue24 rfl (fun b102 => ?_)
 refine W_assign rfl rfl rfl ?_
 refine W_end (E_then (C_seq (C_region ?_)))
 refine W_loadAgg rfl rfl isAgg24 sizeOf24 rfl (own_all (List.mem_cons_of_mem _ (List.mem_cons_self ..))) rfl ?_
 obtain ⟨r103, hc104, hm⟩ := bind_some hm
 refine W_call call20 rfl rfl rfl (fun w ht => by have h := m_swing_Run_c (hm := hc104)  ht; exact h) ?_
 rintro _ _ _ ⟨rfl, v105, xs106, rfl, rfl, h107⟩
 have h107 := h107 H
 refine W_move rfl rfl rfl ?_
 refine W_extract rfl rfl rfl rfl ?_
 refine W_extract rfl rfl rfl rfl ?_
 refine W_assign rfl rfl rfl ?_
 refine W_assign rfl rfl rfl ?_
 refine W_end (E_then (C_seq (C_seq (C_region ?_))))
 refine W_move rfl rfl rfl ?_
 refine W_bin rfl rfl rfl rfl rfl ?_
 refine W_end (E_then ?_)
 refine C_cond (b := !decide (r103.2 = 0)) rfl (fun hb108 => ?_) (fun hb108 => ?_)
 ·have hm := ite_t' hb108 hm
  refine C_seq (C_region ?_)
  refine W_build (css := []) (zs := [.int .i64 (0), .int .i64 (0), .int .i64 (0), .int .i64 (0), .string (⟨#[]⟩)]) (out := [.int .i64 (0), .int .i64 (0), .int .i64 (0), .int .i64 (0), .string (⟨#[]⟩)]) (places := [(0, 1), (1, 1), (2, 1), (3, 1), (4, 1)]) rfl rfl rfl trivial zeroValue24 rfl runUnderlying24 (fun w => by kernel_rfl) rfl ?_
  refine W_move rfl rfl rfl ?_
  refine W_perm (List.Perm.swap _ _ _) ?_
  refine W_store (cs := [.int .i64 (0), .int .i64 (0), .int .i64 (0), .int .i64 (0), .string (⟨#[]⟩)]) (out := [.int .i64 (0), .int .i64 (0), .int .i64 (0), .int .i64 (0), .string (⟨#[]⟩)]) rfl sizeOf24 rfl rfl rfl rfl rfl (all_cons rfl (all_cons rfl (all_cons rfl (all_cons rfl (all_cons rfl all_nil))))) (over_all rfl) ?_
  refine W_assign rfl rfl rfl ?_
  refine W_end (E_then (C_ret (E_ret_then ?_)))
  obtain rfl := Option.some.inj hm
  exact endC2 (Hp.le_refl _) rfl (ResV.agg rfl isAgg24 sizeOf24 (List.mem_cons_self ..) rfl) (ResV.tmp rfl) (List.Sublist.cons _ (List.Sublist.cons _ (List.Sublist.cons _ (List.Sublist.refl _)))) (List.Perm.refl _) ⟨rfl, rfl, rfl⟩
 ·have hm := ite_f' hb108 hm
  refine C_skip (E_then (C_seq (C_region ?_)))
  refine W_move rfl rfl rfl ?_
  obtain ⟨y109, h110, he111, hm⟩ := idx_some hm
  refine W_indexO (List.mem_cons_self ..) rfl rfl runUnderlying38 sizeOf22 rfl rfl h110 (List.getElem?_eq_some_iff.1 he111).1 ?_
  obtain ⟨_, rfl, hg112⟩ := (h107).elem he111
  refine W_load rfl rfl isAgg22 rfl (row_one0 (List.mem_cons_self ..) hg112 rfl) ?_
  refine W_field (o := 4) rfl rfl runUnderlying24 rfl sizeOf22 rfl rfl rfl ?_
  refine W_perm (List.Perm.trans (List.Perm.cons _ (List.Perm.swap _ _ _)) (List.Perm.swap _ _ _)) ?_
  refine W_store (cs := [.string (y109)]) (out := [.int .i64 (p0_x.Inertia), .int .i64 (p0_x.Damping), .int .i64 (p0_x.Supply), .int .i64 (p0_x.Demand), .string (y109)]) rfl sizeOf22 rfl rfl rfl rfl rfl (all_cons rfl all_nil) rfl ?_
  refine W_end (E_then (C_seq (C_region ?_)))
  refine W_loadAgg rfl rfl isAgg24 sizeOf24 rfl (own_all (List.mem_cons_self ..)) rfl ?_
  refine W_perm (List.Perm.trans (List.Perm.cons _ (List.Perm.swap _ _ _)) (List.Perm.swap _ _ _)) ?_
  refine W_store (cs := [.int .i64 (p0_x.Inertia), .int .i64 (p0_x.Damping), .int .i64 (p0_x.Supply), .int .i64 (p0_x.Demand), .string (y109)]) (out := [.int .i64 (p0_x.Inertia), .int .i64 (p0_x.Damping), .int .i64 (p0_x.Supply), .int .i64 (p0_x.Demand), .string (y109)]) rfl sizeOf24 rfl rfl rfl rfl rfl (all_cons rfl (all_cons rfl (all_cons rfl (all_cons rfl (all_cons rfl all_nil))))) (over_all rfl) ?_
  refine W_assign rfl rfl rfl ?_
  refine W_end (E_then (C_ret ?_))
  obtain rfl := Option.some.inj hm
  exact endC2 (Hp.le_refl _) rfl (ResV.agg rfl isAgg24 sizeOf24 (List.mem_cons_self ..) rfl) (ResV.tmp rfl) (List.Sublist.cons _ (List.Sublist.cons _ (List.Sublist.cons _ (List.Sublist.refl _)))) (List.Perm.refl _) ⟨rfl, rfl, rfl⟩

theorem m_rat_CheckAll_c {B : Nat} {w0 w : World} [Tabs B w0] {H : Hp} {M : List Res} {p0_l : (List ByteArray)} {v0 : Value} {r : Int} (hm : m_rat_CheckAll p0_l = some r) (h0 : RdS H v0 p0_l) (ht : St B w0 H (M) w) :
  Calls prog 46 [v0].toArray w (Ret B w0 fun H' M' v => H = H' ∧ M = M' ∧ .int .i64 (r) = v) := by
 unfold m_rat_CheckAll at hm
 refine enter func46 rfl rfl rfl ht ?_
 refine C_seq (C_region ?_)
 refine W_assign rfl rfl rfl ?_
 refine W_end (E_then (C_seq (C_seq (C_region ?_))))
 refine W_move rfl rfl rfl ?_
 refine W_lenR rfl rfl runUnderlying38 rfl h0 ?_
 refine W_move rfl rfl rfl ?_
 refine W_end (E_then (C_block ?_))
 refine C_keep (L' := [(6, v0), (7, .int .i64 ((p0_l.length : Int))), (8, .int .i64 (((0 : Nat) : Int)))]) ⟨rfl, rfl, rfl, trivial⟩ (List.Perm.refl _) ?_
 refine C_loop (fun n H' M' L' => ∃ (k101 : Nat) (zs117' : List ByteArray), (p0_l).drop k101 = zs117' ∧ zs117'.length = n ∧ forI (fun k y s112 n => m_rat_CheckAll_b1 k y n) (fun _ => some 0) k101 zs117' () = some r ∧ H.le H' ∧ M = M' ∧ [(6, v0), (7, .int .i64 ((p0_l.length : Int))), (8, .int .i64 ((k101 : Int)))] = L') _ ⟨0, _, rfl, rfl, hm, (Hp.le_refl _), rfl, rfl⟩ ?_
 rintro _ H110 _ _ ⟨k101, zs117', hd119, rfl, hm, hle111, rfl, rfl⟩
 refine C_seq (C_region ?_)
 refine W_bin rfl rfl rfl rfl rfl ?_
 refine W_end (E_then (C_seq ?_))
 refine C_cond (b := decide ((k101 : Int) < (p0_l.length : Int))) rfl (fun hb121 => ?_) (fun hb121 => ?_)
 ·obtain ⟨y116, zs117, rfl, hy118, hd120⟩ := rng_t hd119 hb121
  have hm : m_rat_CheckAll_b1 k101 y116 (forI (fun k y s112 n => m_rat_CheckAll_b1 k y n) (fun _ => some 0) (k101 + 1) zs117) = some r := hm
  generalize hn114 : forI (fun k y s112 n => m_rat_CheckAll_b1 k y n) (fun _ => some 0) (k101 + 1) zs117 = nx113 at hm
  unfold m_rat_CheckAll_b1 at hm
  refine C_skip (E_then (C_seq (C_block (C_seq (C_region ?_)))))
  obtain ⟨_, rfl, hc122⟩ := (h0).elem hy118
  refine W_indexS rfl rfl runUnderlying38 sizeOf22 rfl (h0.mono hle111) rfl (Int.natCast_nonneg _) hy118 ?_
  refine W_load rfl rfl isAgg22 rfl (HCells.one (hc122.mono hle111) 0 rfl).at ?_
  refine W_assign rfl rfl rfl ?_
  refine W_end (E_then (C_seq (C_region ?_)))
  refine W_move rfl rfl rfl ?_
  obtain ⟨r123, hc124, hm⟩ := bind_some hm
  refine W_call call26 rfl rfl rfl (fun w ht => by have h := m_rat_Check_c (hm := hc124)  ht; exact h) ?_
  rintro _ _ _ ⟨rfl, rfl, rfl⟩
  refine W_assign rfl rfl rfl ?_
  refine W_end (E_then (C_seq (C_region ?_)))
  refine W_move rfl rfl rfl ?_
  refine W_bin rfl rfl rfl rfl rfl ?_
  refine W_end (E_then ?_)
  refine C_cond (b := !decide (r123 = 0)) rfl (fun hb125 => ?_) (fun hb125 => ?_)
  ·have hm := ite_t' hb125 hm
   refine C_seq (C_region ?_)
   refine W_move rfl rfl rfl ?_
   refine W_assign rfl rfl rfl ?_
   refine W_end (E_then (C_ret (E_ret_block (E_ret_then (E_ret_then (E_ret_block (E_ret_then ?_)))))))
   obtain rfl := Option.some.inj hm
   refine E_weak hle111 ?_
   exact end1 rfl rfl ⟨rfl, rfl, rfl⟩
  ·have hm := ite_f' hb125 hm
   refine C_skip (E_normal_block (E_then (C_region ?_)))
   refine W_bin rfl rfl rfl rfl rfl ?_
   refine W_move rfl rfl rfl ?_
   refine W_end ?_
   exact E_keepJ (E_back (Nat.lt_succ_self _) ⟨k101 + 1, zs117, hd120, rfl, (by rw [hn114]; exact hm), hle111, rfl, rfl⟩) (List.Perm.refl _) ⟨rfl, rfl, (congrArg (fun z => some (Value.int .i64 z)) (i64_succ hy118 ((h0.mono hle111)).lenMax)), trivial⟩
 ·obtain rfl := rng_f hd119 hb121
  have hm : (some 0) = some r := hm
  refine C_exit (E_exit_then (E_exit_then (E_exit_hit (E_then (C_seq (C_region ?_))))))
  refine W_assign rfl rfl rfl ?_
  refine W_end (E_then (C_ret ?_))
  obtain rfl := Option.some.inj hm
  refine E_weak hle111 ?_
  exact end1 rfl rfl ⟨rfl, rfl, rfl⟩

theorem m_rat_text_c {B : Nat} {w0 w : World} [Tabs B w0] {H : Hp} {M : List Res} {p0_a : S_large_Rat} {v0 : Value} {v1 : Value} {r : ByteArray × Int} (hm : m_rat_text p0_a = some r) (h0 : RdS H v0 p0_a.N.words) (h1 : RdS H v1 p0_a.D.words) (ht : St B w0 H (M) w) :
  Calls prog 33 [.agg [.bool (p0_a.N.minus), v0, .bool (p0_a.D.minus), v1].toArray].toArray w (Ret B w0 fun H' M' v => H = H' ∧ M = M' ∧ .tuple #[.string (r.1), .int .i64 (r.2)] = v) := by
 unfold m_rat_text at hm
 refine enter func33 rfl rfl rfl ht ?_
 refine C_seq (C_region ?_)
 refine W_box (cs := [.bool (p0_a.N.minus), v0, .bool (p0_a.D.minus), v1]) rfl rfl rfl rfl (fun b101 => ?_)
 refine W_assign rfl rfl rfl ?_
 refine W_assign rfl rfl rfl ?_
 refine W_end (E_then (C_seq (C_region ?_)))
 refine W_loadAgg rfl rfl isAgg49 sizeOf49 rfl (own_all (List.mem_cons_self ..)) rfl ?_
 obtain ⟨r102, hc103, hm⟩ := bind_some hm
 refine W_call call38 rfl rfl rfl (fun w ht => by have h := m_large_Rat_Text_c (hm := hc103) h0 h1 ht; exact h) ?_
 rintro _ _ _ ⟨rfl, rfl, rfl⟩
 refine W_move rfl rfl rfl ?_
 refine W_extract rfl rfl rfl rfl ?_
 refine W_extract rfl rfl rfl rfl ?_
 refine W_assign rfl rfl rfl ?_
 refine W_assign rfl rfl rfl ?_
 refine W_end (E_then (C_seq (C_seq (C_region ?_))))
 refine W_move rfl rfl rfl ?_
 refine W_un rfl rfl rfl rfl ?_
 refine W_end (E_then ?_)
 refine C_cond (b := !r102.2) rfl (fun hb104 => ?_) (fun hb104 => ?_)
 ·have hm := ite_t' hb104 hm
  refine C_seq (C_region ?_)
  refine W_assign rfl rfl rfl ?_
  refine W_assign rfl rfl rfl ?_
  refine W_end (E_then (C_ret (E_ret_then ?_)))
  obtain rfl := Option.some.inj hm
  refine E_drop (List.Sublist.cons _ (List.Sublist.refl _)) ?_
  refine E_weak (Hp.le_refl _) ?_
  exact end2 rfl rfl rfl ⟨rfl, rfl, rfl⟩
 ·have hm := ite_f' hb104 hm
  refine C_skip (E_then (C_seq (C_region ?_)))
  refine W_move rfl rfl rfl ?_
  refine W_assign rfl rfl rfl ?_
  refine W_assign rfl rfl rfl ?_
  refine W_end (E_then (C_ret ?_))
  obtain rfl := Option.some.inj hm
  refine E_drop (List.Sublist.cons _ (List.Sublist.refl _)) ?_
  refine E_weak (Hp.le_refl _) ?_
  exact end2 rfl rfl rfl ⟨rfl, rfl, rfl⟩

theorem m_rat_op__large_Rat_Add_c {B : Nat} {w0 w : World} [Tabs B w0] {H : Hp} {M : List Res} {p0_a : ByteArray} {p1_b : ByteArray} {r : ByteArray × Int} (hm : m_rat_op__large_Rat_Add p0_a p1_b = some r) (ht : St B w0 H (M) w) :
  Calls prog 30 [.string (p0_a), .string (p1_b), .func (.func 31) [].toArray [].toArray].toArray w (Ret B w0 fun H' M' v => H = H' ∧ M = M' ∧ .tuple #[.string (r.1), .int .i64 (r.2)] = v) := by
 unfold m_rat_op__large_Rat_Add at hm
 refine enter func30 rfl rfl rfl ht ?_
 refine C_seq (C_region ?_)
 refine W_assign rfl rfl rfl ?_
 refine W_assign rfl rfl rfl ?_
 refine W_end (E_then (C_seq (C_seq (C_region ?_))))
 refine W_move rfl rfl rfl ?_
 refine W_move rfl rfl rfl ?_
 refine W_buildSliceO (α := ByteArray) (css := [[.string (p0_a)], [.string (p1_b)]]) (zs := [.string (⟨#[]⟩), .string (⟨#[]⟩)]) (out := [.string (p0_a), .string (p1_b)]) (ys := [p0_a, p1_b]) rfl rfl rfl ⟨rfl, rfl, trivial⟩ runUnderlying38 sizeOf22 rfl zeroValue22 (by kernel_rfl) rfl rfl rfl rfl ⟨[.string (p0_a)], [.string (p1_b)], rfl, rfl, ⟨[.string (p1_b)], [], rfl, rfl, rfl⟩⟩ rfl ?_
 intro v101 xs102 hr103
 obtain ⟨r104, hc105, hm⟩ := bind_some hm
 refine W_call call46 rfl rfl rfl (fun w ht => by obtain ⟨H0_, hl0_, ht0_, hr0_, bk0_⟩ := ht.lendRow hr103 rfl; have h := m_rat_CheckAll_c (hm := hc105) hr0_ ht0_; exact lend_back bk0_ (h)) ?_
 rintro _ _ _ ⟨rfl, ⟨_, rfl, rfl, rfl⟩⟩
 refine W_assign rfl rfl rfl ?_
 refine W_end (E_then (C_seq (C_region ?_)))
 refine W_move rfl rfl rfl ?_
 refine W_bin rfl rfl rfl rfl rfl ?_
 refine W_end (E_then ?_)
 refine C_cond (b := !decide (r104 = 0)) rfl (fun hb106 => ?_) (fun hb106 => ?_)
 ·have hm := ite_t' hb106 hm
  refine C_seq (C_region ?_)
  refine W_move rfl rfl rfl ?_
  refine W_assign rfl rfl rfl ?_
  refine W_assign rfl rfl rfl ?_
  refine W_end (E_then (C_ret (E_ret_then ?_)))
  obtain rfl := Option.some.inj hm
  refine E_drop (List.Sublist.cons _ (List.Sublist.refl _)) ?_
  refine E_weak (Hp.le_refl _) ?_
  exact end2 rfl rfl rfl ⟨rfl, rfl, rfl⟩
 ·have hm := ite_f' hb106 hm
  refine C_skip (E_then (C_seq (C_region ?_)))
  refine W_move rfl rfl rfl ?_
  refine W_move rfl rfl rfl ?_
  obtain ⟨r107, hc108, hm⟩ := bind_some hm
  refine W_call call29 rfl rfl rfl (fun w ht => by have h := m_large_Parse_c (hm := hc108)  ht; exact h) ?_
  rintro _ H113 _ ⟨hle114, v109, v111, rfl, rfl, h110, h112⟩
  refine W_move rfl rfl rfl ?_
  obtain ⟨r115, hc116, hm⟩ := bind_some hm
  refine W_call call29 rfl rfl rfl (fun w ht => by have h := m_large_Parse_c (hm := hc116)  ht; exact h) ?_
  rintro _ H121 _ ⟨hle122, v117, v119, rfl, rfl, h118, h120⟩
  obtain ⟨r123, hc124, hm⟩ := bind_some hm
  refine W_callv call31 rfl rfl rfl rfl (fun w ht => by have h := m_large_Rat_Add_c (hm := hc124) (h110.mono hle122) (h112.mono hle122) h118 h120 ht; exact h) ?_
  rintro _ H129 _ ⟨hle130, v125, v127, rfl, rfl, h126, h128⟩
  obtain ⟨r131, hc132, hm⟩ := bind_some hm
  refine W_call call33 rfl rfl rfl (fun w ht => by have h := m_rat_text_c (hm := hc132) h126 h128 ht; exact h) ?_
  rintro _ _ _ ⟨rfl, rfl, rfl⟩
  refine W_extract rfl rfl rfl rfl ?_
  refine W_extract rfl rfl rfl rfl ?_
  refine W_assign rfl rfl rfl ?_
  refine W_assign rfl rfl rfl ?_
  refine W_end (E_then (C_ret ?_))
  obtain rfl := Option.some.inj hm
  refine E_drop (List.Sublist.cons _ (List.Sublist.refl _)) ?_
  refine E_weak (Hp.le_trans (Hp.le_trans hle114 hle122) hle130) ?_
  exact end2 rfl rfl rfl ⟨rfl, rfl, rfl⟩

theorem m_rat_Add_c {B : Nat} {w0 w : World} [Tabs B w0] {H : Hp} {M : List Res} {p0_a : ByteArray} {p1_b : ByteArray} {r : ByteArray × Int} (hm : m_rat_Add p0_a p1_b = some r) (ht : St B w0 H (M) w) :
  Calls prog 14 [.string (p0_a), .string (p1_b)].toArray w (Ret B w0 fun H' M' v => H = H' ∧ M = M' ∧ .tuple #[.string (r.1), .int .i64 (r.2)] = v) := by
 unfold m_rat_Add at hm
 refine enter func14 rfl rfl rfl ht ?_
 refine C_seq (C_region ?_)
 refine W_assign rfl rfl rfl ?_
 refine W_assign rfl rfl rfl ?_
 refine W_end (E_then (C_seq (C_region ?_)))
 refine W_move rfl rfl rfl ?_
 refine W_move rfl rfl rfl ?_
 obtain ⟨r101, hc102, hm⟩ := bind_some hm
 refine W_call call30 rfl rfl rfl (fun w ht => by have h := m_rat_op__large_Rat_Add_c (hm := hc102)  ht; exact h) ?_
 rintro _ _ _ ⟨rfl, rfl, rfl⟩
 refine W_extract rfl rfl rfl rfl ?_
 refine W_extract rfl rfl rfl rfl ?_
 refine W_assign rfl rfl rfl ?_
 refine W_assign rfl rfl rfl ?_
 refine W_end (E_then (C_ret ?_))
 obtain rfl := Option.some.inj hm
 refine E_weak (Hp.le_refl _) ?_
 exact end2 rfl rfl rfl ⟨rfl, rfl, rfl⟩

theorem m_gridhallkeep4_swingFact_c {B : Nat} {w0 w : World} [Tabs B w0] {H : Hp} {M : List Res} {r : Bool} (hm : m_gridhallkeep4_swingFact = some r) (ht : St B w0 H (M) w) :
  Calls prog 9 [].toArray w (Ret B w0 fun H' M' v => H = H' ∧ M = M' ∧ .bool (r) = v) := by
 unfold m_gridhallkeep4_swingFact at hm
 refine enter func9 rfl rfl rfl ht ?_
 refine C_seq (C_region ?_)
 refine W_assign rfl rfl rfl ?_
 refine W_end (E_then (C_seq (C_region ?_)))
 refine W_build (css := [[.int .i64 (10)], [.int .i64 (105)], [.int .i64 (100)], [.string (⟨#[48]⟩)]]) (zs := [.int .i64 (0), .int .i64 (0), .int .i64 (0), .int .i64 (0), .string (⟨#[]⟩)]) (out := [.int .i64 (10), .int .i64 (0), .int .i64 (105), .int .i64 (100), .string (⟨#[48]⟩)]) (places := [(0, 1), (1, 1), (2, 1), (3, 1), (4, 1)]) rfl rfl rfl ⟨rfl, rfl, rfl, rfl, trivial⟩ zeroValue24 rfl runUnderlying24 (fun w => by kernel_rfl) rfl ?_
 obtain ⟨r101, hc102, hm⟩ := bind_some hm
 refine W_call call11 rfl rfl rfl (fun w ht => by have h := m_swing_Step_c (hm := hc102)  ht; exact h) ?_
 rintro _ _ _ ⟨rfl, rfl, rfl⟩
 refine W_move rfl rfl rfl ?_
 refine W_extract rfl rfl rfl rfl ?_
 refine W_extract rfl rfl rfl rfl ?_
 refine W_alloc (cs := [.int .i64 (0), .int .i64 (0), .int .i64 (0), .int .i64 (0), .string (⟨#[]⟩)]) rfl rfl zeroValue24 rfl (fun b103 => ?_)
 refine W_store (cs := [.int .i64 (r101.1.Inertia), .int .i64 (r101.1.Damping), .int .i64 (r101.1.Supply), .int .i64 (r101.1.Demand), .string (r101.1.Frequency)]) (out := [.int .i64 (r101.1.Inertia), .int .i64 (r101.1.Damping), .int .i64 (r101.1.Supply), .int .i64 (r101.1.Demand), .string (r101.1.Frequency)]) rfl sizeOf24 rfl rfl rfl rfl rfl (all_cons rfl (all_cons rfl (all_cons rfl (all_cons rfl (all_cons rfl all_nil))))) (over_all rfl) ?_
 refine W_assign rfl rfl rfl ?_
 refine W_end (E_then (C_seq (C_region ?_)))
 obtain ⟨r104, hc105, hm⟩ := bind_some hm
 refine W_call call14 rfl rfl rfl (fun w ht => by have h := m_rat_Add_c (hm := hc105)  ht; exact h) ?_
 rintro _ _ _ ⟨rfl, rfl, rfl⟩
 refine W_move rfl rfl rfl ?_
 refine W_extract rfl rfl rfl rfl ?_
 refine W_extract rfl rfl rfl rfl ?_
 refine W_assign rfl rfl rfl ?_
 refine W_assign rfl rfl rfl ?_
 refine W_end (E_then ?_)
 refine C_seq_join (fun H' M' L' => H = H' ∧ M = M' ∧ [(0, .bool ((((decide (r101.2 = 0)) && (decide (r104.2 = 0))) && (decide (r101.1.Frequency = (⟨#[49, 47, 50]⟩)))) && (decide (r104.1 = (⟨#[53, 47, 54]⟩)))))] = L') ?_ (fun J109 => ?_)
 ·rintro _ _ _ ⟨rfl, rfl, rfl⟩
  refine C_ret ?_
  obtain rfl := Option.some.inj hm
  refine E_weak (Hp.le_refl _) ?_
  exact end1 rfl rfl ⟨rfl, rfl, rfl⟩
 ·refine C_region ?_
  refine W_move rfl rfl rfl ?_
  refine W_bin rfl rfl rfl rfl rfl ?_
  refine W_move rfl rfl rfl ?_
  cases hb110 : (decide (r101.2 = 0))
  ·refine W_no rfl rfl rfl ?_
   refine W_no rfl rfl rfl ?_
   refine W_pick rfl rfl rfl rfl ?_
   refine W_move rfl rfl rfl ?_
   refine W_no rfl rfl rfl ?_
   refine W_no rfl rfl rfl ?_
   refine W_no rfl rfl rfl ?_
   refine W_pick rfl rfl rfl rfl ?_
   refine W_move rfl rfl rfl ?_
   refine W_no rfl rfl rfl ?_
   refine W_no rfl rfl rfl ?_
   refine W_pick rfl rfl rfl rfl ?_
   refine W_assign rfl rfl rfl ?_
   refine W_end ?_
   refine E_drop (List.Sublist.cons _ (List.Sublist.refl _)) ?_
   exact E_keepJ (J109 _ _ _ ⟨rfl, rfl, rfl⟩) (List.Perm.refl _) ⟨(by show some (Value.bool (false)) = some (Value.bool ((((decide (r101.2 = 0)) && (decide (r104.2 = 0))) && (decide (r101.1.Frequency = (⟨#[49, 47, 50]⟩)))) && (decide (r104.1 = (⟨#[53, 47, 54]⟩))))); first | (simp only [hb110, Bool.and_true, Bool.true_and, Bool.false_and, Bool.and_false, Bool.or_true, Bool.true_or, Bool.or_false, Bool.false_or, Bool.not_true, Bool.not_false]; done) | (simp only [hb110]; first | done | simp only [Bool.and_true, Bool.true_and, Bool.false_and, Bool.and_false, Bool.or_true, Bool.true_or, Bool.or_false, Bool.false_or, Bool.not_true, Bool.not_false])), trivial⟩
  ·refine W_move rfl rfl rfl ?_
   refine W_bin rfl rfl rfl rfl rfl ?_
   refine W_pick rfl rfl rfl rfl ?_
   refine W_move rfl rfl rfl ?_
   cases hb111 : (decide (r104.2 = 0))
   ·refine W_no rfl rfl rfl ?_
    refine W_no rfl rfl rfl ?_
    refine W_no rfl rfl rfl ?_
    refine W_pick rfl rfl rfl rfl ?_
    refine W_move rfl rfl rfl ?_
    refine W_no rfl rfl rfl ?_
    refine W_no rfl rfl rfl ?_
    refine W_pick rfl rfl rfl rfl ?_
    refine W_assign rfl rfl rfl ?_
    refine W_end ?_
    refine E_drop (List.Sublist.cons _ (List.Sublist.refl _)) ?_
    exact E_keepJ (J109 _ _ _ ⟨rfl, rfl, rfl⟩) (List.Perm.refl _) ⟨(by show some (Value.bool (false)) = some (Value.bool ((((decide (r101.2 = 0)) && (decide (r104.2 = 0))) && (decide (r101.1.Frequency = (⟨#[49, 47, 50]⟩)))) && (decide (r104.1 = (⟨#[53, 47, 54]⟩))))); first | (simp only [hb110, hb111, Bool.and_true, Bool.true_and, Bool.false_and, Bool.and_false, Bool.or_true, Bool.true_or, Bool.or_false, Bool.false_or, Bool.not_true, Bool.not_false]; done) | (simp only [hb110, hb111]; first | done | simp only [Bool.and_true, Bool.true_and, Bool.false_and, Bool.and_false, Bool.or_true, Bool.true_or, Bool.or_false, Bool.false_or, Bool.not_true, Bool.not_false])), trivial⟩
   ·refine W_field (o := 4) rfl rfl runUnderlying24 rfl sizeOf22 rfl rfl rfl ?_
    refine W_load rfl rfl isAgg22 rfl (own_at (List.mem_cons_self ..) rfl) ?_
    refine W_bin rfl rfl rfl rfl rfl ?_
    refine W_pick rfl rfl rfl rfl ?_
    refine W_move rfl rfl rfl ?_
    cases hb112 : (decide (r101.1.Frequency = (⟨#[49, 47, 50]⟩)))
    ·refine W_no rfl rfl rfl ?_
     refine W_no rfl rfl rfl ?_
     refine W_pick rfl rfl rfl rfl ?_
     refine W_assign rfl rfl rfl ?_
     refine W_end ?_
     refine E_drop (List.Sublist.cons _ (List.Sublist.refl _)) ?_
     exact E_keepJ (J109 _ _ _ ⟨rfl, rfl, rfl⟩) (List.Perm.refl _) ⟨(by show some (Value.bool (false)) = some (Value.bool ((((decide (r101.2 = 0)) && (decide (r104.2 = 0))) && (decide (r101.1.Frequency = (⟨#[49, 47, 50]⟩)))) && (decide (r104.1 = (⟨#[53, 47, 54]⟩))))); first | (simp only [hb110, hb111, hb112, Bool.and_true, Bool.true_and, Bool.false_and, Bool.and_false, Bool.or_true, Bool.true_or, Bool.or_false, Bool.false_or, Bool.not_true, Bool.not_false]; done) | (simp only [hb110, hb111, hb112]; first | done | simp only [Bool.and_true, Bool.true_and, Bool.false_and, Bool.and_false, Bool.or_true, Bool.true_or, Bool.or_false, Bool.false_or, Bool.not_true, Bool.not_false])), trivial⟩
    ·refine W_move rfl rfl rfl ?_
     refine W_bin rfl rfl rfl rfl rfl ?_
     refine W_pick rfl rfl rfl rfl ?_
     refine W_assign rfl rfl rfl ?_
     refine W_end ?_
     refine E_drop (List.Sublist.cons _ (List.Sublist.refl _)) ?_
     exact E_keepJ (J109 _ _ _ ⟨rfl, rfl, rfl⟩) (List.Perm.refl _) ⟨(by show some (Value.bool (decide (r104.1 = (⟨#[53, 47, 54]⟩)))) = some (Value.bool ((((decide (r101.2 = 0)) && (decide (r104.2 = 0))) && (decide (r101.1.Frequency = (⟨#[49, 47, 50]⟩)))) && (decide (r104.1 = (⟨#[53, 47, 54]⟩))))); first | (simp only [hb110, hb111, hb112, Bool.and_true, Bool.true_and, Bool.false_and, Bool.and_false, Bool.or_true, Bool.true_or, Bool.or_false, Bool.false_or, Bool.not_true, Bool.not_false]; done) | (simp only [hb110, hb111, hb112]; first | done | simp only [Bool.and_true, Bool.true_and, Bool.false_and, Bool.and_false, Bool.or_true, Bool.true_or, Bool.or_false, Bool.false_or, Bool.not_true, Bool.not_false])), trivial⟩

theorem m_gridhallkeep4_SwingSteady_c {B : Nat} {w0 w : World} [Tabs B w0] {H : Hp} {M : List Res} {p0_x : S_api_SwingIsland} {r : Bool} (hm : m_gridhallkeep4_SwingSteady p0_x = some r) (ht : St B w0 H (M) w) :
  Calls prog 3 [.agg [.int .i64 (p0_x.Inertia), .int .i64 (p0_x.Damping), .int .i64 (p0_x.Supply), .int .i64 (p0_x.Demand), .string (p0_x.Frequency)].toArray].toArray w (Ret B w0 fun H' M' v => H = H' ∧ M = M' ∧ .bool (r) = v) := by
 unfold m_gridhallkeep4_SwingSteady at hm
 refine enter func3 rfl rfl rfl ht ?_
 refine C_seq (C_region ?_)
 refine W_box (cs := [.int .i64 (p0_x.Inertia), .int .i64 (p0_x.Damping), .int .i64 (p0_x.Supply), .int .i64 (p0_x.Demand), .string (p0_x.Frequency)]) rfl rfl rfl rfl (fun b101 => ?_)
 refine W_assign rfl rfl rfl ?_
 refine W_end (E_then (C_seq (C_region ?_)))
 refine W_loadAgg rfl rfl isAgg24 sizeOf24 rfl (own_all (List.mem_cons_self ..)) rfl ?_
 obtain ⟨r102, hc103, hm⟩ := bind_some hm
 refine W_call call8 rfl rfl rfl (fun w ht => by have h := m_swing_Steady_c (hm := hc103)  ht; exact h) ?_
 rintro _ _ _ ⟨rfl, rfl, rfl⟩
 refine W_move rfl rfl rfl ?_
 refine W_extract rfl rfl rfl rfl ?_
 refine W_extract rfl rfl rfl rfl ?_
 refine W_assign rfl rfl rfl ?_
 refine W_assign rfl rfl rfl ?_
 refine W_end (E_then (C_seq (C_seq (C_region ?_))))
 refine W_move rfl rfl rfl ?_
 refine W_bin rfl rfl rfl rfl rfl ?_
 refine W_end (E_then ?_)
 refine C_cond (b := !decide (r102.2 = 0)) rfl (fun hb104 => ?_) (fun hb104 => ?_)
 ·have hm := ite_t' hb104 hm
  refine C_seq (C_region ?_)
  obtain ⟨r105, hc106, hm⟩ := bind_some hm
  refine W_call call9 rfl rfl rfl (fun w ht => by have h := m_gridhallkeep4_swingFact_c (hm := hc106)  ht; exact h) ?_
  rintro _ _ _ ⟨rfl, rfl, rfl⟩
  refine W_move rfl rfl rfl ?_
  cases hb107 : (r105)
  ·have hm := ite_f' hb107 hm
   refine W_no rfl rfl rfl ?_
   refine W_no rfl rfl rfl ?_
   refine W_pick rfl rfl rfl rfl ?_
   refine W_move rfl rfl rfl ?_
   refine W_no rfl rfl rfl ?_
   refine W_no rfl rfl rfl ?_
   refine W_no rfl rfl rfl ?_
   refine W_no rfl rfl rfl ?_
   refine W_no rfl rfl rfl ?_
   refine W_no rfl rfl rfl ?_
   refine W_no rfl rfl rfl ?_
   refine W_no rfl rfl rfl ?_
   refine W_pick rfl rfl rfl rfl ?_
   refine W_assign rfl rfl rfl ?_
   refine W_end (E_then (C_ret (E_ret_then ?_)))
   obtain rfl := Option.some.inj hm
   refine E_drop (List.Sublist.cons _ (List.Sublist.refl _)) ?_
   refine E_weak (Hp.le_refl _) ?_
   exact end1 rfl rfl ⟨rfl, rfl, rfl⟩
  ·have hm := ite_t' hb107 hm
   refine W_move rfl rfl rfl ?_
   refine W_bin rfl rfl rfl rfl rfl ?_
   refine W_pick rfl rfl rfl rfl ?_
   refine W_move rfl rfl rfl ?_
   cases hb108 : (decide (r102.1 = (⟨#[]⟩)))
   ·have hm := ite_f' hb108 hm
    refine W_no rfl rfl rfl ?_
    refine W_no rfl rfl rfl ?_
    refine W_no rfl rfl rfl ?_
    refine W_no rfl rfl rfl ?_
    refine W_no rfl rfl rfl ?_
    refine W_no rfl rfl rfl ?_
    refine W_no rfl rfl rfl ?_
    refine W_no rfl rfl rfl ?_
    refine W_pick rfl rfl rfl rfl ?_
    refine W_assign rfl rfl rfl ?_
    refine W_end (E_then (C_ret (E_ret_then ?_)))
    obtain rfl := Option.some.inj hm
    refine E_drop (List.Sublist.cons _ (List.Sublist.refl _)) ?_
    refine E_weak (Hp.le_refl _) ?_
    exact end1 rfl rfl ⟨rfl, rfl, rfl⟩
   ·have hm := ite_t' hb108 hm
    refine W_move rfl rfl rfl ?_
    refine W_bin rfl rfl rfl rfl rfl ?_
    refine W_move rfl rfl rfl ?_
    cases hb109 : (decide (r102.2 = 10))
    ·have hm := ite_f' hb109 hm
     refine W_move rfl rfl rfl ?_
     refine W_loadAgg rfl rfl isAgg24 sizeOf24 rfl (own_all (List.mem_cons_self ..)) rfl ?_
     obtain ⟨r110, hc111, hm⟩ := bind_some hm
     refine W_call call10 rfl rfl rfl (fun w ht => by have h := m_swing_Check_c (hm := hc111)  ht; exact h) ?_
     rintro _ _ _ ⟨rfl, rfl, rfl⟩
     refine W_bin rfl rfl rfl rfl rfl ?_
     refine W_pick rfl rfl rfl rfl ?_
     refine W_pick rfl rfl rfl rfl ?_
     refine W_assign rfl rfl rfl ?_
     refine W_end (E_then (C_ret (E_ret_then ?_)))
     obtain rfl := Option.some.inj hm
     refine E_drop (List.Sublist.cons _ (List.Sublist.refl _)) ?_
     refine E_weak (Hp.le_refl _) ?_
     exact end1 rfl rfl ⟨rfl, rfl, rfl⟩
    ·have hm := ite_t' hb109 hm
     refine W_no rfl rfl rfl ?_
     refine W_no rfl rfl rfl ?_
     refine W_no rfl rfl rfl ?_
     refine W_no rfl rfl rfl ?_
     refine W_pick rfl rfl rfl rfl ?_
     refine W_pick rfl rfl rfl rfl ?_
     refine W_assign rfl rfl rfl ?_
     refine W_end (E_then (C_ret (E_ret_then ?_)))
     obtain rfl := Option.some.inj hm
     refine E_drop (List.Sublist.cons _ (List.Sublist.refl _)) ?_
     refine E_weak (Hp.le_refl _) ?_
     exact end1 rfl rfl ⟨rfl, rfl, rfl⟩
 ·have hm := ite_f' hb104 hm
  refine C_skip (E_then (C_seq (C_region ?_)))
  refine W_move rfl rfl rfl ?_
  refine W_field (o := 4) rfl rfl runUnderlying24 rfl sizeOf22 rfl rfl rfl ?_
  refine W_store (cs := [.string (r102.1)]) (out := [.int .i64 (p0_x.Inertia), .int .i64 (p0_x.Damping), .int .i64 (p0_x.Supply), .int .i64 (p0_x.Demand), .string (r102.1)]) rfl sizeOf22 rfl rfl rfl rfl rfl (all_cons rfl all_nil) rfl ?_
  refine W_end (E_then (C_seq (C_region ?_)))
  refine W_loadAgg rfl rfl isAgg24 sizeOf24 rfl (own_all (List.mem_cons_self ..)) rfl ?_
  obtain ⟨r112, hc113, hm⟩ := bind_some hm
  refine W_call call11 rfl rfl rfl (fun w ht => by have h := m_swing_Step_c (hm := hc113)  ht; exact h) ?_
  rintro _ _ _ ⟨rfl, rfl, rfl⟩
  refine W_move rfl rfl rfl ?_
  refine W_extract rfl rfl rfl rfl ?_
  refine W_extract rfl rfl rfl rfl ?_
  refine W_alloc (cs := [.int .i64 (0), .int .i64 (0), .int .i64 (0), .int .i64 (0), .string (⟨#[]⟩)]) rfl rfl zeroValue24 rfl (fun b114 => ?_)
  refine W_store (cs := [.int .i64 (r112.1.Inertia), .int .i64 (r112.1.Damping), .int .i64 (r112.1.Supply), .int .i64 (r112.1.Demand), .string (r112.1.Frequency)]) (out := [.int .i64 (r112.1.Inertia), .int .i64 (r112.1.Damping), .int .i64 (r112.1.Supply), .int .i64 (r112.1.Demand), .string (r112.1.Frequency)]) rfl sizeOf24 rfl rfl rfl rfl rfl (all_cons rfl (all_cons rfl (all_cons rfl (all_cons rfl (all_cons rfl all_nil))))) (over_all rfl) ?_
  refine W_assign rfl rfl rfl ?_
  refine W_end (E_then ?_)
  obtain ⟨r119, hc120, hm⟩ := bind_some hm
  refine C_seq_join (fun H' M' L' => H = H' ∧ M = M' ∧ [(2, .bool ((r119 && (decide (r112.2 = 0))) && (decide (r112.1.Inertia = p0_x.Inertia) && (decide (r112.1.Damping = p0_x.Damping) && (decide (r112.1.Supply = p0_x.Supply) && (decide (r112.1.Demand = p0_x.Demand) && (decide (r112.1.Frequency = r102.1) && true)))))))] = L') ?_ (fun J121 => ?_)
  ·rintro _ _ _ ⟨rfl, rfl, rfl⟩
   refine C_ret ?_
   obtain rfl := Option.some.inj hm
   refine E_weak (Hp.le_refl _) ?_
   exact end1 rfl rfl ⟨rfl, rfl, rfl⟩
  ·refine C_region ?_
   refine W_call call9 rfl rfl rfl (fun w ht => by have h := m_gridhallkeep4_swingFact_c (hm := hc120)  ht; exact h) ?_
   rintro _ _ _ ⟨rfl, rfl, rfl⟩
   refine W_move rfl rfl rfl ?_
   cases hb122 : (r119)
   ·refine W_no rfl rfl rfl ?_
    refine W_no rfl rfl rfl ?_
    refine W_pick rfl rfl rfl rfl ?_
    refine W_move rfl rfl rfl ?_
    refine W_no rfl rfl rfl ?_
    refine W_no rfl rfl rfl ?_
    refine W_no rfl rfl rfl ?_
    refine W_pick rfl rfl rfl rfl ?_
    refine W_assign rfl rfl rfl ?_
    refine W_end ?_
    refine E_drop (List.Sublist.cons _ (List.Sublist.cons _ (List.Sublist.refl _))) ?_
    exact E_keepJ (J121 _ _ _ ⟨rfl, rfl, rfl⟩) (List.Perm.refl _) ⟨(by show some (Value.bool (false)) = some (Value.bool ((r119 && (decide (r112.2 = 0))) && (decide (r112.1.Inertia = p0_x.Inertia) && (decide (r112.1.Damping = p0_x.Damping) && (decide (r112.1.Supply = p0_x.Supply) && (decide (r112.1.Demand = p0_x.Demand) && (decide (r112.1.Frequency = r102.1) && true))))))); first | (simp only [hb104, hb122, Bool.and_true, Bool.true_and, Bool.false_and, Bool.and_false, Bool.or_true, Bool.true_or, Bool.or_false, Bool.false_or, Bool.not_true, Bool.not_false]; done) | (simp only [hb104, hb122]; first | done | simp only [Bool.and_true, Bool.true_and, Bool.false_and, Bool.and_false, Bool.or_true, Bool.true_or, Bool.or_false, Bool.false_or, Bool.not_true, Bool.not_false])), trivial⟩
   ·refine W_move rfl rfl rfl ?_
    refine W_bin rfl rfl rfl rfl rfl ?_
    refine W_pick rfl rfl rfl rfl ?_
    refine W_move rfl rfl rfl ?_
    cases hb123 : (decide (r112.2 = 0))
    ·refine W_no rfl rfl rfl ?_
     refine W_no rfl rfl rfl ?_
     refine W_no rfl rfl rfl ?_
     refine W_pick rfl rfl rfl rfl ?_
     refine W_assign rfl rfl rfl ?_
     refine W_end ?_
     refine E_drop (List.Sublist.cons _ (List.Sublist.cons _ (List.Sublist.refl _))) ?_
     exact E_keepJ (J121 _ _ _ ⟨rfl, rfl, rfl⟩) (List.Perm.refl _) ⟨(by show some (Value.bool (false)) = some (Value.bool ((r119 && (decide (r112.2 = 0))) && (decide (r112.1.Inertia = p0_x.Inertia) && (decide (r112.1.Damping = p0_x.Damping) && (decide (r112.1.Supply = p0_x.Supply) && (decide (r112.1.Demand = p0_x.Demand) && (decide (r112.1.Frequency = r102.1) && true))))))); first | (simp only [hb104, hb122, hb123, Bool.and_true, Bool.true_and, Bool.false_and, Bool.and_false, Bool.or_true, Bool.true_or, Bool.or_false, Bool.false_or, Bool.not_true, Bool.not_false]; done) | (simp only [hb104, hb122, hb123]; first | done | simp only [Bool.and_true, Bool.true_and, Bool.false_and, Bool.and_false, Bool.or_true, Bool.true_or, Bool.or_false, Bool.false_or, Bool.not_true, Bool.not_false])), trivial⟩
    ·refine W_loadAgg rfl rfl isAgg24 sizeOf24 rfl (own_all (List.mem_cons_self ..)) rfl ?_
     refine W_loadAgg rfl rfl isAgg24 sizeOf24 rfl (own_all (List.mem_cons_of_mem _ (List.mem_cons_self ..))) rfl ?_
     refine W_eqAgg (b := decide (r112.1.Inertia = p0_x.Inertia) && (decide (r112.1.Damping = p0_x.Damping) && (decide (r112.1.Supply = p0_x.Supply) && (decide (r112.1.Demand = p0_x.Demand) && (decide (r112.1.Frequency = r102.1) && true))))) rfl rfl (by kernel_rfl) rfl rfl (fun w => run_equal_struct (bs := [decide (r112.1.Inertia = p0_x.Inertia), decide (r112.1.Damping = p0_x.Damping), decide (r112.1.Supply = p0_x.Supply), decide (r112.1.Demand = p0_x.Demand), decide (r112.1.Frequency = r102.1)]) runUnderlying24 (by kernel_rfl) ⟨(by decide), (fldEq_int isAgg3 runUnderlying3 rfl rfl), (by decide), (fldEq_int isAgg3 runUnderlying3 rfl rfl), (by decide), (fldEq_int isAgg3 runUnderlying3 rfl rfl), (by decide), (fldEq_int isAgg3 runUnderlying3 rfl rfl), (by decide), (fldEq_str isAgg22 runUnderlying22 rfl rfl), trivial⟩) ?_
     refine W_pick rfl rfl rfl rfl ?_
     refine W_assign rfl rfl rfl ?_
     refine W_end ?_
     refine E_drop (List.Sublist.cons _ (List.Sublist.cons _ (List.Sublist.refl _))) ?_
     exact E_keepJ (J121 _ _ _ ⟨rfl, rfl, rfl⟩) (List.Perm.refl _) ⟨(by show some (Value.bool (decide (r112.1.Inertia = p0_x.Inertia) && (decide (r112.1.Damping = p0_x.Damping) && (decide (r112.1.Supply = p0_x.Supply) && (decide (r112.1.Demand = p0_x.Demand) && (decide (r112.1.Frequency = r102.1) && true)))))) = some (Value.bool ((r119 && (decide (r112.2 = 0))) && (decide (r112.1.Inertia = p0_x.Inertia) && (decide (r112.1.Damping = p0_x.Damping) && (decide (r112.1.Supply = p0_x.Supply) && (decide (r112.1.Demand = p0_x.Demand) && (decide (r112.1.Frequency = r102.1) && true))))))); first | (simp only [hb104, hb122, hb123, Bool.and_true, Bool.true_and, Bool.false_and, Bool.and_false, Bool.or_true, Bool.true_or, Bool.or_false, Bool.false_or, Bool.not_true, Bool.not_false]; done) | (simp only [hb104, hb122, hb123]; first | done | simp only [Bool.and_true, Bool.true_and, Bool.false_and, Bool.and_false, Bool.or_true, Bool.true_or, Bool.or_false, Bool.false_or, Bool.not_true, Bool.not_false])), trivial⟩

theorem m_swing_momentum_c {B : Nat} {w0 w : World} [Tabs B w0] {H : Hp} {M : List Res} {p0_x : S_api_SwingIsland} {r : S_large_Rat} (hm : m_swing_momentum p0_x = some r) (ht : St B w0 H (M) w) :
  Calls prog 27 [.agg [.int .i64 (p0_x.Inertia), .int .i64 (p0_x.Damping), .int .i64 (p0_x.Supply), .int .i64 (p0_x.Demand), .string (p0_x.Frequency)].toArray].toArray w (Ret B w0 fun H' M' v => H.le H' ∧ ∃ qv0 : Value, ∃ qv1 : Value, M = M' ∧ .agg [.bool (r.N.minus), qv0, .bool (r.D.minus), qv1].toArray = v ∧ RdS H' qv0 r.N.words ∧ RdS H' qv1 r.D.words) := by
 unfold m_swing_momentum at hm
 refine enter func27 rfl rfl rfl ht ?_
 refine C_seq (C_region ?_)
 refine W_box (cs := [.int .i64 (p0_x.Inertia), .int .i64 (p0_x.Damping), .int .i64 (p0_x.Supply), .int .i64 (p0_x.Demand), .string (p0_x.Frequency)]) rfl rfl rfl rfl (fun b101 => ?_)
 refine W_alloc (cs := [.bool (false), .slice none 0 0, .bool (false), .slice none 0 0]) rfl rfl zeroValue49 rfl (fun b102 => ?_)
 refine W_end (E_then (C_seq ?_))
 obtain ⟨r103, hc104, hm⟩ := bind_some hm
 refine C_region_tok0 5 (phiT [(fun H rs v => [] = rs ∧ .pointer (some ⟨b101, 0, none⟩) = v), (fun H rs v => [] = rs ∧ .int .i64 (p0_x.Inertia) = v), (fun H rs v => ∃ v111 : Value, ∃ v113 : Value, [] = rs ∧ .agg [.bool (r103.N.minus), v111, .bool (r103.D.minus), v113].toArray = v ∧ RdS H v111 r103.N.words ∧ RdS H v113 r103.D.words), (fun H rs v => [] = rs ∧ .pointer (some ⟨b101, 4, none⟩) = v), (fun H rs v => [] = rs ∧ .string (p0_x.Frequency) = v)]) [[], [], [], [], []] [[], [], [], [], []] [] [0, 1, 2, 3, 4] Facts.mixed (by kernel_rfl) (by rfl) (by rfl) (by rfl) (by kernel_rfl) (phiT_mono ⟨eq_monoT _ _, eq_monoT _ _, (by rintro H1 H2 rs v hle ⟨v111, v113, rfl, rfl, h112, h114⟩; exact ⟨v111, v113, rfl, rfl, (h112.mono hle), (h114.mono hle)⟩), eq_monoT _ _, eq_monoT _ _, trivial⟩) ⟨?_, ?_, ?_, ?_, ?_, trivial⟩ ?_
 ·intro HX hX X Rest hR
  intro hU hUp
  refine W_field (o := 0) rfl rfl runUnderlying24 rfl sizeOf3 rfl rfl rfl ?_
  exact W_end (OneT_end [] (Hp.le_refl _) ⟨rfl, rfl⟩)
 ·intro HX hX X Rest hR
  rintro _ _ ⟨rfl, rfl⟩
  intro hU hUp
  refine W_load rfl rfl isAgg3 rfl (own_at (hR _ (List.mem_cons_of_mem _ (List.mem_cons_self ..))) rfl) ?_
  exact W_end (OneT_end [] (Hp.le_refl _) ⟨rfl, rfl⟩)
 ·intro HX hX X Rest hR
  rintro _ _ ⟨rfl, rfl⟩
  intro hU hUp
  refine W_call call36 rfl rfl rfl (fun w ht => by have h := m_large_Whole_c (hm := hc104)  ht; exact h) ?_
  rintro _ H115 _ ⟨hle116, v111, v113, rfl, rfl, h112, h114⟩
  exact W_end (OneT_end [] hle116 ⟨v111, v113, rfl, rfl, (h112), (h114)⟩)
 ·intro HX hX X Rest hR
  intro hU hUp
  refine W_field (o := 4) rfl rfl runUnderlying24 rfl sizeOf22 rfl rfl rfl ?_
  exact W_end (OneT_end [] (Hp.le_refl _) ⟨rfl, rfl⟩)
 ·intro HX hX X Rest hR
  rintro _ _ ⟨rfl, rfl⟩
  intro hU hUp
  refine W_load rfl rfl isAgg22 rfl (own_at (hR _ (List.mem_cons_of_mem _ (List.mem_cons_self ..))) rfl) ?_
  exact W_end (OneT_end [] (Hp.le_refl _) ⟨rfl, rfl⟩)
 intro H117 hle118
 rintro _ _ ⟨rfl, rfl⟩
 rintro _ _ ⟨rfl, rfl⟩
 rintro _ _ ⟨v111, v113, rfl, rfl, h112, h114⟩
 rintro _ _ ⟨rfl, rfl⟩
 rintro _ _ ⟨rfl, rfl⟩
 obtain ⟨r119, hc120, hm⟩ := bind_some hm
 refine W_call call29 rfl rfl rfl (fun w ht => by have h := m_large_Parse_c (hm := hc120)  ht; exact h) ?_
 rintro _ H125 _ ⟨hle126, v121, v123, rfl, rfl, h122, h124⟩
 obtain ⟨r127, hc128, hm⟩ := bind_some hm
 refine W_call call34 rfl rfl rfl (fun w ht => by have h := m_large_Rat_Mul_c (hm := hc128) (h112.mono hle126) (h114.mono hle126) h122 h124 ht; exact h) ?_
 rintro _ H133 _ ⟨hle134, v129, v131, rfl, rfl, h130, h132⟩
 refine W_store (cs := [.bool (r127.N.minus), v129, .bool (r127.D.minus), v131]) (out := [.bool (r127.N.minus), v129, .bool (r127.D.minus), v131]) rfl sizeOf49 rfl rfl rfl rfl rfl (all_cons rfl (all_cons (RdS.one1 h130) (all_cons rfl (all_cons (RdS.one1 h132) all_nil)))) (over_all rfl) ?_
 refine W_end (E_then (C_ret ?_))
 obtain rfl := Option.some.inj hm
 exact endC1 (Hp.le_refl _) rfl (ResV.agg rfl isAgg49 sizeOf49 (List.mem_cons_self ..) rfl) (List.Sublist.cons _ (List.Sublist.cons _ (List.Sublist.refl _))) (List.Perm.refl _) ⟨(Hp.le_trans (Hp.le_trans hle118 hle126) hle134), v129, v131, rfl, rfl, h130, h132⟩

theorem m_swing_Momentum_c {B : Nat} {w0 w : World} [Tabs B w0] {H : Hp} {M : List Res} {p0_x : S_api_SwingIsland} {r : ByteArray × Int} (hm : m_swing_Momentum p0_x = some r) (ht : St B w0 H (M) w) :
  Calls prog 12 [.agg [.int .i64 (p0_x.Inertia), .int .i64 (p0_x.Damping), .int .i64 (p0_x.Supply), .int .i64 (p0_x.Demand), .string (p0_x.Frequency)].toArray].toArray w (Ret B w0 fun H' M' v => H = H' ∧ M = M' ∧ .tuple #[.string (r.1), .int .i64 (r.2)] = v) := by
 unfold m_swing_Momentum at hm
 refine enter func12 rfl rfl rfl ht ?_
 refine C_seq (C_region ?_)
 refine W_box (cs := [.int .i64 (p0_x.Inertia), .int .i64 (p0_x.Damping), .int .i64 (p0_x.Supply), .int .i64 (p0_x.Demand), .string (p0_x.Frequency)]) rfl rfl rfl rfl (fun b101 => ?_)
 refine W_assign rfl rfl rfl ?_
 refine W_assign rfl rfl rfl ?_
 refine W_end (E_then (C_seq (C_seq (C_region ?_))))
 refine W_loadAgg rfl rfl isAgg24 sizeOf24 rfl (own_all (List.mem_cons_self ..)) rfl ?_
 obtain ⟨r102, hc103, hm⟩ := bind_some hm
 refine W_call call10 rfl rfl rfl (fun w ht => by have h := m_swing_Check_c (hm := hc103)  ht; exact h) ?_
 rintro _ _ _ ⟨rfl, rfl, rfl⟩
 refine W_assign rfl rfl rfl ?_
 refine W_end (E_then (C_seq (C_region ?_)))
 refine W_move rfl rfl rfl ?_
 refine W_bin rfl rfl rfl rfl rfl ?_
 refine W_end (E_then ?_)
 refine C_cond (b := !decide (r102 = 0)) rfl (fun hb104 => ?_) (fun hb104 => ?_)
 ·have hm := ite_t' hb104 hm
  refine C_seq (C_region ?_)
  refine W_move rfl rfl rfl ?_
  refine W_assign rfl rfl rfl ?_
  refine W_assign rfl rfl rfl ?_
  refine W_end (E_then (C_ret (E_ret_then ?_)))
  obtain rfl := Option.some.inj hm
  refine E_drop (List.Sublist.cons _ (List.Sublist.refl _)) ?_
  refine E_weak (Hp.le_refl _) ?_
  exact end2 rfl rfl rfl ⟨rfl, rfl, rfl⟩
 ·have hm := ite_f' hb104 hm
  refine C_skip (E_then (C_seq (C_region ?_)))
  refine W_loadAgg rfl rfl isAgg24 sizeOf24 rfl (own_all (List.mem_cons_self ..)) rfl ?_
  obtain ⟨r105, hc106, hm⟩ := bind_some hm
  refine W_call call27 rfl rfl rfl (fun w ht => by have h := m_swing_momentum_c (hm := hc106)  ht; exact h) ?_
  rintro _ H111 _ ⟨hle112, v107, v109, rfl, rfl, h108, h110⟩
  obtain ⟨r113, hc114, hm⟩ := bind_some hm
  refine W_call call23 rfl rfl rfl (fun w ht => by have h := m_swing_text_c (hm := hc114) h108 h110 ht; exact h) ?_
  rintro _ _ _ ⟨rfl, rfl, rfl⟩
  refine W_extract rfl rfl rfl rfl ?_
  refine W_extract rfl rfl rfl rfl ?_
  refine W_assign rfl rfl rfl ?_
  refine W_assign rfl rfl rfl ?_
  refine W_end (E_then (C_ret ?_))
  obtain rfl := Option.some.inj hm
  refine E_drop (List.Sublist.cons _ (List.Sublist.refl _)) ?_
  refine E_weak hle112 ?_
  exact end2 rfl rfl rfl ⟨rfl, rfl, rfl⟩

theorem m_swing_Excess_c {B : Nat} {w0 w : World} [Tabs B w0] {H : Hp} {M : List Res} {p0_x : S_api_SwingIsland} {r : ByteArray × Int} (hm : m_swing_Excess p0_x = some r) (ht : St B w0 H (M) w) :
  Calls prog 13 [.agg [.int .i64 (p0_x.Inertia), .int .i64 (p0_x.Damping), .int .i64 (p0_x.Supply), .int .i64 (p0_x.Demand), .string (p0_x.Frequency)].toArray].toArray w (Ret B w0 fun H' M' v => H = H' ∧ M = M' ∧ .tuple #[.string (r.1), .int .i64 (r.2)] = v) := by
 unfold m_swing_Excess at hm
 refine enter func13 rfl rfl rfl ht ?_
 refine C_seq (C_region ?_)
 refine W_box (cs := [.int .i64 (p0_x.Inertia), .int .i64 (p0_x.Damping), .int .i64 (p0_x.Supply), .int .i64 (p0_x.Demand), .string (p0_x.Frequency)]) rfl rfl rfl rfl (fun b101 => ?_)
 refine W_assign rfl rfl rfl ?_
 refine W_assign rfl rfl rfl ?_
 refine W_end (E_then (C_seq (C_seq (C_region ?_))))
 refine W_loadAgg rfl rfl isAgg24 sizeOf24 rfl (own_all (List.mem_cons_self ..)) rfl ?_
 obtain ⟨r102, hc103, hm⟩ := bind_some hm
 refine W_call call10 rfl rfl rfl (fun w ht => by have h := m_swing_Check_c (hm := hc103)  ht; exact h) ?_
 rintro _ _ _ ⟨rfl, rfl, rfl⟩
 refine W_assign rfl rfl rfl ?_
 refine W_end (E_then (C_seq (C_region ?_)))
 refine W_move rfl rfl rfl ?_
 refine W_bin rfl rfl rfl rfl rfl ?_
 refine W_end (E_then ?_)
 refine C_cond (b := !decide (r102 = 0)) rfl (fun hb104 => ?_) (fun hb104 => ?_)
 ·have hm := ite_t' hb104 hm
  refine C_seq (C_region ?_)
  refine W_move rfl rfl rfl ?_
  refine W_assign rfl rfl rfl ?_
  refine W_assign rfl rfl rfl ?_
  refine W_end (E_then (C_ret (E_ret_then ?_)))
  obtain rfl := Option.some.inj hm
  refine E_drop (List.Sublist.cons _ (List.Sublist.refl _)) ?_
  refine E_weak (Hp.le_refl _) ?_
  exact end2 rfl rfl rfl ⟨rfl, rfl, rfl⟩
 ·have hm := ite_f' hb104 hm
  refine C_skip (E_then (C_seq ?_))
  obtain ⟨r105, hc106, hm⟩ := bind_some hm
  obtain ⟨r113, hc114, hm⟩ := bind_some hm
  obtain ⟨r121, hc122, hm⟩ := bind_some hm
  refine C_region_tok0 8 (phiT [(fun H rs v => [] = rs ∧ .agg [.int .i64 (p0_x.Inertia), .int .i64 (p0_x.Damping), .int .i64 (p0_x.Supply), .int .i64 (p0_x.Demand), .string (p0_x.Frequency)].toArray = v), (fun H rs v => [] = rs ∧ .pointer (some ⟨b101, 4, none⟩) = v), (fun H rs v => [] = rs ∧ .string (p0_x.Frequency) = v), (fun H rs v => ∃ v123 : Value, ∃ v125 : Value, [] = rs ∧ .agg [.bool (r105.N.minus), v123, .bool (r105.D.minus), v125].toArray = v ∧ RdS H v123 r105.N.words ∧ RdS H v125 r105.D.words), (fun H rs v => ∃ v129 : Value, ∃ v131 : Value, [] = rs ∧ .agg [.bool (r113.N.minus), v129, .bool (r113.D.minus), v131].toArray = v ∧ RdS H v129 r113.N.words ∧ RdS H v131 r113.D.words), (fun H rs v => [] = rs ∧ .tuple #[.string (r121.1), .int .i64 (r121.2)] = v), (fun H rs v => [] = rs ∧ .string (r121.1) = v), (fun H rs v => [] = rs ∧ .int .i64 (r121.2) = v)]) [[], [], [], [], [], [], [], []] [[], [], [], [], [], [], [], []] [] [0, 1, 2, 3, 4, 5, 6, 7] Facts.mixed (by kernel_rfl) (by rfl) (by rfl) (by rfl) (by kernel_rfl) (phiT_mono ⟨eq_monoT _ _, eq_monoT _ _, eq_monoT _ _, (by rintro H1 H2 rs v hle ⟨v123, v125, rfl, rfl, h124, h126⟩; exact ⟨v123, v125, rfl, rfl, (h124.mono hle), (h126.mono hle)⟩), (by rintro H1 H2 rs v hle ⟨v129, v131, rfl, rfl, h130, h132⟩; exact ⟨v129, v131, rfl, rfl, (h130.mono hle), (h132.mono hle)⟩), eq_monoT _ _, eq_monoT _ _, eq_monoT _ _, trivial⟩) ⟨?_, ?_, ?_, ?_, ?_, ?_, ?_, ?_, trivial⟩ ?_
  ·intro HX hX X Rest hR
   intro hU hUp
   refine W_loadAgg rfl rfl isAgg24 sizeOf24 rfl (own_all (hR _ (List.mem_cons_self ..))) rfl ?_
   exact W_end (OneT_end [] (Hp.le_refl _) ⟨rfl, rfl⟩)
  ·intro HX hX X Rest hR
   intro hU hUp
   refine W_field (o := 4) rfl rfl runUnderlying24 rfl sizeOf22 rfl rfl rfl ?_
   exact W_end (OneT_end [] (Hp.le_refl _) ⟨rfl, rfl⟩)
  ·intro HX hX X Rest hR
   rintro _ _ ⟨rfl, rfl⟩
   intro hU hUp
   refine W_load rfl rfl isAgg22 rfl (own_at (hR _ (List.mem_cons_self ..)) rfl) ?_
   exact W_end (OneT_end [] (Hp.le_refl _) ⟨rfl, rfl⟩)
  ·intro HX hX X Rest hR
   rintro _ _ ⟨rfl, rfl⟩
   intro hU hUp
   refine W_call call29 rfl rfl rfl (fun w ht => by have h := m_large_Parse_c (hm := hc106)  ht; exact h) ?_
   rintro _ H127 _ ⟨hle128, v123, v125, rfl, rfl, h124, h126⟩
   exact W_end (OneT_end [] hle128 ⟨v123, v125, rfl, rfl, (h124), (h126)⟩)
  ·intro HX hX X Rest hR
   rintro _ _ ⟨rfl, rfl⟩
   rintro _ _ ⟨v123, v125, rfl, rfl, h124, h126⟩
   rintro _ _ ⟨v123, v125, rfl, rfl, h124, h126⟩
   intro hU hUp
   refine W_call call28 rfl rfl rfl (fun w ht => by have h := m_swing_excess_c (hm := hc114) h124 h126 ht; exact h) ?_
   rintro _ H133 _ ⟨hle134, v129, v131, rfl, rfl, h130, h132⟩
   exact W_end (OneT_end [] hle134 ⟨v129, v131, rfl, rfl, (h130), (h132)⟩)
  ·intro HX hX X Rest hR
   rintro _ _ ⟨v129, v131, rfl, rfl, h130, h132⟩
   rintro _ _ ⟨v129, v131, rfl, rfl, h130, h132⟩
   intro hU hUp
   refine W_call call23 rfl rfl rfl (fun w ht => by have h := m_swing_text_c (hm := hc122) h130 h132 ht; exact h) ?_
   rintro _ _ _ ⟨rfl, rfl, rfl⟩
   exact W_end (OneT_end [] (Hp.le_refl _) ⟨rfl, rfl⟩)
  ·intro HX hX X Rest hR
   rintro _ _ ⟨rfl, rfl⟩
   intro hU hUp
   refine W_extract rfl rfl rfl rfl ?_
   exact W_end (OneT_end [] (Hp.le_refl _) ⟨rfl, rfl⟩)
  ·intro HX hX X Rest hR
   rintro _ _ ⟨rfl, rfl⟩
   intro hU hUp
   refine W_extract rfl rfl rfl rfl ?_
   exact W_end (OneT_end [] (Hp.le_refl _) ⟨rfl, rfl⟩)
  intro H135 hle136
  rintro _ _ ⟨rfl, rfl⟩
  rintro _ _ ⟨rfl, rfl⟩
  rintro _ _ ⟨rfl, rfl⟩
  rintro _ _ ⟨v123, v125, rfl, rfl, h124, h126⟩
  rintro _ _ ⟨v129, v131, rfl, rfl, h130, h132⟩
  rintro _ _ ⟨rfl, rfl⟩
  rintro _ _ ⟨rfl, rfl⟩
  rintro _ _ ⟨rfl, rfl⟩
  refine W_assign rfl rfl rfl ?_
  refine W_assign rfl rfl rfl ?_
  refine W_end (E_then (C_ret ?_))
  obtain rfl := Option.some.inj hm
  refine E_drop (List.Sublist.cons _ (List.Sublist.refl _)) ?_
  refine E_weak hle136 ?_
  exact end2 rfl rfl rfl ⟨rfl, rfl, rfl⟩

theorem m_gridhallkeep4_SwingMomentum_c {B : Nat} {w0 w : World} [Tabs B w0] {H : Hp} {M : List Res} {p0_x : S_api_SwingIsland} {r : Bool} (hm : m_gridhallkeep4_SwingMomentum p0_x = some r) (ht : St B w0 H (M) w) :
  Calls prog 4 [.agg [.int .i64 (p0_x.Inertia), .int .i64 (p0_x.Damping), .int .i64 (p0_x.Supply), .int .i64 (p0_x.Demand), .string (p0_x.Frequency)].toArray].toArray w (Ret B w0 fun H' M' v => H = H' ∧ M = M' ∧ .bool (r) = v) := by
 unfold m_gridhallkeep4_SwingMomentum at hm
 refine enter func4 rfl rfl rfl ht ?_
 refine C_seq (C_region ?_)
 refine W_box (cs := [.int .i64 (p0_x.Inertia), .int .i64 (p0_x.Damping), .int .i64 (p0_x.Supply), .int .i64 (p0_x.Demand), .string (p0_x.Frequency)]) rfl rfl rfl rfl (fun b101 => ?_)
 refine W_assign rfl rfl rfl ?_
 refine W_end (E_then (C_seq (C_region ?_)))
 refine W_loadAgg rfl rfl isAgg24 sizeOf24 rfl (own_all (List.mem_cons_self ..)) rfl ?_
 obtain ⟨r102, hc103, hm⟩ := bind_some hm
 refine W_call call11 rfl rfl rfl (fun w ht => by have h := m_swing_Step_c (hm := hc103)  ht; exact h) ?_
 rintro _ _ _ ⟨rfl, rfl, rfl⟩
 refine W_move rfl rfl rfl ?_
 refine W_extract rfl rfl rfl rfl ?_
 refine W_extract rfl rfl rfl rfl ?_
 refine W_alloc (cs := [.int .i64 (0), .int .i64 (0), .int .i64 (0), .int .i64 (0), .string (⟨#[]⟩)]) rfl rfl zeroValue24 rfl (fun b104 => ?_)
 refine W_store (cs := [.int .i64 (r102.1.Inertia), .int .i64 (r102.1.Damping), .int .i64 (r102.1.Supply), .int .i64 (r102.1.Demand), .string (r102.1.Frequency)]) (out := [.int .i64 (r102.1.Inertia), .int .i64 (r102.1.Damping), .int .i64 (r102.1.Supply), .int .i64 (r102.1.Demand), .string (r102.1.Frequency)]) rfl sizeOf24 rfl rfl rfl rfl rfl (all_cons rfl (all_cons rfl (all_cons rfl (all_cons rfl (all_cons rfl all_nil))))) (over_all rfl) ?_
 refine W_assign rfl rfl rfl ?_
 refine W_end (E_then (C_seq (C_seq (C_region ?_))))
 refine W_move rfl rfl rfl ?_
 refine W_bin rfl rfl rfl rfl rfl ?_
 refine W_end (E_then ?_)
 refine C_cond (b := !decide (r102.2 = 0)) rfl (fun hb105 => ?_) (fun hb105 => ?_)
 ·have hm := ite_t' hb105 hm
  obtain ⟨r109, hc110, hm⟩ := bind_some hm
  refine C_seq_join (fun H' M' L' => H = H' ∧ M = M' ∧ [(2, .bool (r109 && (decide (r102.1.Inertia = 0) && (decide (r102.1.Damping = 0) && (decide (r102.1.Supply = 0) && (decide (r102.1.Demand = 0) && (decide (r102.1.Frequency = (⟨#[]⟩)) && true)))))))] = L') ?_ (fun J111 => ?_)
  ·rintro _ _ _ ⟨rfl, rfl, rfl⟩
   refine C_ret (E_ret_then ?_)
   obtain rfl := Option.some.inj hm
   refine E_weak (Hp.le_refl _) ?_
   exact end1 rfl rfl ⟨rfl, rfl, rfl⟩
  ·refine C_region ?_
   refine W_call call9 rfl rfl rfl (fun w ht => by have h := m_gridhallkeep4_swingFact_c (hm := hc110)  ht; exact h) ?_
   rintro _ _ _ ⟨rfl, rfl, rfl⟩
   refine W_move rfl rfl rfl ?_
   cases hb112 : (r109)
   ·refine W_no rfl rfl rfl ?_
    refine W_no rfl rfl rfl ?_
    refine W_no rfl rfl rfl ?_
    refine W_pick rfl rfl rfl rfl ?_
    refine W_assign rfl rfl rfl ?_
    refine W_end ?_
    refine E_drop (List.Sublist.cons _ (List.Sublist.cons _ (List.Sublist.refl _))) ?_
    exact E_keepJ (J111 _ _ _ ⟨rfl, rfl, rfl⟩) (List.Perm.refl _) ⟨(by show some (Value.bool (false)) = some (Value.bool (r109 && (decide (r102.1.Inertia = 0) && (decide (r102.1.Damping = 0) && (decide (r102.1.Supply = 0) && (decide (r102.1.Demand = 0) && (decide (r102.1.Frequency = (⟨#[]⟩)) && true))))))); first | (simp only [hb105, hb112, Bool.and_true, Bool.true_and, Bool.false_and, Bool.and_false, Bool.or_true, Bool.true_or, Bool.or_false, Bool.false_or, Bool.not_true, Bool.not_false]; done) | (simp only [hb105, hb112]; first | done | simp only [Bool.and_true, Bool.true_and, Bool.false_and, Bool.and_false, Bool.or_true, Bool.true_or, Bool.or_false, Bool.false_or, Bool.not_true, Bool.not_false])), trivial⟩
   ·refine W_loadAgg rfl rfl isAgg24 sizeOf24 rfl (own_all (List.mem_cons_self ..)) rfl ?_
    refine W_build (css := []) (zs := [.int .i64 (0), .int .i64 (0), .int .i64 (0), .int .i64 (0), .string (⟨#[]⟩)]) (out := [.int .i64 (0), .int .i64 (0), .int .i64 (0), .int .i64 (0), .string (⟨#[]⟩)]) (places := [(0, 1), (1, 1), (2, 1), (3, 1), (4, 1)]) rfl rfl rfl trivial zeroValue24 rfl runUnderlying24 (fun w => by kernel_rfl) rfl ?_
    refine W_eqAgg (b := decide (r102.1.Inertia = 0) && (decide (r102.1.Damping = 0) && (decide (r102.1.Supply = 0) && (decide (r102.1.Demand = 0) && (decide (r102.1.Frequency = (⟨#[]⟩)) && true))))) rfl rfl (by kernel_rfl) rfl rfl (fun w => run_equal_struct (bs := [decide (r102.1.Inertia = 0), decide (r102.1.Damping = 0), decide (r102.1.Supply = 0), decide (r102.1.Demand = 0), decide (r102.1.Frequency = (⟨#[]⟩))]) runUnderlying24 (by kernel_rfl) ⟨(by decide), (fldEq_int isAgg3 runUnderlying3 rfl rfl), (by decide), (fldEq_int isAgg3 runUnderlying3 rfl rfl), (by decide), (fldEq_int isAgg3 runUnderlying3 rfl rfl), (by decide), (fldEq_int isAgg3 runUnderlying3 rfl rfl), (by decide), (fldEq_str isAgg22 runUnderlying22 rfl rfl), trivial⟩) ?_
    refine W_pick rfl rfl rfl rfl ?_
    refine W_assign rfl rfl rfl ?_
    refine W_end ?_
    refine E_drop (List.Sublist.cons _ (List.Sublist.cons _ (List.Sublist.refl _))) ?_
    exact E_keepJ (J111 _ _ _ ⟨rfl, rfl, rfl⟩) (List.Perm.refl _) ⟨(by show some (Value.bool (decide (r102.1.Inertia = 0) && (decide (r102.1.Damping = 0) && (decide (r102.1.Supply = 0) && (decide (r102.1.Demand = 0) && (decide (r102.1.Frequency = (⟨#[]⟩)) && true)))))) = some (Value.bool (r109 && (decide (r102.1.Inertia = 0) && (decide (r102.1.Damping = 0) && (decide (r102.1.Supply = 0) && (decide (r102.1.Demand = 0) && (decide (r102.1.Frequency = (⟨#[]⟩)) && true))))))); first | (simp only [hb105, hb112, Bool.and_true, Bool.true_and, Bool.false_and, Bool.and_false, Bool.or_true, Bool.true_or, Bool.or_false, Bool.false_or, Bool.not_true, Bool.not_false]; done) | (simp only [hb105, hb112]; first | done | simp only [Bool.and_true, Bool.true_and, Bool.false_and, Bool.and_false, Bool.or_true, Bool.true_or, Bool.or_false, Bool.false_or, Bool.not_true, Bool.not_false])), trivial⟩
 ·have hm := ite_f' hb105 hm
  refine C_skip (E_then (C_seq (C_region ?_)))
  refine W_loadAgg rfl rfl isAgg24 sizeOf24 rfl (own_all (List.mem_cons_of_mem _ (List.mem_cons_self ..))) rfl ?_
  obtain ⟨r113, hc114, hm⟩ := bind_some hm
  refine W_call call12 rfl rfl rfl (fun w ht => by have h := m_swing_Momentum_c (hm := hc114)  ht; exact h) ?_
  rintro _ _ _ ⟨rfl, rfl, rfl⟩
  refine W_move rfl rfl rfl ?_
  refine W_extract rfl rfl rfl rfl ?_
  refine W_extract rfl rfl rfl rfl ?_
  refine W_assign rfl rfl rfl ?_
  refine W_assign rfl rfl rfl ?_
  refine W_end (E_then (C_seq (C_region ?_)))
  refine W_loadAgg rfl rfl isAgg24 sizeOf24 rfl (own_all (List.mem_cons_self ..)) rfl ?_
  obtain ⟨r115, hc116, hm⟩ := bind_some hm
  refine W_call call12 rfl rfl rfl (fun w ht => by have h := m_swing_Momentum_c (hm := hc116)  ht; exact h) ?_
  rintro _ _ _ ⟨rfl, rfl, rfl⟩
  refine W_move rfl rfl rfl ?_
  refine W_extract rfl rfl rfl rfl ?_
  refine W_extract rfl rfl rfl rfl ?_
  refine W_assign rfl rfl rfl ?_
  refine W_assign rfl rfl rfl ?_
  refine W_end (E_then (C_seq (C_region ?_)))
  refine W_loadAgg rfl rfl isAgg24 sizeOf24 rfl (own_all (List.mem_cons_of_mem _ (List.mem_cons_self ..))) rfl ?_
  obtain ⟨r117, hc118, hm⟩ := bind_some hm
  refine W_call call13 rfl rfl rfl (fun w ht => by have h := m_swing_Excess_c (hm := hc118)  ht; exact h) ?_
  rintro _ _ _ ⟨rfl, rfl, rfl⟩
  refine W_move rfl rfl rfl ?_
  refine W_extract rfl rfl rfl rfl ?_
  refine W_extract rfl rfl rfl rfl ?_
  refine W_assign rfl rfl rfl ?_
  refine W_assign rfl rfl rfl ?_
  refine W_end (E_then (C_seq (C_region ?_)))
  refine W_move rfl rfl rfl ?_
  refine W_move rfl rfl rfl ?_
  obtain ⟨r119, hc120, hm⟩ := bind_some hm
  refine W_call call14 rfl rfl rfl (fun w ht => by have h := m_rat_Add_c (hm := hc120)  ht; exact h) ?_
  rintro _ _ _ ⟨rfl, rfl, rfl⟩
  refine W_move rfl rfl rfl ?_
  refine W_extract rfl rfl rfl rfl ?_
  refine W_extract rfl rfl rfl rfl ?_
  refine W_assign rfl rfl rfl ?_
  refine W_assign rfl rfl rfl ?_
  refine W_end (E_then (C_seq ?_))
  refine C_seq_join (fun H' M' L' => H = H' ∧ M = M' ∧ [(6, .int .i64 (r113.2)), (7, .string (r115.1)), (8, .int .i64 (r115.2)), (10, .int .i64 (r117.2)), (11, .string (r119.1)), (12, .int .i64 (r119.2)), (60, .bool ((((!decide (r113.2 = 0)) || (!decide (r115.2 = 0))) || (!decide (r117.2 = 0))) || (!decide (r119.2 = 0))))] = L') ?_ (fun J124 => ?_)
  ·rintro _ _ _ ⟨rfl, rfl, rfl⟩
   refine C_cond (b := (((!decide (r113.2 = 0)) || (!decide (r115.2 = 0))) || (!decide (r117.2 = 0))) || (!decide (r119.2 = 0))) rfl (fun hb125 => ?_) (fun hb125 => ?_)
   ·have hm := ite_t' hb125 hm
    obtain ⟨r132, hc133, hm⟩ := bind_some hm
    refine C_seq_join (fun H' M' L' => H = H' ∧ M = M' ∧ [(2, .bool (r132 && ((((decide (r113.2 = 2)) || (decide (r115.2 = 2))) || (decide (r117.2 = 2))) || (decide (r119.2 = 2)))))] = L') ?_ (fun J134 => ?_)
    ·rintro _ _ _ ⟨rfl, rfl, rfl⟩
     refine C_ret (E_ret_then ?_)
     obtain rfl := Option.some.inj hm
     refine E_weak (Hp.le_refl _) ?_
     exact end1 rfl rfl ⟨rfl, rfl, rfl⟩
    ·refine C_region ?_
     refine W_call call9 rfl rfl rfl (fun w ht => by have h := m_gridhallkeep4_swingFact_c (hm := hc133)  ht; exact h) ?_
     rintro _ _ _ ⟨rfl, rfl, rfl⟩
     refine W_move rfl rfl rfl ?_
     cases hb135 : (r132)
     ·refine W_no rfl rfl rfl ?_
      refine W_no rfl rfl rfl ?_
      refine W_no rfl rfl rfl ?_
      refine W_no rfl rfl rfl ?_
      refine W_no rfl rfl rfl ?_
      refine W_no rfl rfl rfl ?_
      refine W_no rfl rfl rfl ?_
      refine W_no rfl rfl rfl ?_
      refine W_no rfl rfl rfl ?_
      refine W_no rfl rfl rfl ?_
      refine W_no rfl rfl rfl ?_
      refine W_no rfl rfl rfl ?_
      refine W_no rfl rfl rfl ?_
      refine W_no rfl rfl rfl ?_
      refine W_pick rfl rfl rfl rfl ?_
      refine W_assign rfl rfl rfl ?_
      refine W_end ?_
      exact E_keepJ (J134 _ _ _ ⟨rfl, rfl, rfl⟩) (List.Perm.refl _) ⟨(by show some (Value.bool (false)) = some (Value.bool (r132 && ((((decide (r113.2 = 2)) || (decide (r115.2 = 2))) || (decide (r117.2 = 2))) || (decide (r119.2 = 2))))); first | (simp only [hb105, hb125, hb135, Bool.and_true, Bool.true_and, Bool.false_and, Bool.and_false, Bool.or_true, Bool.true_or, Bool.or_false, Bool.false_or, Bool.not_true, Bool.not_false]; done) | (simp only [hb105, hb125, hb135]; first | done | simp only [Bool.and_true, Bool.true_and, Bool.false_and, Bool.and_false, Bool.or_true, Bool.true_or, Bool.or_false, Bool.false_or, Bool.not_true, Bool.not_false])), trivial⟩
     ·refine W_move rfl rfl rfl ?_
      refine W_bin rfl rfl rfl rfl rfl ?_
      refine W_move rfl rfl rfl ?_
      cases hb136 : (decide (r113.2 = 2))
      ·refine W_move rfl rfl rfl ?_
       refine W_bin rfl rfl rfl rfl rfl ?_
       refine W_pick rfl rfl rfl rfl ?_
       refine W_move rfl rfl rfl ?_
       cases hb137 : (decide (r115.2 = 2))
       ·refine W_move rfl rfl rfl ?_
        refine W_bin rfl rfl rfl rfl rfl ?_
        refine W_pick rfl rfl rfl rfl ?_
        refine W_move rfl rfl rfl ?_
        cases hb138 : (decide (r117.2 = 2))
        ·refine W_move rfl rfl rfl ?_
         refine W_bin rfl rfl rfl rfl rfl ?_
         refine W_pick rfl rfl rfl rfl ?_
         refine W_pick rfl rfl rfl rfl ?_
         refine W_assign rfl rfl rfl ?_
         refine W_end ?_
         exact E_keepJ (J134 _ _ _ ⟨rfl, rfl, rfl⟩) (List.Perm.refl _) ⟨(by show some (Value.bool (decide (r119.2 = 2))) = some (Value.bool (r132 && ((((decide (r113.2 = 2)) || (decide (r115.2 = 2))) || (decide (r117.2 = 2))) || (decide (r119.2 = 2))))); first | (simp only [hb105, hb125, hb135, hb136, hb137, hb138, Bool.and_true, Bool.true_and, Bool.false_and, Bool.and_false, Bool.or_true, Bool.true_or, Bool.or_false, Bool.false_or, Bool.not_true, Bool.not_false]; done) | (simp only [hb105, hb125, hb135, hb136, hb137, hb138]; first | done | simp only [Bool.and_true, Bool.true_and, Bool.false_and, Bool.and_false, Bool.or_true, Bool.true_or, Bool.or_false, Bool.false_or, Bool.not_true, Bool.not_false])), trivial⟩
        ·refine W_no rfl rfl rfl ?_
         refine W_no rfl rfl rfl ?_
         refine W_pick rfl rfl rfl rfl ?_
         refine W_pick rfl rfl rfl rfl ?_
         refine W_assign rfl rfl rfl ?_
         refine W_end ?_
         exact E_keepJ (J134 _ _ _ ⟨rfl, rfl, rfl⟩) (List.Perm.refl _) ⟨(by show some (Value.bool (true)) = some (Value.bool (r132 && ((((decide (r113.2 = 2)) || (decide (r115.2 = 2))) || (decide (r117.2 = 2))) || (decide (r119.2 = 2))))); first | (simp only [hb105, hb125, hb135, hb136, hb137, hb138, Bool.and_true, Bool.true_and, Bool.false_and, Bool.and_false, Bool.or_true, Bool.true_or, Bool.or_false, Bool.false_or, Bool.not_true, Bool.not_false]; done) | (simp only [hb105, hb125, hb135, hb136, hb137, hb138]; first | done | simp only [Bool.and_true, Bool.true_and, Bool.false_and, Bool.and_false, Bool.or_true, Bool.true_or, Bool.or_false, Bool.false_or, Bool.not_true, Bool.not_false])), trivial⟩
       ·refine W_no rfl rfl rfl ?_
        refine W_no rfl rfl rfl ?_
        refine W_pick rfl rfl rfl rfl ?_
        refine W_move rfl rfl rfl ?_
        refine W_no rfl rfl rfl ?_
        refine W_no rfl rfl rfl ?_
        refine W_pick rfl rfl rfl rfl ?_
        refine W_pick rfl rfl rfl rfl ?_
        refine W_assign rfl rfl rfl ?_
        refine W_end ?_
        exact E_keepJ (J134 _ _ _ ⟨rfl, rfl, rfl⟩) (List.Perm.refl _) ⟨(by show some (Value.bool (true)) = some (Value.bool (r132 && ((((decide (r113.2 = 2)) || (decide (r115.2 = 2))) || (decide (r117.2 = 2))) || (decide (r119.2 = 2))))); first | (simp only [hb105, hb125, hb135, hb136, hb137, Bool.and_true, Bool.true_and, Bool.false_and, Bool.and_false, Bool.or_true, Bool.true_or, Bool.or_false, Bool.false_or, Bool.not_true, Bool.not_false]; done) | (simp only [hb105, hb125, hb135, hb136, hb137]; first | done | simp only [Bool.and_true, Bool.true_and, Bool.false_and, Bool.and_false, Bool.or_true, Bool.true_or, Bool.or_false, Bool.false_or, Bool.not_true, Bool.not_false])), trivial⟩
      ·refine W_no rfl rfl rfl ?_
       refine W_no rfl rfl rfl ?_
       refine W_pick rfl rfl rfl rfl ?_
       refine W_move rfl rfl rfl ?_
       refine W_no rfl rfl rfl ?_
       refine W_no rfl rfl rfl ?_
       refine W_pick rfl rfl rfl rfl ?_
       refine W_move rfl rfl rfl ?_
       refine W_no rfl rfl rfl ?_
       refine W_no rfl rfl rfl ?_
       refine W_pick rfl rfl rfl rfl ?_
       refine W_pick rfl rfl rfl rfl ?_
       refine W_assign rfl rfl rfl ?_
       refine W_end ?_
       exact E_keepJ (J134 _ _ _ ⟨rfl, rfl, rfl⟩) (List.Perm.refl _) ⟨(by show some (Value.bool (true)) = some (Value.bool (r132 && ((((decide (r113.2 = 2)) || (decide (r115.2 = 2))) || (decide (r117.2 = 2))) || (decide (r119.2 = 2))))); first | (simp only [hb105, hb125, hb135, hb136, Bool.and_true, Bool.true_and, Bool.false_and, Bool.and_false, Bool.or_true, Bool.true_or, Bool.or_false, Bool.false_or, Bool.not_true, Bool.not_false]; done) | (simp only [hb105, hb125, hb135, hb136]; first | done | simp only [Bool.and_true, Bool.true_and, Bool.false_and, Bool.and_false, Bool.or_true, Bool.true_or, Bool.or_false, Bool.false_or, Bool.not_true, Bool.not_false])), trivial⟩
   ·have hm := ite_f' hb125 hm
    refine C_skip (E_then ?_)
    obtain ⟨r142, hc143, hm⟩ := bind_some hm
    refine C_seq_join (fun H' M' L' => H = H' ∧ M = M' ∧ [(2, .bool (r142 && (decide (r119.1 = r115.1))))] = L') ?_ (fun J144 => ?_)
    ·rintro _ _ _ ⟨rfl, rfl, rfl⟩
     refine C_ret ?_
     obtain rfl := Option.some.inj hm
     refine E_weak (Hp.le_refl _) ?_
     exact end1 rfl rfl ⟨rfl, rfl, rfl⟩
    ·refine C_region ?_
     refine W_call call9 rfl rfl rfl (fun w ht => by have h := m_gridhallkeep4_swingFact_c (hm := hc143)  ht; exact h) ?_
     rintro _ _ _ ⟨rfl, rfl, rfl⟩
     refine W_move rfl rfl rfl ?_
     cases hb145 : (r142)
     ·refine W_no rfl rfl rfl ?_
      refine W_no rfl rfl rfl ?_
      refine W_no rfl rfl rfl ?_
      refine W_pick rfl rfl rfl rfl ?_
      refine W_assign rfl rfl rfl ?_
      refine W_end ?_
      exact E_keepJ (J144 _ _ _ ⟨rfl, rfl, rfl⟩) (List.Perm.refl _) ⟨(by show some (Value.bool (false)) = some (Value.bool (r142 && (decide (r119.1 = r115.1)))); first | (simp only [hb105, hb125, hb145, Bool.and_true, Bool.true_and, Bool.false_and, Bool.and_false, Bool.or_true, Bool.true_or, Bool.or_false, Bool.false_or, Bool.not_true, Bool.not_false]; done) | (simp only [hb105, hb125, hb145]; first | done | simp only [Bool.and_true, Bool.true_and, Bool.false_and, Bool.and_false, Bool.or_true, Bool.true_or, Bool.or_false, Bool.false_or, Bool.not_true, Bool.not_false])), trivial⟩
     ·refine W_move rfl rfl rfl ?_
      refine W_move rfl rfl rfl ?_
      refine W_bin rfl rfl rfl rfl rfl ?_
      refine W_pick rfl rfl rfl rfl ?_
      refine W_assign rfl rfl rfl ?_
      refine W_end ?_
      exact E_keepJ (J144 _ _ _ ⟨rfl, rfl, rfl⟩) (List.Perm.refl _) ⟨(by show some (Value.bool (decide (r119.1 = r115.1))) = some (Value.bool (r142 && (decide (r119.1 = r115.1)))); first | (simp only [hb105, hb125, hb145, Bool.and_true, Bool.true_and, Bool.false_and, Bool.and_false, Bool.or_true, Bool.true_or, Bool.or_false, Bool.false_or, Bool.not_true, Bool.not_false]; done) | (simp only [hb105, hb125, hb145]; first | done | simp only [Bool.and_true, Bool.true_and, Bool.false_and, Bool.and_false, Bool.or_true, Bool.true_or, Bool.or_false, Bool.false_or, Bool.not_true, Bool.not_false])), trivial⟩
  ·refine C_region ?_
   refine W_move rfl rfl rfl ?_
   refine W_bin rfl rfl rfl rfl rfl ?_
   refine W_move rfl rfl rfl ?_
   cases hb146 : (decide (r113.2 = 0))
   ·refine W_no rfl rfl rfl ?_
    refine W_no rfl rfl rfl ?_
    refine W_pick rfl rfl rfl rfl ?_
    refine W_move rfl rfl rfl ?_
    refine W_no rfl rfl rfl ?_
    refine W_no rfl rfl rfl ?_
    refine W_pick rfl rfl rfl rfl ?_
    refine W_move rfl rfl rfl ?_
    refine W_no rfl rfl rfl ?_
    refine W_no rfl rfl rfl ?_
    refine W_pick rfl rfl rfl rfl ?_
    refine W_end ?_
    refine E_drop (List.Sublist.cons _ (List.Sublist.cons _ (List.Sublist.refl _))) ?_
    exact E_keepJ (J124 _ _ _ ⟨rfl, rfl, rfl⟩) (List.Perm.refl _) ⟨rfl, rfl, rfl, rfl, rfl, rfl, (by show some (Value.bool (true)) = some (Value.bool ((((!decide (r113.2 = 0)) || (!decide (r115.2 = 0))) || (!decide (r117.2 = 0))) || (!decide (r119.2 = 0)))); first | (simp only [hb105, hb146, Bool.and_true, Bool.true_and, Bool.false_and, Bool.and_false, Bool.or_true, Bool.true_or, Bool.or_false, Bool.false_or, Bool.not_true, Bool.not_false]; done) | (simp only [hb105, hb146]; first | done | simp only [Bool.and_true, Bool.true_and, Bool.false_and, Bool.and_false, Bool.or_true, Bool.true_or, Bool.or_false, Bool.false_or, Bool.not_true, Bool.not_false])), trivial⟩
   ·refine W_move rfl rfl rfl ?_
    refine W_bin rfl rfl rfl rfl rfl ?_
    refine W_pick rfl rfl rfl rfl ?_
    refine W_move rfl rfl rfl ?_
    cases hb147 : (decide (r115.2 = 0))
    ·refine W_no rfl rfl rfl ?_
     refine W_no rfl rfl rfl ?_
     refine W_pick rfl rfl rfl rfl ?_
     refine W_move rfl rfl rfl ?_
     refine W_no rfl rfl rfl ?_
     refine W_no rfl rfl rfl ?_
     refine W_pick rfl rfl rfl rfl ?_
     refine W_end ?_
     refine E_drop (List.Sublist.cons _ (List.Sublist.cons _ (List.Sublist.refl _))) ?_
     exact E_keepJ (J124 _ _ _ ⟨rfl, rfl, rfl⟩) (List.Perm.refl _) ⟨rfl, rfl, rfl, rfl, rfl, rfl, (by show some (Value.bool (true)) = some (Value.bool ((((!decide (r113.2 = 0)) || (!decide (r115.2 = 0))) || (!decide (r117.2 = 0))) || (!decide (r119.2 = 0)))); first | (simp only [hb105, hb146, hb147, Bool.and_true, Bool.true_and, Bool.false_and, Bool.and_false, Bool.or_true, Bool.true_or, Bool.or_false, Bool.false_or, Bool.not_true, Bool.not_false]; done) | (simp only [hb105, hb146, hb147]; first | done | simp only [Bool.and_true, Bool.true_and, Bool.false_and, Bool.and_false, Bool.or_true, Bool.true_or, Bool.or_false, Bool.false_or, Bool.not_true, Bool.not_false])), trivial⟩
    ·refine W_move rfl rfl rfl ?_
     refine W_bin rfl rfl rfl rfl rfl ?_
     refine W_pick rfl rfl rfl rfl ?_
     refine W_move rfl rfl rfl ?_
     cases hb148 : (decide (r117.2 = 0))
     ·refine W_no rfl rfl rfl ?_
      refine W_no rfl rfl rfl ?_
      refine W_pick rfl rfl rfl rfl ?_
      refine W_end ?_
      refine E_drop (List.Sublist.cons _ (List.Sublist.cons _ (List.Sublist.refl _))) ?_
      exact E_keepJ (J124 _ _ _ ⟨rfl, rfl, rfl⟩) (List.Perm.refl _) ⟨rfl, rfl, rfl, rfl, rfl, rfl, (by show some (Value.bool (true)) = some (Value.bool ((((!decide (r113.2 = 0)) || (!decide (r115.2 = 0))) || (!decide (r117.2 = 0))) || (!decide (r119.2 = 0)))); first | (simp only [hb105, hb146, hb147, hb148, Bool.and_true, Bool.true_and, Bool.false_and, Bool.and_false, Bool.or_true, Bool.true_or, Bool.or_false, Bool.false_or, Bool.not_true, Bool.not_false]; done) | (simp only [hb105, hb146, hb147, hb148]; first | done | simp only [Bool.and_true, Bool.true_and, Bool.false_and, Bool.and_false, Bool.or_true, Bool.true_or, Bool.or_false, Bool.false_or, Bool.not_true, Bool.not_false])), trivial⟩
     ·refine W_move rfl rfl rfl ?_
      refine W_bin rfl rfl rfl rfl rfl ?_
      refine W_pick rfl rfl rfl rfl ?_
      refine W_end ?_
      refine E_drop (List.Sublist.cons _ (List.Sublist.cons _ (List.Sublist.refl _))) ?_
      exact E_keepJ (J124 _ _ _ ⟨rfl, rfl, rfl⟩) (List.Perm.refl _) ⟨rfl, rfl, rfl, rfl, rfl, rfl, (by show some (Value.bool (!decide (r119.2 = 0))) = some (Value.bool ((((!decide (r113.2 = 0)) || (!decide (r115.2 = 0))) || (!decide (r117.2 = 0))) || (!decide (r119.2 = 0)))); first | (simp only [hb105, hb146, hb147, hb148, Bool.and_true, Bool.true_and, Bool.false_and, Bool.and_false, Bool.or_true, Bool.true_or, Bool.or_false, Bool.false_or, Bool.not_true, Bool.not_false]; done) | (simp only [hb105, hb146, hb147, hb148]; first | done | simp only [Bool.and_true, Bool.true_and, Bool.false_and, Bool.and_false, Bool.or_true, Bool.true_or, Bool.or_false, Bool.false_or, Bool.not_true, Bool.not_false])), trivial⟩

theorem m_rat_op__large_Rat_Sub_c {B : Nat} {w0 w : World} [Tabs B w0] {H : Hp} {M : List Res} {p0_a : ByteArray} {p1_b : ByteArray} {r : ByteArray × Int} (hm : m_rat_op__large_Rat_Sub p0_a p1_b = some r) (ht : St B w0 H (M) w) :
  Calls prog 30 [.string (p0_a), .string (p1_b), .func (.func 32) [].toArray [].toArray].toArray w (Ret B w0 fun H' M' v => H = H' ∧ M = M' ∧ .tuple #[.string (r.1), .int .i64 (r.2)] = v) := by
 unfold m_rat_op__large_Rat_Sub at hm
 refine enter func30 rfl rfl rfl ht ?_
 refine C_seq (C_region ?_)
 refine W_assign rfl rfl rfl ?_
 refine W_assign rfl rfl rfl ?_
 refine W_end (E_then (C_seq (C_seq (C_region ?_))))
 refine W_move rfl rfl rfl ?_
 refine W_move rfl rfl rfl ?_
 refine W_buildSliceO (α := ByteArray) (css := [[.string (p0_a)], [.string (p1_b)]]) (zs := [.string (⟨#[]⟩), .string (⟨#[]⟩)]) (out := [.string (p0_a), .string (p1_b)]) (ys := [p0_a, p1_b]) rfl rfl rfl ⟨rfl, rfl, trivial⟩ runUnderlying38 sizeOf22 rfl zeroValue22 (by kernel_rfl) rfl rfl rfl rfl ⟨[.string (p0_a)], [.string (p1_b)], rfl, rfl, ⟨[.string (p1_b)], [], rfl, rfl, rfl⟩⟩ rfl ?_
 intro v101 xs102 hr103
 obtain ⟨r104, hc105, hm⟩ := bind_some hm
 refine W_call call46 rfl rfl rfl (fun w ht => by obtain ⟨H0_, hl0_, ht0_, hr0_, bk0_⟩ := ht.lendRow hr103 rfl; have h := m_rat_CheckAll_c (hm := hc105) hr0_ ht0_; exact lend_back bk0_ (h)) ?_
 rintro _ _ _ ⟨rfl, ⟨_, rfl, rfl, rfl⟩⟩
 refine W_assign rfl rfl rfl ?_
 refine W_end (E_then (C_seq (C_region ?_)))
 refine W_move rfl rfl rfl ?_
 refine W_bin rfl rfl rfl rfl rfl ?_
 refine W_end (E_then ?_)
 refine C_cond (b := !decide (r104 = 0)) rfl (fun hb106 => ?_) (fun hb106 => ?_)
 ·have hm := ite_t' hb106 hm
  refine C_seq (C_region ?_)
  refine W_move rfl rfl rfl ?_
  refine W_assign rfl rfl rfl ?_
  refine W_assign rfl rfl rfl ?_
  refine W_end (E_then (C_ret (E_ret_then ?_)))
  obtain rfl := Option.some.inj hm
  refine E_drop (List.Sublist.cons _ (List.Sublist.refl _)) ?_
  refine E_weak (Hp.le_refl _) ?_
  exact end2 rfl rfl rfl ⟨rfl, rfl, rfl⟩
 ·have hm := ite_f' hb106 hm
  refine C_skip (E_then (C_seq (C_region ?_)))
  refine W_move rfl rfl rfl ?_
  refine W_move rfl rfl rfl ?_
  obtain ⟨r107, hc108, hm⟩ := bind_some hm
  refine W_call call29 rfl rfl rfl (fun w ht => by have h := m_large_Parse_c (hm := hc108)  ht; exact h) ?_
  rintro _ H113 _ ⟨hle114, v109, v111, rfl, rfl, h110, h112⟩
  refine W_move rfl rfl rfl ?_
  obtain ⟨r115, hc116, hm⟩ := bind_some hm
  refine W_call call29 rfl rfl rfl (fun w ht => by have h := m_large_Parse_c (hm := hc116)  ht; exact h) ?_
  rintro _ H121 _ ⟨hle122, v117, v119, rfl, rfl, h118, h120⟩
  obtain ⟨r123, hc124, hm⟩ := bind_some hm
  refine W_callv call32 rfl rfl rfl rfl (fun w ht => by have h := m_large_Rat_Sub_c (hm := hc124) (h110.mono hle122) (h112.mono hle122) h118 h120 ht; exact h) ?_
  rintro _ H129 _ ⟨hle130, v125, v127, rfl, rfl, h126, h128⟩
  obtain ⟨r131, hc132, hm⟩ := bind_some hm
  refine W_call call33 rfl rfl rfl (fun w ht => by have h := m_rat_text_c (hm := hc132) h126 h128 ht; exact h) ?_
  rintro _ _ _ ⟨rfl, rfl, rfl⟩
  refine W_extract rfl rfl rfl rfl ?_
  refine W_extract rfl rfl rfl rfl ?_
  refine W_assign rfl rfl rfl ?_
  refine W_assign rfl rfl rfl ?_
  refine W_end (E_then (C_ret ?_))
  obtain rfl := Option.some.inj hm
  refine E_drop (List.Sublist.cons _ (List.Sublist.refl _)) ?_
  refine E_weak (Hp.le_trans (Hp.le_trans hle114 hle122) hle130) ?_
  exact end2 rfl rfl rfl ⟨rfl, rfl, rfl⟩

theorem m_rat_Sub_c {B : Nat} {w0 w : World} [Tabs B w0] {H : Hp} {M : List Res} {p0_a : ByteArray} {p1_b : ByteArray} {r : ByteArray × Int} (hm : m_rat_Sub p0_a p1_b = some r) (ht : St B w0 H (M) w) :
  Calls prog 15 [.string (p0_a), .string (p1_b)].toArray w (Ret B w0 fun H' M' v => H = H' ∧ M = M' ∧ .tuple #[.string (r.1), .int .i64 (r.2)] = v) := by
 unfold m_rat_Sub at hm
 refine enter func15 rfl rfl rfl ht ?_
 refine C_seq (C_region ?_)
 refine W_assign rfl rfl rfl ?_
 refine W_assign rfl rfl rfl ?_
 refine W_end (E_then (C_seq (C_region ?_)))
 refine W_move rfl rfl rfl ?_
 refine W_move rfl rfl rfl ?_
 obtain ⟨r101, hc102, hm⟩ := bind_some hm
 refine W_call call30 rfl rfl rfl (fun w ht => by have h := m_rat_op__large_Rat_Sub_c (hm := hc102)  ht; exact h) ?_
 rintro _ _ _ ⟨rfl, rfl, rfl⟩
 refine W_extract rfl rfl rfl rfl ?_
 refine W_extract rfl rfl rfl rfl ?_
 refine W_assign rfl rfl rfl ?_
 refine W_assign rfl rfl rfl ?_
 refine W_end (E_then (C_ret ?_))
 obtain rfl := Option.some.inj hm
 refine E_weak (Hp.le_refl _) ?_
 exact end2 rfl rfl rfl ⟨rfl, rfl, rfl⟩

theorem m_rat_Of_c {B : Nat} {w0 w : World} [Tabs B w0] {H : Hp} {M : List Res} {p0_n : Int} {p1_d : Int} {r : ByteArray × Int} (hm : m_rat_Of p0_n p1_d = some r) (ht : St B w0 H (M) w) :
  Calls prog 16 [.int .i64 (p0_n), .int .i64 (p1_d)].toArray w (Ret B w0 fun H' M' v => H = H' ∧ M = M' ∧ .tuple #[.string (r.1), .int .i64 (r.2)] = v) := by
 unfold m_rat_Of at hm
 refine enter func16 rfl rfl rfl ht ?_
 refine C_seq (C_region ?_)
 refine W_assign rfl rfl rfl ?_
 refine W_assign rfl rfl rfl ?_
 refine W_end (E_then (C_seq (C_seq (C_region ?_))))
 refine W_move rfl rfl rfl ?_
 refine W_bin rfl rfl rfl rfl rfl ?_
 refine W_end (E_then ?_)
 refine C_cond (b := decide (p1_d = 0)) rfl (fun hb101 => ?_) (fun hb101 => ?_)
 ·have hm := ite_t' hb101 hm
  refine C_seq (C_region ?_)
  refine W_assign rfl rfl rfl ?_
  refine W_assign rfl rfl rfl ?_
  refine W_end (E_then (C_ret (E_ret_then ?_)))
  obtain rfl := Option.some.inj hm
  refine E_weak (Hp.le_refl _) ?_
  exact end2 rfl rfl rfl ⟨rfl, rfl, rfl⟩
 ·have hm := ite_f' hb101 hm
  refine C_skip (E_then (C_seq (C_region ?_)))
  refine W_move rfl rfl rfl ?_
  refine W_move rfl rfl rfl ?_
  obtain ⟨r102, hc103, hm⟩ := bind_some hm
  refine W_call call24 rfl rfl rfl (fun w ht => by have h := m_large_Frac_c (hm := hc103)  ht; exact h) ?_
  rintro _ H108 _ ⟨hle109, v104, v106, rfl, rfl, h105, h107⟩
  obtain ⟨r110, hc111, hm⟩ := bind_some hm
  refine W_call call33 rfl rfl rfl (fun w ht => by have h := m_rat_text_c (hm := hc111) h105 h107 ht; exact h) ?_
  rintro _ _ _ ⟨rfl, rfl, rfl⟩
  refine W_extract rfl rfl rfl rfl ?_
  refine W_extract rfl rfl rfl rfl ?_
  refine W_assign rfl rfl rfl ?_
  refine W_assign rfl rfl rfl ?_
  refine W_end (E_then (C_ret ?_))
  obtain rfl := Option.some.inj hm
  refine E_weak hle109 ?_
  exact end2 rfl rfl rfl ⟨rfl, rfl, rfl⟩

theorem m_rat_op__large_Rat_Mul_c {B : Nat} {w0 w : World} [Tabs B w0] {H : Hp} {M : List Res} {p0_a : ByteArray} {p1_b : ByteArray} {r : ByteArray × Int} (hm : m_rat_op__large_Rat_Mul p0_a p1_b = some r) (ht : St B w0 H (M) w) :
  Calls prog 30 [.string (p0_a), .string (p1_b), .func (.func 34) [].toArray [].toArray].toArray w (Ret B w0 fun H' M' v => H = H' ∧ M = M' ∧ .tuple #[.string (r.1), .int .i64 (r.2)] = v) := by
 unfold m_rat_op__large_Rat_Mul at hm
 refine enter func30 rfl rfl rfl ht ?_
 refine C_seq (C_region ?_)
 refine W_assign rfl rfl rfl ?_
 refine W_assign rfl rfl rfl ?_
 refine W_end (E_then (C_seq (C_seq (C_region ?_))))
 refine W_move rfl rfl rfl ?_
 refine W_move rfl rfl rfl ?_
 refine W_buildSliceO (α := ByteArray) (css := [[.string (p0_a)], [.string (p1_b)]]) (zs := [.string (⟨#[]⟩), .string (⟨#[]⟩)]) (out := [.string (p0_a), .string (p1_b)]) (ys := [p0_a, p1_b]) rfl rfl rfl ⟨rfl, rfl, trivial⟩ runUnderlying38 sizeOf22 rfl zeroValue22 (by kernel_rfl) rfl rfl rfl rfl ⟨[.string (p0_a)], [.string (p1_b)], rfl, rfl, ⟨[.string (p1_b)], [], rfl, rfl, rfl⟩⟩ rfl ?_
 intro v101 xs102 hr103
 obtain ⟨r104, hc105, hm⟩ := bind_some hm
 refine W_call call46 rfl rfl rfl (fun w ht => by obtain ⟨H0_, hl0_, ht0_, hr0_, bk0_⟩ := ht.lendRow hr103 rfl; have h := m_rat_CheckAll_c (hm := hc105) hr0_ ht0_; exact lend_back bk0_ (h)) ?_
 rintro _ _ _ ⟨rfl, ⟨_, rfl, rfl, rfl⟩⟩
 refine W_assign rfl rfl rfl ?_
 refine W_end (E_then (C_seq (C_region ?_)))
 refine W_move rfl rfl rfl ?_
 refine W_bin rfl rfl rfl rfl rfl ?_
 refine W_end (E_then ?_)
 refine C_cond (b := !decide (r104 = 0)) rfl (fun hb106 => ?_) (fun hb106 => ?_)
 ·have hm := ite_t' hb106 hm
  refine C_seq (C_region ?_)
  refine W_move rfl rfl rfl ?_
  refine W_assign rfl rfl rfl ?_
  refine W_assign rfl rfl rfl ?_
  refine W_end (E_then (C_ret (E_ret_then ?_)))
  obtain rfl := Option.some.inj hm
  refine E_drop (List.Sublist.cons _ (List.Sublist.refl _)) ?_
  refine E_weak (Hp.le_refl _) ?_
  exact end2 rfl rfl rfl ⟨rfl, rfl, rfl⟩
 ·have hm := ite_f' hb106 hm
  refine C_skip (E_then (C_seq (C_region ?_)))
  refine W_move rfl rfl rfl ?_
  refine W_move rfl rfl rfl ?_
  obtain ⟨r107, hc108, hm⟩ := bind_some hm
  refine W_call call29 rfl rfl rfl (fun w ht => by have h := m_large_Parse_c (hm := hc108)  ht; exact h) ?_
  rintro _ H113 _ ⟨hle114, v109, v111, rfl, rfl, h110, h112⟩
  refine W_move rfl rfl rfl ?_
  obtain ⟨r115, hc116, hm⟩ := bind_some hm
  refine W_call call29 rfl rfl rfl (fun w ht => by have h := m_large_Parse_c (hm := hc116)  ht; exact h) ?_
  rintro _ H121 _ ⟨hle122, v117, v119, rfl, rfl, h118, h120⟩
  obtain ⟨r123, hc124, hm⟩ := bind_some hm
  refine W_callv call34 rfl rfl rfl rfl (fun w ht => by have h := m_large_Rat_Mul_c (hm := hc124) (h110.mono hle122) (h112.mono hle122) h118 h120 ht; exact h) ?_
  rintro _ H129 _ ⟨hle130, v125, v127, rfl, rfl, h126, h128⟩
  obtain ⟨r131, hc132, hm⟩ := bind_some hm
  refine W_call call33 rfl rfl rfl (fun w ht => by have h := m_rat_text_c (hm := hc132) h126 h128 ht; exact h) ?_
  rintro _ _ _ ⟨rfl, rfl, rfl⟩
  refine W_extract rfl rfl rfl rfl ?_
  refine W_extract rfl rfl rfl rfl ?_
  refine W_assign rfl rfl rfl ?_
  refine W_assign rfl rfl rfl ?_
  refine W_end (E_then (C_ret ?_))
  obtain rfl := Option.some.inj hm
  refine E_drop (List.Sublist.cons _ (List.Sublist.refl _)) ?_
  refine E_weak (Hp.le_trans (Hp.le_trans hle114 hle122) hle130) ?_
  exact end2 rfl rfl rfl ⟨rfl, rfl, rfl⟩

theorem m_rat_Mul_c {B : Nat} {w0 w : World} [Tabs B w0] {H : Hp} {M : List Res} {p0_a : ByteArray} {p1_b : ByteArray} {r : ByteArray × Int} (hm : m_rat_Mul p0_a p1_b = some r) (ht : St B w0 H (M) w) :
  Calls prog 17 [.string (p0_a), .string (p1_b)].toArray w (Ret B w0 fun H' M' v => H = H' ∧ M = M' ∧ .tuple #[.string (r.1), .int .i64 (r.2)] = v) := by
 unfold m_rat_Mul at hm
 refine enter func17 rfl rfl rfl ht ?_
 refine C_seq (C_region ?_)
 refine W_assign rfl rfl rfl ?_
 refine W_assign rfl rfl rfl ?_
 refine W_end (E_then (C_seq (C_region ?_)))
 refine W_move rfl rfl rfl ?_
 refine W_move rfl rfl rfl ?_
 obtain ⟨r101, hc102, hm⟩ := bind_some hm
 refine W_call call30 rfl rfl rfl (fun w ht => by have h := m_rat_op__large_Rat_Mul_c (hm := hc102)  ht; exact h) ?_
 rintro _ _ _ ⟨rfl, rfl, rfl⟩
 refine W_extract rfl rfl rfl rfl ?_
 refine W_extract rfl rfl rfl rfl ?_
 refine W_assign rfl rfl rfl ?_
 refine W_assign rfl rfl rfl ?_
 refine W_end (E_then (C_ret ?_))
 obtain rfl := Option.some.inj hm
 refine E_weak (Hp.le_refl _) ?_
 exact end2 rfl rfl rfl ⟨rfl, rfl, rfl⟩
end Go.Sim
