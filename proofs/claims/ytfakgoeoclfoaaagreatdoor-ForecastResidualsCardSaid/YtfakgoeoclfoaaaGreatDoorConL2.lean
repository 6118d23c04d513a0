/-
  Printed by a program: each Go function computes its model.
-/
import Derived.Test.YtfakgoeoclfoaaaGreatDoorConL1
namespace Go.Sim
open Go Go.Proofs.Tryz
set_option linter.unusedVariables false
set_option linter.unusedSimpArgs false
set_option maxRecDepth 100000
theorem m_large_Int_DivMod_c {B : Nat} {w0 w : World} [Tabs B w0] {H : Hp} {M : List Res} {p0_a : S_large_Int} {p1_b : S_large_Int} {v0 : Value} {v1 : Value} {r : S_large_Int × S_large_Int} (hm : m_large_Int_DivMod p0_a p1_b = some r) (h0 : RdS H v0 p0_a.words) (h1 : RdS H v1 p1_b.words) (ht : St B w0 H (M) w) :
  Calls prog 54 [.agg [.bool (p0_a.minus), v0].toArray, .agg [.bool (p1_b.minus), v1].toArray].toArray w (Ret B w0 fun H' M' v => H.le H' ∧ ∃ qv0 : Value, ∃ qv1 : Value, M = M' ∧ .tuple #[.agg [.bool (r.1.minus), qv0].toArray, .agg [.bool (r.2.minus), qv1].toArray] = v ∧ RdS H' qv0 r.1.words ∧ RdS H' qv1 r.2.words) := by
 unfold m_large_Int_DivMod at hm
 refine enter func54 rfl rfl rfl ht ?_
 refine C_seq (C_region ?_)
 refine W_box (cs := [.bool (p0_a.minus), v0]) rfl rfl rfl rfl (fun b101 => ?_)
 refine W_box (cs := [.bool (p1_b.minus), v1]) rfl rfl rfl rfl (fun b102 => ?_)
 refine W_alloc (cs := [.bool (false), .slice none 0 0]) rfl rfl zeroValue48 rfl (fun b103 => ?_)
 refine W_alloc (cs := [.bool (false), .slice none 0 0]) rfl rfl zeroValue48 rfl (fun b104 => ?_)
 refine W_end (E_then (C_seq (C_region ?_)))
 refine W_field (o := 1) rfl rfl runUnderlying48 rfl sizeOf46 rfl rfl rfl ?_
 refine W_load rfl rfl isAgg46 rfl (own_at (List.mem_cons_of_mem _ (List.mem_cons_of_mem _ (List.mem_cons_of_mem _ (List.mem_cons_self ..)))) rfl) ?_
 refine W_field (o := 1) rfl rfl runUnderlying48 rfl sizeOf46 rfl rfl rfl ?_
 refine W_load rfl rfl isAgg46 rfl (own_at (List.mem_cons_of_mem _ (List.mem_cons_of_mem _ (List.mem_cons_self ..))) rfl) ?_
 obtain ⟨r105, hc106, hm⟩ := bind_some hm
 refine W_call call72 rfl rfl rfl (fun w ht => by have h := m_large_divWords_c (hm := hc106) h0 h1 ht; exact h) ?_
 rintro _ H111 _ ⟨hle112, v107, v109, rfl, rfl, h108, h110⟩
 refine W_move rfl rfl rfl ?_
 refine W_extract rfl rfl rfl rfl ?_
 refine W_extract rfl rfl rfl rfl ?_
 refine W_assign rfl rfl rfl ?_
 refine W_assign rfl rfl rfl ?_
 refine W_end (E_then (C_seq ?_))
 obtain ⟨hz113, hm⟩ := need_some hm
 obtain ⟨r120, hc121, hm⟩ := bind_some hm
 obtain ⟨hz126, hm⟩ := need_some hm
 obtain ⟨r133, hc134, hm⟩ := bind_some hm
 refine C_region_tok0 12 (phiT [(fun H rs v => [] = rs ∧ .pointer (some ⟨b101, 0, none⟩) = v), (fun H rs v => [] = rs ∧ .bool (p0_a.minus) = v), (fun H rs v => [] = rs ∧ v107 = v), (fun H rs v => ∃ v141 : Value, ∃ xs142 : List Value, [.row v141 81 (Rep.sz U32) r105.1.length xs142] = rs ∧ v141 = v ∧ Rw H v141 xs142 r105.1), (fun H rs v => ∃ v141 : Value, ∃ xs142 : List Value, ∃ v147 : Value, [] = rs ∧ .agg [.bool (r120.minus), v147].toArray = v ∧ Rw H v141 xs142 r105.1 ∧ RdS H v141 r105.1 ∧ RdS H v147 r120.words), (fun H rs v => [] = rs ∧ .pointer (some ⟨b101, 0, none⟩) = v), (fun H rs v => [] = rs ∧ .bool (p0_a.minus) = v), (fun H rs v => [] = rs ∧ v109 = v), (fun H rs v => ∃ v151 : Value, ∃ xs152 : List Value, [.row v151 81 (Rep.sz U32) r105.2.length xs152] = rs ∧ v151 = v ∧ Rw H v151 xs152 r105.2), (fun H rs v => ∃ v151 : Value, ∃ xs152 : List Value, ∃ v157 : Value, [] = rs ∧ .agg [.bool (r133.minus), v157].toArray = v ∧ Rw H v151 xs152 r105.2 ∧ RdS H v151 r105.2 ∧ RdS H v157 r133.words), (fun H rs v => ∃ b161 : Nat, [.obj b161 (.cells ([.bool (false), .slice none 0 0] : List Value).toArray 48 (0, 0))] = rs ∧ .pointer (some ⟨b161, 0, none⟩) = v), (fun H rs v => ∃ b162 : Nat, [.obj b162 (.cells ([.bool (false), .slice none 0 0] : List Value).toArray 48 (0, 0))] = rs ∧ .pointer (some ⟨b162, 0, none⟩) = v)]) [[], [], [], [], [3], [], [], [], [], [8], [], []] [[], [], [], [], [], [], [], [], [], [], [], []] [] [0, 1, 2, 4, 5, 6, 7, 9, 10, 11] Facts.mixed (by kernel_rfl) (by rfl) (by rfl) (by rfl) (by kernel_rfl) (phiT_mono ⟨eq_monoT _ _, eq_monoT _ _, eq_monoT _ _, (by rintro H1 H2 rs v hle ⟨v141, xs142, rfl, rfl, hr143⟩; exact ⟨v141, xs142, rfl, rfl, (hr143.mono hle)⟩), (by rintro H1 H2 rs v hle ⟨v141, xs142, v147, rfl, rfl, hr143, h146, h148⟩; exact ⟨v141, xs142, v147, rfl, rfl, (hr143.mono hle), (h146.mono hle), (h148.mono hle)⟩), eq_monoT _ _, eq_monoT _ _, eq_monoT _ _, (by rintro H1 H2 rs v hle ⟨v151, xs152, rfl, rfl, hr153⟩; exact ⟨v151, xs152, rfl, rfl, (hr153.mono hle)⟩), (by rintro H1 H2 rs v hle ⟨v151, xs152, v157, rfl, rfl, hr153, h156, h158⟩; exact ⟨v151, xs152, v157, rfl, rfl, (hr153.mono hle), (h156.mono hle), (h158.mono hle)⟩), (by rintro H1 H2 rs v hle ⟨b161, rfl, rfl⟩; exact ⟨b161, rfl, rfl⟩), (by rintro H1 H2 rs v hle ⟨b162, rfl, rfl⟩; exact ⟨b162, rfl, rfl⟩), trivial⟩) ⟨?_, ?_, ?_, ?_, ?_, ?_, ?_, ?_, ?_, ?_, ?_, ?_, trivial⟩ ?_
 ·intro HX hX X Rest hR
  intro hU hUp
  refine W_field (o := 0) rfl rfl runUnderlying48 rfl sizeOf4 rfl rfl rfl ?_
  exact W_end (OneT_end [] (Hp.le_refl _) ⟨rfl, rfl⟩)
 ·intro HX hX X Rest hR
  rintro _ _ ⟨rfl, rfl⟩
  intro hU hUp
  refine W_load rfl rfl isAgg4 rfl (own_at (hR _ (List.mem_cons_of_mem _ (List.mem_cons_of_mem _ (List.mem_cons_of_mem _ (List.mem_cons_self ..))))) rfl) ?_
  exact W_end (OneT_end [] (Hp.le_refl _) ⟨rfl, rfl⟩)
 ·intro HX hX X Rest hR
  intro hU hUp
  refine W_move rfl rfl rfl ?_
  exact W_end (OneT_end [] (Hp.le_refl _) ⟨rfl, rfl⟩)
 ·intro HX hX X Rest hR
  rintro _ _ ⟨rfl, rfl⟩
  intro hU hUp
  refine W_call call73 rfl rfl rfl (fun w ht => by have h := clone73_c (s := r105.1) (h108.mono hX) hz113 ht; exact h) ?_
  rintro _ _ _ ⟨rfl, v141, xs142, rfl, rfl, hr143⟩
  have hr143 := hr143 HX
  exact W_end (OneT_end [.row v141 81 (Rep.sz U32) r105.1.length xs142] (Hp.le_refl _) ⟨v141, xs142, rfl, rfl, (hr143)⟩)
 ·intro HX hX X Rest hR
  rintro _ _ ⟨rfl, rfl⟩
  rintro _ _ ⟨v141, xs142, rfl, rfl, hr143⟩
  rintro _ _ ⟨v141, xs142, rfl, rfl, hr143⟩
  intro hU hUp
  refine W_as (M' := .row v141 81 (Rep.sz U32) r105.1.length xs142 :: Rest) rfl ?_
  refine W_freeze (hr143).rd rfl (fun H144 hle145 h146 => ?_)
  refine W_call call55 rfl rfl rfl (fun w ht => by have h := m_large_norm_c (hm := hc121) h146 ht; exact h) ?_
  rintro _ H149 _ ⟨hle150, v147, rfl, rfl, h148⟩
  exact W_end (OneT_end [] (Hp.le_trans hle145 hle150) ⟨v141, xs142, v147, rfl, rfl, (hr143.mono (Hp.le_trans hle145 hle150)), ((h146.mono hle150)), (h148)⟩)
 ·intro HX hX X Rest hR
  intro hU hUp
  refine W_field (o := 0) rfl rfl runUnderlying48 rfl sizeOf4 rfl rfl rfl ?_
  exact W_end (OneT_end [] (Hp.le_refl _) ⟨rfl, rfl⟩)
 ·intro HX hX X Rest hR
  rintro _ _ ⟨rfl, rfl⟩
  intro hU hUp
  refine W_load rfl rfl isAgg4 rfl (own_at (hR _ (List.mem_cons_of_mem _ (List.mem_cons_of_mem _ (List.mem_cons_of_mem _ (List.mem_cons_self ..))))) rfl) ?_
  exact W_end (OneT_end [] (Hp.le_refl _) ⟨rfl, rfl⟩)
 ·intro HX hX X Rest hR
  intro hU hUp
  refine W_move rfl rfl rfl ?_
  exact W_end (OneT_end [] (Hp.le_refl _) ⟨rfl, rfl⟩)
 ·intro HX hX X Rest hR
  rintro _ _ ⟨rfl, rfl⟩
  rintro _ _ ⟨v141, xs142, v147, rfl, rfl, hr143, h146, h148⟩
  intro hU hUp
  refine W_call call73 rfl rfl rfl (fun w ht => by have h := clone73_c (s := r105.2) (h110.mono hX) hz126 ht; exact h) ?_
  rintro _ _ _ ⟨rfl, v151, xs152, rfl, rfl, hr153⟩
  have hr153 := hr153 HX
  exact W_end (OneT_end [.row v151 81 (Rep.sz U32) r105.2.length xs152] (Hp.le_refl _) ⟨v151, xs152, rfl, rfl, (hr153)⟩)
 ·intro HX hX X Rest hR
  rintro _ _ ⟨rfl, rfl⟩
  rintro _ _ ⟨v151, xs152, rfl, rfl, hr153⟩
  rintro _ _ ⟨v151, xs152, rfl, rfl, hr153⟩
  intro hU hUp
  refine W_as (M' := .row v151 81 (Rep.sz U32) r105.2.length xs152 :: Rest) rfl ?_
  refine W_freeze (hr153).rd rfl (fun H154 hle155 h156 => ?_)
  refine W_call call55 rfl rfl rfl (fun w ht => by have h := m_large_norm_c (hm := hc134) h156 ht; exact h) ?_
  rintro _ H159 _ ⟨hle160, v157, rfl, rfl, h158⟩
  exact W_end (OneT_end [] (Hp.le_trans hle155 hle160) ⟨v151, xs152, v157, rfl, rfl, (hr153.mono (Hp.le_trans hle155 hle160)), ((h156.mono hle160)), (h158)⟩)
 ·intro HX hX X Rest hR
  intro hU hUp
  refine W_alloc (cs := [.bool (false), .slice none 0 0]) rfl rfl zeroValue48 rfl (fun b161 => ?_)
  exact W_end (OneT_end [.obj b161 (.cells ([.bool (false), .slice none 0 0] : List Value).toArray 48 (0, 0))] (Hp.le_refl _) ⟨b161, rfl, rfl⟩)
 ·intro HX hX X Rest hR
  intro hU hUp
  refine W_alloc (cs := [.bool (false), .slice none 0 0]) rfl rfl zeroValue48 rfl (fun b162 => ?_)
  exact W_end (OneT_end [.obj b162 (.cells ([.bool (false), .slice none 0 0] : List Value).toArray 48 (0, 0))] (Hp.le_refl _) ⟨b162, rfl, rfl⟩)
 intro H163 hle164
 rintro _ _ ⟨rfl, rfl⟩
 rintro _ _ ⟨rfl, rfl⟩
 rintro _ _ ⟨rfl, rfl⟩
 rintro _ _ ⟨v141, xs142, rfl, rfl, hr143⟩
 rintro _ _ ⟨v141, xs142, v147, rfl, rfl, hr143, h146, h148⟩
 rintro _ _ ⟨rfl, rfl⟩
 rintro _ _ ⟨rfl, rfl⟩
 rintro _ _ ⟨rfl, rfl⟩
 rintro _ _ ⟨v151, xs152, rfl, rfl, hr153⟩
 rintro _ _ ⟨v151, xs152, v157, rfl, rfl, hr153, h156, h158⟩
 rintro _ _ ⟨b161, rfl, rfl⟩
 rintro _ _ ⟨b162, rfl, rfl⟩
 refine W_as (M' := .obj b161 (.cells ([.bool (false), .slice none 0 0] : List Value).toArray 48 (0, 0)) :: .obj b162 (.cells ([.bool (false), .slice none 0 0] : List Value).toArray 48 (0, 0)) :: .obj b104 (.cells ([.bool (false), .slice none 0 0] : List Value).toArray 48 (0, 0)) :: .obj b103 (.cells ([.bool (false), .slice none 0 0] : List Value).toArray 48 (0, 0)) :: .obj b102 (.cells [.bool (p1_b.minus), v1].toArray 48 (0, 0)) :: .obj b101 (.cells [.bool (p0_a.minus), v0].toArray 48 (0, 0)) :: M) rfl ?_
 refine W_store (cs := [.bool (r120.minus), v147]) (out := [.bool (r120.minus), v147]) rfl sizeOf48 rfl rfl rfl rfl rfl (all_cons rfl (all_cons (RdS.one1 h148) all_nil)) (over_all rfl) ?_
 refine W_perm (List.Perm.swap _ _ _) ?_
 refine W_store (cs := [.bool (r133.minus), v157]) (out := [.bool (r133.minus), v157]) rfl sizeOf48 rfl rfl rfl rfl rfl (all_cons rfl (all_cons (RdS.one1 h158) all_nil)) (over_all rfl) ?_
 refine W_end (E_then ?_)
 refine C_seq_join (fun H' M' L' => ∃ c194 : Bool, ∃ l196 : (List U32), ∃ c198 : Bool, ∃ l200 : (List U32), ∃ v195 : Value, ∃ v199 : Value, m_large_Int_DivMod_b1 c194 l196 c198 l200 = some r ∧ RdS H' v195 l196 ∧ RdS H' v199 l200 ∧ H163.le H' ∧ .obj b162 (.cells [.bool (c194), v195].toArray 48 (0, 0)) :: .obj b161 (.cells [.bool (c198), v199].toArray 48 (0, 0)) :: .obj b104 (.cells ([.bool (false), .slice none 0 0] : List Value).toArray 48 (0, 0)) :: .obj b103 (.cells ([.bool (false), .slice none 0 0] : List Value).toArray 48 (0, 0)) :: M = M' ∧ [(4, .pointer (some ⟨b103, 0, none⟩)), (5, .pointer (some ⟨b104, 0, none⟩)), (8, .pointer (some ⟨b161, 0, none⟩)), (9, .pointer (some ⟨b162, 0, none⟩))] = L') ?_ (fun J204 => ?_)
 ·rintro H202 _ _ ⟨c194, l196, c198, l200, v195, v199, hm, h197, h201, hle203, rfl, rfl⟩
  unfold m_large_Int_DivMod_b1 at hm
  refine C_seq ?_
  refine C_perm (List.Perm.trans (List.Perm.cons _ (List.Perm.cons _ (List.Perm.swap _ _ _))) (List.Perm.trans (List.Perm.cons _ (List.Perm.swap _ _ _)) (List.Perm.swap _ _ _))) ?_
  refine C_as (M' := [[.obj b103 (.cells ([.bool (false), .slice none 0 0] : List Value).toArray 48 (0, 0))]].flatten ++ (.obj b162 (.cells [.bool (c194), v195].toArray 48 (0, 0)) :: .obj b161 (.cells [.bool (c198), v199].toArray 48 (0, 0)) :: .obj b104 (.cells ([.bool (false), .slice none 0 0] : List Value).toArray 48 (0, 0)) :: M)) rfl ?_
  refine C_region_tok0 3 (phiT [(fun H rs v => [] = rs ∧ .agg [.bool (c198), v199].toArray = v), (fun H rs v => [] = rs ∧ .agg [.bool (c194), v195].toArray = v), (fun H rs v => [.obj b103 (.cells [.bool (c198), v199].toArray 48 (0, 0))] = rs ∧ undef = v)]) [[], [], [3]] [[], [], []] [[.obj b103 (.cells ([.bool (false), .slice none 0 0] : List Value).toArray 48 (0, 0))]] [0, 1, 2] Facts.mixed (by kernel_rfl) (by rfl) (by rfl) (by rfl) (by kernel_rfl) (phiT_mono ⟨eq_monoT _ _, eq_monoT _ _, eq_monoT _ _, trivial⟩) ⟨?_, ?_, ?_, trivial⟩ ?_
  ·intro HX hX X Rest hR
   intro hU hUp
   refine W_loadAgg rfl rfl isAgg48 sizeOf48 rfl (own_all (hR _ (List.mem_cons_of_mem _ (List.mem_cons_self ..)))) rfl ?_
   exact W_end (OneT_end [] (Hp.le_refl _) ⟨rfl, rfl⟩)
  ·intro HX hX X Rest hR
   intro hU hUp
   refine W_loadAgg rfl rfl isAgg48 sizeOf48 rfl (own_all (hR _ (List.mem_cons_self ..))) rfl ?_
   exact W_end (OneT_end [] (Hp.le_refl _) ⟨rfl, rfl⟩)
  ·intro HX hX X Rest hR
   rintro _ _ ⟨rfl, rfl⟩
   rintro _ _ ⟨rfl, rfl⟩
   intro hU hUp
   refine W_as (M' := .obj b103 (.cells ([.bool (false), .slice none 0 0] : List Value).toArray 48 (0, 0)) :: Rest) rfl ?_
   refine W_store (cs := [.bool (c198), v199]) (out := [.bool (c198), v199]) rfl sizeOf48 rfl rfl rfl rfl rfl (all_cons rfl (all_cons (RdS.one1 (h201.mono hX)) all_nil)) (over_all rfl) ?_
   exact W_end (OneT_end_ [.obj b103 (.cells [.bool (c198), v199].toArray 48 (0, 0))] (Hp.le_refl _) ⟨rfl, rfl⟩)
  intro H205 hle206
  rintro _ _ ⟨rfl, rfl⟩
  rintro _ _ ⟨rfl, rfl⟩
  rintro _ ⟨rfl, _⟩
  refine W_as (M' := .obj b103 (.cells [.bool (c198), v199].toArray 48 (0, 0)) :: .obj b162 (.cells [.bool (c194), v195].toArray 48 (0, 0)) :: .obj b161 (.cells [.bool (c198), v199].toArray 48 (0, 0)) :: .obj b104 (.cells ([.bool (false), .slice none 0 0] : List Value).toArray 48 (0, 0)) :: M) rfl ?_
  refine W_perm (List.Perm.trans (List.Perm.cons _ (List.Perm.cons _ (List.Perm.swap _ _ _))) (List.Perm.trans (List.Perm.cons _ (List.Perm.swap _ _ _)) (List.Perm.swap _ _ _))) ?_
  refine W_store (cs := [.bool (c194), v195]) (out := [.bool (c194), v195]) rfl sizeOf48 rfl rfl rfl rfl rfl (all_cons rfl (all_cons (RdS.one1 (h197.mono hle206)) all_nil)) (over_all rfl) ?_
  refine W_end (E_then (C_ret ?_))
  obtain rfl := Option.some.inj hm
  exact endC2 (Hp.le_refl _) rfl (ResV.agg rfl isAgg48 sizeOf48 (List.mem_cons_of_mem _ (List.mem_cons_self ..)) rfl) (ResV.agg rfl isAgg48 sizeOf48 (List.mem_cons_self ..) rfl) (List.Sublist.cons _ (List.Sublist.cons _ (List.Sublist.cons _ (List.Sublist.cons _ (List.Sublist.refl _))))) (List.Perm.refl _) ⟨(Hp.le_trans (Hp.le_trans (Hp.le_trans hle112 hle164) hle203) hle206), v199, v195, rfl, rfl, (h201.mono hle206), (h197.mono hle206)⟩
 ·refine C_seq (C_region ?_)
  refine W_field (o := 0) rfl rfl runUnderlying48 rfl sizeOf4 rfl rfl rfl ?_
  refine W_load rfl rfl isAgg4 rfl (own_at (List.mem_cons_self ..) rfl) ?_
  refine W_end (E_then ?_)
  refine C_cond (b := r133.minus) rfl (fun hb207 => ?_) (fun hb207 => ?_)
  ·have hm := ite_t' hb207 hm
   obtain ⟨r208, hc209, hm⟩ := bind_some hm
   obtain ⟨r214, hc215, hm⟩ := bind_some hm
   refine C_region_tok0 5 (phiT [(fun H rs v => [] = rs ∧ .agg [.bool (r120.minus), v147].toArray = v), (fun H rs v => ∃ v220 : Value, [] = rs ∧ .agg [.bool (r208.minus), v220].toArray = v ∧ RdS H v220 r208.words), (fun H rs v => ∃ v224 : Value, [] = rs ∧ .agg [.bool (r214.minus), v224].toArray = v ∧ RdS H v224 r214.words), (fun H rs v => [] = rs ∧ .agg [.bool (r133.minus), v157].toArray = v), (fun H rs v => [] = rs ∧ .agg [.bool (p1_b.minus), v1].toArray = v)]) [[], [], [], [], []] [[], [], [], [], []] [] [0, 1, 2, 3, 4] Facts.mixed (by kernel_rfl) (by rfl) (by rfl) (by rfl) (by kernel_rfl) (phiT_mono ⟨eq_monoT _ _, (by rintro H1 H2 rs v hle ⟨v220, rfl, rfl, h221⟩; exact ⟨v220, rfl, rfl, (h221.mono hle)⟩), (by rintro H1 H2 rs v hle ⟨v224, rfl, rfl, h225⟩; exact ⟨v224, rfl, rfl, (h225.mono hle)⟩), eq_monoT _ _, eq_monoT _ _, trivial⟩) ⟨?_, ?_, ?_, ?_, ?_, trivial⟩ ?_
   ·intro HX hX X Rest hR
    intro hU hUp
    refine W_loadAgg rfl rfl isAgg48 sizeOf48 rfl (own_all (hR _ (List.mem_cons_of_mem _ (List.mem_cons_self ..)))) rfl ?_
    exact W_end (OneT_end [] (Hp.le_refl _) ⟨rfl, rfl⟩)
   ·intro HX hX X Rest hR
    intro hU hUp
    refine W_call call41 rfl rfl rfl (fun w ht => by have h := m_large_Of_c (hm := hc209)  ht; exact h) ?_
    rintro _ H222 _ ⟨hle223, v220, rfl, rfl, h221⟩
    exact W_end (OneT_end [] hle223 ⟨v220, rfl, rfl, (h221)⟩)
   ·intro HX hX X Rest hR
    rintro _ _ ⟨rfl, rfl⟩
    rintro _ _ ⟨v220, rfl, rfl, h221⟩
    rintro _ _ ⟨v220, rfl, rfl, h221⟩
    intro hU hUp
    refine W_call call66 rfl rfl rfl (fun w ht => by have h := m_large_Int_Sub_c (hm := hc215) (h148.mono hX) h221 ht; exact h) ?_
    rintro _ H226 _ ⟨hle227, v224, rfl, rfl, h225⟩
    exact W_end (OneT_end [] hle227 ⟨v224, rfl, rfl, (h225)⟩)
   ·intro HX hX X Rest hR
    intro hU hUp
    refine W_loadAgg rfl rfl isAgg48 sizeOf48 rfl (own_all (hR _ (List.mem_cons_self ..))) rfl ?_
    exact W_end (OneT_end [] (Hp.le_refl _) ⟨rfl, rfl⟩)
   ·intro HX hX X Rest hR
    intro hU hUp
    refine W_loadAgg rfl rfl isAgg48 sizeOf48 rfl (own_all (hR _ (List.mem_cons_of_mem _ (List.mem_cons_of_mem _ (List.mem_cons_of_mem _ (List.mem_cons_of_mem _ (List.mem_cons_self ..))))))) rfl ?_
    exact W_end (OneT_end [] (Hp.le_refl _) ⟨rfl, rfl⟩)
   intro H228 hle229
   rintro _ _ ⟨rfl, rfl⟩
   rintro _ _ ⟨v220, rfl, rfl, h221⟩
   rintro _ _ ⟨v224, rfl, rfl, h225⟩
   rintro _ _ ⟨rfl, rfl⟩
   rintro _ _ ⟨rfl, rfl⟩
   obtain ⟨r230, hc231, hm⟩ := bind_some hm
   refine W_call call45 rfl rfl rfl (fun w ht => by have h := m_large_Int_Add_c (hm := hc231) (h158.mono hle229) (((h1.mono hle112).mono hle164).mono hle229) ht; exact h) ?_
   rintro _ H234 _ ⟨hle235, v232, rfl, rfl, h233⟩
   refine W_perm (List.Perm.swap _ _ _) ?_
   refine W_store (cs := [.bool (r214.minus), v224]) (out := [.bool (r214.minus), v224]) rfl sizeOf48 rfl rfl rfl rfl rfl (all_cons rfl (all_cons (RdS.one1 (h225.mono hle235)) all_nil)) (over_all rfl) ?_
   refine W_perm (List.Perm.swap _ _ _) ?_
   refine W_store (cs := [.bool (r230.minus), v232]) (out := [.bool (r230.minus), v232]) rfl sizeOf48 rfl rfl rfl rfl rfl (all_cons rfl (all_cons (RdS.one1 h233) all_nil)) (over_all rfl) ?_
   refine W_end ?_
   refine E_drop (List.Sublist.cons_cons _ (List.Sublist.cons_cons _ (List.Sublist.cons_cons _ (List.Sublist.cons_cons _ (List.Sublist.cons _ (List.Sublist.cons _ (List.Sublist.refl _))))))) ?_
   exact E_keepJ (J204 _ _ _ ⟨r230.minus, r230.words, r214.minus, r214.words, v232, v224, hm, h233, (h225.mono hle235), (Hp.le_trans hle229 hle235), rfl, rfl⟩) (List.Perm.refl _) ⟨rfl, rfl, rfl, rfl, trivial⟩
  ·have hm := ite_f' hb207 hm
   refine C_skip ?_
   refine E_drop (List.Sublist.cons_cons _ (List.Sublist.cons_cons _ (List.Sublist.cons_cons _ (List.Sublist.cons_cons _ (List.Sublist.cons _ (List.Sublist.cons _ (List.Sublist.refl _))))))) ?_
   exact E_keepJ (J204 _ _ _ ⟨r133.minus, r133.words, r120.minus, r120.words, v157, v147, hm, h158, h148, (Hp.le_refl _), rfl, rfl⟩) (List.Perm.refl _) ⟨rfl, rfl, rfl, rfl, trivial⟩

theorem m_large_Ratio_c {B : Nat} {w0 w : World} [Tabs B w0] {H : Hp} {M : List Res} {p0_n : S_large_Int} {p1_d : S_large_Int} {v0 : Value} {v1 : Value} {r : S_large_Rat} (hm : m_large_Ratio p0_n p1_d = some r) (h0 : RdS H v0 p0_n.words) (h1 : RdS H v1 p1_d.words) (ht : St B w0 H (M) w) :
  Calls prog 40 [.agg [.bool (p0_n.minus), v0].toArray, .agg [.bool (p1_d.minus), v1].toArray].toArray w (Ret B w0 fun H' M' v => H.le H' ∧ ∃ qv0 : Value, ∃ qv1 : Value, M = M' ∧ .agg [.bool (r.N.minus), qv0, .bool (r.D.minus), qv1].toArray = v ∧ RdS H' qv0 r.N.words ∧ RdS H' qv1 r.D.words) := by
 unfold m_large_Ratio at hm
 refine enter func40 rfl rfl rfl ht ?_
 refine C_seq (C_region ?_)
 refine W_box (cs := [.bool (p0_n.minus), v0]) rfl rfl rfl rfl (fun b101 => ?_)
 refine W_box (cs := [.bool (p1_d.minus), v1]) rfl rfl rfl rfl (fun b102 => ?_)
 refine W_alloc (cs := [.bool (false), .slice none 0 0, .bool (false), .slice none 0 0]) rfl rfl zeroValue50 rfl (fun b103 => ?_)
 refine W_end (E_then ?_)
 refine C_seq_join (fun H' M' L' => ∃ c123 : Bool, ∃ l125 : (List U32), ∃ c127 : Bool, ∃ l129 : (List U32), ∃ v124 : Value, ∃ v128 : Value, m_large_Ratio_b1 c123 l125 c127 l129 = some r ∧ RdS H' v124 l125 ∧ RdS H' v128 l129 ∧ H.le H' ∧ .obj b103 (.cells ([.bool (false), .slice none 0 0, .bool (false), .slice none 0 0] : List Value).toArray 50 (0, 0)) :: .obj b102 (.cells [.bool (c123), v124].toArray 48 (0, 0)) :: .obj b101 (.cells [.bool (c127), v128].toArray 48 (0, 0)) :: M = M' ∧ [(2, .pointer (some ⟨b101, 0, none⟩)), (3, .pointer (some ⟨b102, 0, none⟩)), (4, .pointer (some ⟨b103, 0, none⟩))] = L') ?_ (fun J133 => ?_)
 ·rintro H131 _ _ ⟨c123, l125, c127, l129, v124, v128, hm, h126, h130, hle132, rfl, rfl⟩
  unfold m_large_Ratio_b1 at hm
  refine C_seq (C_seq (C_region ?_))
  refine W_field (o := 1) rfl rfl runUnderlying48 rfl sizeOf46 rfl rfl rfl ?_
  refine W_load rfl rfl isAgg46 rfl (own_at (List.mem_cons_of_mem _ (List.mem_cons_self ..)) rfl) ?_
  refine W_lenR rfl rfl runUnderlying46 rfl h126 ?_
  refine W_bin rfl rfl rfl rfl rfl ?_
  refine W_move rfl rfl rfl ?_
  cases hb134 : (decide ((l125.length : Int) = 1))
  ·have hm := ite_f' hb134 hm
   refine W_no rfl rfl rfl ?_
   refine W_no rfl rfl rfl ?_
   refine W_no rfl rfl rfl ?_
   refine W_no rfl rfl rfl ?_
   refine W_no rfl rfl rfl ?_
   refine W_pick rfl rfl rfl rfl ?_
   refine W_end (E_then ?_)
   refine C_cond (b := false) rfl (fun hb => Bool.noConfusion hb) (fun _ => ?_)
   refine C_skip (E_then (C_seq (C_region ?_)))
   refine W_loadAgg rfl rfl isAgg48 sizeOf48 rfl (own_all (List.mem_cons_of_mem _ (List.mem_cons_of_mem _ (List.mem_cons_self ..)))) rfl ?_
   refine W_loadAgg rfl rfl isAgg48 sizeOf48 rfl (own_all (List.mem_cons_of_mem _ (List.mem_cons_self ..))) rfl ?_
   obtain ⟨r135, hc136, hm⟩ := bind_some hm
   refine W_call call53 rfl rfl rfl (fun w ht => by have h := m_large_Gcd_c (hm := hc136) h130 h126 ht; exact h) ?_
   rintro _ H139 _ ⟨hle140, v137, rfl, rfl, h138⟩
   refine W_alloc (cs := [.bool (false), .slice none 0 0]) rfl rfl zeroValue48 rfl (fun b141 => ?_)
   refine W_store (cs := [.bool (r135.minus), v137]) (out := [.bool (r135.minus), v137]) rfl sizeOf48 rfl rfl rfl rfl rfl (all_cons rfl (all_cons (RdS.one1 h138) all_nil)) (over_all rfl) ?_
   refine W_end (E_then (C_seq (C_seq (C_region ?_))))
   refine W_field (o := 1) rfl rfl runUnderlying48 rfl sizeOf46 rfl rfl rfl ?_
   refine W_load rfl rfl isAgg46 rfl (own_at (List.mem_cons_self ..) rfl) ?_
   refine W_lenR rfl rfl runUnderlying46 rfl h138 ?_
   refine W_bin rfl rfl rfl rfl rfl ?_
   refine W_move rfl rfl rfl ?_
   cases hb142 : (decide ((r135.words.length : Int) = 1))
   ·have hm := ite_f' hb142 hm
    refine W_no rfl rfl rfl ?_
    refine W_no rfl rfl rfl ?_
    refine W_no rfl rfl rfl ?_
    refine W_no rfl rfl rfl ?_
    refine W_no rfl rfl rfl ?_
    refine W_pick rfl rfl rfl rfl ?_
    refine W_end (E_then ?_)
    refine C_cond (b := false) rfl (fun hb => Bool.noConfusion hb) (fun _ => ?_)
    refine C_skip (E_then (C_seq (C_region ?_)))
    refine W_field (o := 0) rfl rfl runUnderlying48 rfl sizeOf4 rfl rfl rfl ?_
    refine W_load rfl rfl isAgg4 rfl (own_at (List.mem_cons_of_mem _ (List.mem_cons_of_mem _ (List.mem_cons_of_mem _ (List.mem_cons_self ..)))) rfl) ?_
    refine W_assign rfl rfl rfl ?_
    refine W_end (E_then (C_seq (C_region ?_)))
    refine W_field (o := 0) rfl rfl runUnderlying48 rfl sizeOf4 rfl rfl rfl ?_
    refine W_perm (List.Perm.trans (List.Perm.cons _ (List.Perm.cons _ (List.Perm.swap _ _ _))) (List.Perm.trans (List.Perm.cons _ (List.Perm.swap _ _ _)) (List.Perm.swap _ _ _))) ?_
    refine W_store (cs := [.bool (false)]) (out := [.bool (false), v128]) rfl sizeOf4 rfl rfl rfl rfl rfl (all_cons rfl all_nil) rfl ?_
    refine W_end (E_then (C_seq (C_region ?_)))
    refine W_loadAgg rfl rfl isAgg48 sizeOf48 rfl (own_all (List.mem_cons_self ..)) rfl ?_
    refine W_loadAgg rfl rfl isAgg48 sizeOf48 rfl (own_all (List.mem_cons_of_mem _ (List.mem_cons_self ..))) rfl ?_
    obtain ⟨r143, hc144, hm⟩ := bind_some hm
    refine W_call call54 rfl rfl rfl (fun w ht => by have h := m_large_Int_DivMod_c (hm := hc144) (h130.mono hle140) h138 ht; exact h) ?_
    rintro _ H149 _ ⟨hle150, v145, v147, rfl, rfl, h146, h148⟩
    refine W_move rfl rfl rfl ?_
    refine W_extract rfl rfl rfl rfl ?_
    refine W_extract rfl rfl rfl rfl ?_
    refine W_store (cs := [.bool (r143.1.minus), v145]) (out := [.bool (r143.1.minus), v145]) rfl sizeOf48 rfl rfl rfl rfl rfl (all_cons rfl (all_cons (RdS.one1 h146) all_nil)) (over_all rfl) ?_
    refine W_end (E_then (C_seq (C_region ?_)))
    refine W_loadAgg rfl rfl isAgg48 sizeOf48 rfl (own_all (List.mem_cons_of_mem _ (List.mem_cons_of_mem _ (List.mem_cons_of_mem _ (List.mem_cons_self ..))))) rfl ?_
    refine W_loadAgg rfl rfl isAgg48 sizeOf48 rfl (own_all (List.mem_cons_of_mem _ (List.mem_cons_self ..))) rfl ?_
    obtain ⟨r151, hc152, hm⟩ := bind_some hm
    refine W_call call54 rfl rfl rfl (fun w ht => by have h := m_large_Int_DivMod_c (hm := hc152) ((h126.mono hle140).mono hle150) (h138.mono hle150) ht; exact h) ?_
    rintro _ H157 _ ⟨hle158, v153, v155, rfl, rfl, h154, h156⟩
    refine W_move rfl rfl rfl ?_
    refine W_extract rfl rfl rfl rfl ?_
    refine W_extract rfl rfl rfl rfl ?_
    refine W_perm (List.Perm.trans (List.Perm.cons _ (List.Perm.cons _ (List.Perm.swap _ _ _))) (List.Perm.trans (List.Perm.cons _ (List.Perm.swap _ _ _)) (List.Perm.swap _ _ _))) ?_
    refine W_store (cs := [.bool (r151.1.minus), v153]) (out := [.bool (r151.1.minus), v153]) rfl sizeOf48 rfl rfl rfl rfl rfl (all_cons rfl (all_cons (RdS.one1 h154) all_nil)) (over_all rfl) ?_
    refine W_end (E_then (C_seq (C_region ?_)))
    refine W_move rfl rfl rfl ?_
    refine W_move rfl rfl rfl ?_
    cases hb159 : (c127)
    ·have hm := ite_f' hb159 hm
     refine W_no rfl rfl rfl ?_
     refine W_no rfl rfl rfl ?_
     refine W_no rfl rfl rfl ?_
     refine W_no rfl rfl rfl ?_
     refine W_pick rfl rfl rfl rfl ?_
     refine W_field (o := 0) rfl rfl runUnderlying48 rfl sizeOf4 rfl rfl rfl ?_
     refine W_perm (List.Perm.swap _ _ _) ?_
     refine W_store (cs := [.bool (false)]) (out := [.bool (false), v145]) rfl sizeOf4 rfl rfl rfl rfl rfl (all_cons rfl all_nil) rfl ?_
     refine W_end (E_then (C_seq (C_region ?_)))
     refine W_loadAgg rfl rfl isAgg48 sizeOf48 rfl (own_all (List.mem_cons_self ..)) rfl ?_
     refine W_loadAgg rfl rfl isAgg48 sizeOf48 rfl (own_all (List.mem_cons_of_mem _ (List.mem_cons_self ..))) rfl ?_
     refine W_build (css := [[.bool (false), v145], [.bool (r151.1.minus), v153]]) (zs := [.bool (false), .slice none 0 0, .bool (false), .slice none 0 0]) (out := [.bool (false), v145, .bool (r151.1.minus), v153]) (places := [(0, 2), (2, 2)]) rfl rfl rfl ⟨rfl, rfl, trivial⟩ zeroValue50 rfl runUnderlying50 (fun w => by kernel_rfl) rfl ?_
     refine W_perm (List.Perm.trans (List.Perm.cons _ (List.Perm.cons _ (List.Perm.swap _ _ _))) (List.Perm.trans (List.Perm.cons _ (List.Perm.swap _ _ _)) (List.Perm.swap _ _ _))) ?_
     refine W_store (cs := [.bool (false), v145, .bool (r151.1.minus), v153]) (out := [.bool (false), v145, .bool (r151.1.minus), v153]) rfl sizeOf50 rfl rfl rfl rfl rfl (all_cons rfl (all_cons (RdS.one1 (h146.mono hle158)) (all_cons rfl (all_cons (RdS.one1 h154) all_nil)))) (over_all rfl) ?_
     refine W_end (E_then (C_ret ?_))
     obtain rfl := Option.some.inj hm
     exact endC1 (Hp.le_refl _) rfl (ResV.agg rfl isAgg50 sizeOf50 (List.mem_cons_self ..) rfl) (List.Sublist.cons _ (List.Sublist.cons _ (List.Sublist.cons _ (List.Sublist.cons _ (List.Sublist.refl _))))) (List.Perm.refl _) ⟨(Hp.le_trans (Hp.le_trans (Hp.le_trans hle132 hle140) hle150) hle158), v145, v153, rfl, rfl, (h146.mono hle158), h154⟩
    ·have hm := ite_t' hb159 hm
     refine W_field (o := 1) rfl rfl runUnderlying48 rfl sizeOf46 rfl rfl rfl ?_
     refine W_load rfl rfl isAgg46 rfl (own_at (List.mem_cons_of_mem _ (List.mem_cons_self ..)) rfl) ?_
     refine W_lenR rfl rfl runUnderlying46 rfl (h146.mono hle158) ?_
     refine W_bin rfl rfl rfl rfl rfl ?_
     refine W_pick rfl rfl rfl rfl ?_
     refine W_field (o := 0) rfl rfl runUnderlying48 rfl sizeOf4 rfl rfl rfl ?_
     refine W_perm (List.Perm.swap _ _ _) ?_
     refine W_store (cs := [.bool (decide (0 < (r143.1.words.length : Int)))]) (out := [.bool (decide (0 < (r143.1.words.length : Int))), v145]) rfl sizeOf4 rfl rfl rfl rfl rfl (all_cons rfl all_nil) rfl ?_
     refine W_end (E_then (C_seq (C_region ?_)))
     refine W_loadAgg rfl rfl isAgg48 sizeOf48 rfl (own_all (List.mem_cons_self ..)) rfl ?_
     refine W_loadAgg rfl rfl isAgg48 sizeOf48 rfl (own_all (List.mem_cons_of_mem _ (List.mem_cons_self ..))) rfl ?_
     refine W_build (css := [[.bool (decide (0 < (r143.1.words.length : Int))), v145], [.bool (r151.1.minus), v153]]) (zs := [.bool (false), .slice none 0 0, .bool (false), .slice none 0 0]) (out := [.bool (decide (0 < (r143.1.words.length : Int))), v145, .bool (r151.1.minus), v153]) (places := [(0, 2), (2, 2)]) rfl rfl rfl ⟨rfl, rfl, trivial⟩ zeroValue50 rfl runUnderlying50 (fun w => by kernel_rfl) rfl ?_
     refine W_perm (List.Perm.trans (List.Perm.cons _ (List.Perm.cons _ (List.Perm.swap _ _ _))) (List.Perm.trans (List.Perm.cons _ (List.Perm.swap _ _ _)) (List.Perm.swap _ _ _))) ?_
     refine W_store (cs := [.bool (decide (0 < (r143.1.words.length : Int))), v145, .bool (r151.1.minus), v153]) (out := [.bool (decide (0 < (r143.1.words.length : Int))), v145, .bool (r151.1.minus), v153]) rfl sizeOf50 rfl rfl rfl rfl rfl (all_cons rfl (all_cons (RdS.one1 (h146.mono hle158)) (all_cons rfl (all_cons (RdS.one1 h154) all_nil)))) (over_all rfl) ?_
     refine W_end (E_then (C_ret ?_))
     obtain rfl := Option.some.inj hm
     exact endC1 (Hp.le_refl _) rfl (ResV.agg rfl isAgg50 sizeOf50 (List.mem_cons_self ..) rfl) (List.Sublist.cons _ (List.Sublist.cons _ (List.Sublist.cons _ (List.Sublist.cons _ (List.Sublist.refl _))))) (List.Perm.refl _) ⟨(Hp.le_trans (Hp.le_trans (Hp.le_trans hle132 hle140) hle150) hle158), v145, v153, rfl, rfl, (h146.mono hle158), h154⟩
   ·have hm := ite_t' hb142 hm
    refine W_field (o := 1) rfl rfl runUnderlying48 rfl sizeOf46 rfl rfl rfl ?_
    refine W_load rfl rfl isAgg46 rfl (own_at (List.mem_cons_self ..) rfl) ?_
    obtain ⟨y160, h161, he162, hm⟩ := idx_some hm
    obtain ⟨_, rfl, hc163⟩ := (h138).elem he162
    refine W_indexS rfl rfl runUnderlying46 sizeOf81 rfl h138 rfl h161 he162 ?_
    refine W_load rfl rfl isAgg81 rfl (HCells.one hc163 0 rfl).at ?_
    refine W_bin rfl rfl rfl rfl rfl ?_
    refine W_pick rfl rfl rfl rfl ?_
    refine W_end (E_then ?_)
    refine C_cond (b := decide (y160.n = 1)) rfl (fun hb164 => ?_) (fun hb164 => ?_)
    ·have hm := ite_t' hb164 hm
     refine C_seq (C_region ?_)
     refine W_loadAgg rfl rfl isAgg48 sizeOf48 rfl (own_all (List.mem_cons_of_mem _ (List.mem_cons_of_mem _ (List.mem_cons_of_mem _ (List.mem_cons_self ..))))) rfl ?_
     refine W_loadAgg rfl rfl isAgg48 sizeOf48 rfl (own_all (List.mem_cons_of_mem _ (List.mem_cons_of_mem _ (List.mem_cons_self ..)))) rfl ?_
     refine W_build (css := [[.bool (c127), v128], [.bool (c123), v124]]) (zs := [.bool (false), .slice none 0 0, .bool (false), .slice none 0 0]) (out := [.bool (c127), v128, .bool (c123), v124]) (places := [(0, 2), (2, 2)]) rfl rfl rfl ⟨rfl, rfl, trivial⟩ zeroValue50 rfl runUnderlying50 (fun w => by kernel_rfl) rfl ?_
     refine W_perm (List.Perm.swap _ _ _) ?_
     refine W_store (cs := [.bool (c127), v128, .bool (c123), v124]) (out := [.bool (c127), v128, .bool (c123), v124]) rfl sizeOf50 rfl rfl rfl rfl rfl (all_cons rfl (all_cons (RdS.one1 (h130.mono hle140)) (all_cons rfl (all_cons (RdS.one1 (h126.mono hle140)) all_nil)))) (over_all rfl) ?_
     refine W_end (E_then (C_ret (E_ret_then ?_)))
     obtain rfl := Option.some.inj hm
     exact endC1 (Hp.le_refl _) rfl (ResV.agg rfl isAgg50 sizeOf50 (List.mem_cons_self ..) rfl) (List.Sublist.cons _ (List.Sublist.cons _ (List.Sublist.cons _ (List.Sublist.cons _ (List.Sublist.refl _))))) (List.Perm.refl _) ⟨(Hp.le_trans hle132 hle140), v128, v124, rfl, rfl, (h130.mono hle140), (h126.mono hle140)⟩
    ·have hm := ite_f' hb164 hm
     refine C_skip (E_then (C_seq (C_region ?_)))
     refine W_field (o := 0) rfl rfl runUnderlying48 rfl sizeOf4 rfl rfl rfl ?_
     refine W_load rfl rfl isAgg4 rfl (own_at (List.mem_cons_of_mem _ (List.mem_cons_of_mem _ (List.mem_cons_of_mem _ (List.mem_cons_self ..)))) rfl) ?_
     refine W_assign rfl rfl rfl ?_
     refine W_end (E_then (C_seq (C_region ?_)))
     refine W_field (o := 0) rfl rfl runUnderlying48 rfl sizeOf4 rfl rfl rfl ?_
     refine W_perm (List.Perm.trans (List.Perm.cons _ (List.Perm.cons _ (List.Perm.swap _ _ _))) (List.Perm.trans (List.Perm.cons _ (List.Perm.swap _ _ _)) (List.Perm.swap _ _ _))) ?_
     refine W_store (cs := [.bool (false)]) (out := [.bool (false), v128]) rfl sizeOf4 rfl rfl rfl rfl rfl (all_cons rfl all_nil) rfl ?_
     refine W_end (E_then (C_seq (C_region ?_)))
     refine W_loadAgg rfl rfl isAgg48 sizeOf48 rfl (own_all (List.mem_cons_self ..)) rfl ?_
     refine W_loadAgg rfl rfl isAgg48 sizeOf48 rfl (own_all (List.mem_cons_of_mem _ (List.mem_cons_self ..))) rfl ?_
     obtain ⟨r165, hc166, hm⟩ := bind_some hm
     refine W_call call54 rfl rfl rfl (fun w ht => by have h := m_large_Int_DivMod_c (hm := hc166) (h130.mono hle140) h138 ht; exact h) ?_
     rintro _ H171 _ ⟨hle172, v167, v169, rfl, rfl, h168, h170⟩
     refine W_move rfl rfl rfl ?_
     refine W_extract rfl rfl rfl rfl ?_
     refine W_extract rfl rfl rfl rfl ?_
     refine W_store (cs := [.bool (r165.1.minus), v167]) (out := [.bool (r165.1.minus), v167]) rfl sizeOf48 rfl rfl rfl rfl rfl (all_cons rfl (all_cons (RdS.one1 h168) all_nil)) (over_all rfl) ?_
     refine W_end (E_then (C_seq (C_region ?_)))
     refine W_loadAgg rfl rfl isAgg48 sizeOf48 rfl (own_all (List.mem_cons_of_mem _ (List.mem_cons_of_mem _ (List.mem_cons_of_mem _ (List.mem_cons_self ..))))) rfl ?_
     refine W_loadAgg rfl rfl isAgg48 sizeOf48 rfl (own_all (List.mem_cons_of_mem _ (List.mem_cons_self ..))) rfl ?_
     obtain ⟨r173, hc174, hm⟩ := bind_some hm
     refine W_call call54 rfl rfl rfl (fun w ht => by have h := m_large_Int_DivMod_c (hm := hc174) ((h126.mono hle140).mono hle172) (h138.mono hle172) ht; exact h) ?_
     rintro _ H179 _ ⟨hle180, v175, v177, rfl, rfl, h176, h178⟩
     refine W_move rfl rfl rfl ?_
     refine W_extract rfl rfl rfl rfl ?_
     refine W_extract rfl rfl rfl rfl ?_
     refine W_perm (List.Perm.trans (List.Perm.cons _ (List.Perm.cons _ (List.Perm.swap _ _ _))) (List.Perm.trans (List.Perm.cons _ (List.Perm.swap _ _ _)) (List.Perm.swap _ _ _))) ?_
     refine W_store (cs := [.bool (r173.1.minus), v175]) (out := [.bool (r173.1.minus), v175]) rfl sizeOf48 rfl rfl rfl rfl rfl (all_cons rfl (all_cons (RdS.one1 h176) all_nil)) (over_all rfl) ?_
     refine W_end (E_then (C_seq (C_region ?_)))
     refine W_move rfl rfl rfl ?_
     refine W_move rfl rfl rfl ?_
     cases hb181 : (c127)
     ·have hm := ite_f' hb181 hm
      refine W_no rfl rfl rfl ?_
      refine W_no rfl rfl rfl ?_
      refine W_no rfl rfl rfl ?_
      refine W_no rfl rfl rfl ?_
      refine W_pick rfl rfl rfl rfl ?_
      refine W_field (o := 0) rfl rfl runUnderlying48 rfl sizeOf4 rfl rfl rfl ?_
      refine W_perm (List.Perm.swap _ _ _) ?_
      refine W_store (cs := [.bool (false)]) (out := [.bool (false), v167]) rfl sizeOf4 rfl rfl rfl rfl rfl (all_cons rfl all_nil) rfl ?_
      refine W_end (E_then (C_seq (C_region ?_)))
      refine W_loadAgg rfl rfl isAgg48 sizeOf48 rfl (own_all (List.mem_cons_self ..)) rfl ?_
      refine W_loadAgg rfl rfl isAgg48 sizeOf48 rfl (own_all (List.mem_cons_of_mem _ (List.mem_cons_self ..))) rfl ?_
      refine W_build (css := [[.bool (false), v167], [.bool (r173.1.minus), v175]]) (zs := [.bool (false), .slice none 0 0, .bool (false), .slice none 0 0]) (out := [.bool (false), v167, .bool (r173.1.minus), v175]) (places := [(0, 2), (2, 2)]) rfl rfl rfl ⟨rfl, rfl, trivial⟩ zeroValue50 rfl runUnderlying50 (fun w => by kernel_rfl) rfl ?_
      refine W_perm (List.Perm.trans (List.Perm.cons _ (List.Perm.cons _ (List.Perm.swap _ _ _))) (List.Perm.trans (List.Perm.cons _ (List.Perm.swap _ _ _)) (List.Perm.swap _ _ _))) ?_
      refine W_store (cs := [.bool (false), v167, .bool (r173.1.minus), v175]) (out := [.bool (false), v167, .bool (r173.1.minus), v175]) rfl sizeOf50 rfl rfl rfl rfl rfl (all_cons rfl (all_cons (RdS.one1 (h168.mono hle180)) (all_cons rfl (all_cons (RdS.one1 h176) all_nil)))) (over_all rfl) ?_
      refine W_end (E_then (C_ret ?_))
      obtain rfl := Option.some.inj hm
      exact endC1 (Hp.le_refl _) rfl (ResV.agg rfl isAgg50 sizeOf50 (List.mem_cons_self ..) rfl) (List.Sublist.cons _ (List.Sublist.cons _ (List.Sublist.cons _ (List.Sublist.cons _ (List.Sublist.refl _))))) (List.Perm.refl _) ⟨(Hp.le_trans (Hp.le_trans (Hp.le_trans hle132 hle140) hle172) hle180), v167, v175, rfl, rfl, (h168.mono hle180), h176⟩
     ·have hm := ite_t' hb181 hm
      refine W_field (o := 1) rfl rfl runUnderlying48 rfl sizeOf46 rfl rfl rfl ?_
      refine W_load rfl rfl isAgg46 rfl (own_at (List.mem_cons_of_mem _ (List.mem_cons_self ..)) rfl) ?_
      refine W_lenR rfl rfl runUnderlying46 rfl (h168.mono hle180) ?_
      refine W_bin rfl rfl rfl rfl rfl ?_
      refine W_pick rfl rfl rfl rfl ?_
      refine W_field (o := 0) rfl rfl runUnderlying48 rfl sizeOf4 rfl rfl rfl ?_
      refine W_perm (List.Perm.swap _ _ _) ?_
      refine W_store (cs := [.bool (decide (0 < (r165.1.words.length : Int)))]) (out := [.bool (decide (0 < (r165.1.words.length : Int))), v167]) rfl sizeOf4 rfl rfl rfl rfl rfl (all_cons rfl all_nil) rfl ?_
      refine W_end (E_then (C_seq (C_region ?_)))
      refine W_loadAgg rfl rfl isAgg48 sizeOf48 rfl (own_all (List.mem_cons_self ..)) rfl ?_
      refine W_loadAgg rfl rfl isAgg48 sizeOf48 rfl (own_all (List.mem_cons_of_mem _ (List.mem_cons_self ..))) rfl ?_
      refine W_build (css := [[.bool (decide (0 < (r165.1.words.length : Int))), v167], [.bool (r173.1.minus), v175]]) (zs := [.bool (false), .slice none 0 0, .bool (false), .slice none 0 0]) (out := [.bool (decide (0 < (r165.1.words.length : Int))), v167, .bool (r173.1.minus), v175]) (places := [(0, 2), (2, 2)]) rfl rfl rfl ⟨rfl, rfl, trivial⟩ zeroValue50 rfl runUnderlying50 (fun w => by kernel_rfl) rfl ?_
      refine W_perm (List.Perm.trans (List.Perm.cons _ (List.Perm.cons _ (List.Perm.swap _ _ _))) (List.Perm.trans (List.Perm.cons _ (List.Perm.swap _ _ _)) (List.Perm.swap _ _ _))) ?_
      refine W_store (cs := [.bool (decide (0 < (r165.1.words.length : Int))), v167, .bool (r173.1.minus), v175]) (out := [.bool (decide (0 < (r165.1.words.length : Int))), v167, .bool (r173.1.minus), v175]) rfl sizeOf50 rfl rfl rfl rfl rfl (all_cons rfl (all_cons (RdS.one1 (h168.mono hle180)) (all_cons rfl (all_cons (RdS.one1 h176) all_nil)))) (over_all rfl) ?_
      refine W_end (E_then (C_ret ?_))
      obtain rfl := Option.some.inj hm
      exact endC1 (Hp.le_refl _) rfl (ResV.agg rfl isAgg50 sizeOf50 (List.mem_cons_self ..) rfl) (List.Sublist.cons _ (List.Sublist.cons _ (List.Sublist.cons _ (List.Sublist.cons _ (List.Sublist.refl _))))) (List.Perm.refl _) ⟨(Hp.le_trans (Hp.le_trans (Hp.le_trans hle132 hle140) hle172) hle180), v167, v175, rfl, rfl, (h168.mono hle180), h176⟩
  ·have hm := ite_t' hb134 hm
   refine W_field (o := 1) rfl rfl runUnderlying48 rfl sizeOf46 rfl rfl rfl ?_
   refine W_load rfl rfl isAgg46 rfl (own_at (List.mem_cons_of_mem _ (List.mem_cons_self ..)) rfl) ?_
   obtain ⟨y182, h183, he184, hm⟩ := idx_some hm
   obtain ⟨_, rfl, hc185⟩ := (h126).elem he184
   refine W_indexS rfl rfl runUnderlying46 sizeOf81 rfl h126 rfl h183 he184 ?_
   refine W_load rfl rfl isAgg81 rfl (HCells.one hc185 0 rfl).at ?_
   refine W_bin rfl rfl rfl rfl rfl ?_
   refine W_pick rfl rfl rfl rfl ?_
   refine W_end (E_then ?_)
   refine C_cond (b := decide (y182.n = 1)) rfl (fun hb186 => ?_) (fun hb186 => ?_)
   ·have hm := ite_t' hb186 hm
    refine C_seq (C_region ?_)
    refine W_loadAgg rfl rfl isAgg48 sizeOf48 rfl (own_all (List.mem_cons_of_mem _ (List.mem_cons_of_mem _ (List.mem_cons_self ..)))) rfl ?_
    refine W_loadAgg rfl rfl isAgg48 sizeOf48 rfl (own_all (List.mem_cons_of_mem _ (List.mem_cons_self ..))) rfl ?_
    refine W_build (css := [[.bool (c127), v128], [.bool (c123), v124]]) (zs := [.bool (false), .slice none 0 0, .bool (false), .slice none 0 0]) (out := [.bool (c127), v128, .bool (c123), v124]) (places := [(0, 2), (2, 2)]) rfl rfl rfl ⟨rfl, rfl, trivial⟩ zeroValue50 rfl runUnderlying50 (fun w => by kernel_rfl) rfl ?_
    refine W_store (cs := [.bool (c127), v128, .bool (c123), v124]) (out := [.bool (c127), v128, .bool (c123), v124]) rfl sizeOf50 rfl rfl rfl rfl rfl (all_cons rfl (all_cons (RdS.one1 h130) (all_cons rfl (all_cons (RdS.one1 h126) all_nil)))) (over_all rfl) ?_
    refine W_end (E_then (C_ret (E_ret_then ?_)))
    obtain rfl := Option.some.inj hm
    exact endC1 (Hp.le_refl _) rfl (ResV.agg rfl isAgg50 sizeOf50 (List.mem_cons_self ..) rfl) (List.Sublist.cons _ (List.Sublist.cons _ (List.Sublist.cons _ (List.Sublist.refl _)))) (List.Perm.refl _) ⟨hle132, v128, v124, rfl, rfl, h130, h126⟩
   ·have hm := ite_f' hb186 hm
    refine C_skip (E_then (C_seq (C_region ?_)))
    refine W_loadAgg rfl rfl isAgg48 sizeOf48 rfl (own_all (List.mem_cons_of_mem _ (List.mem_cons_of_mem _ (List.mem_cons_self ..)))) rfl ?_
    refine W_loadAgg rfl rfl isAgg48 sizeOf48 rfl (own_all (List.mem_cons_of_mem _ (List.mem_cons_self ..))) rfl ?_
    obtain ⟨r187, hc188, hm⟩ := bind_some hm
    refine W_call call53 rfl rfl rfl (fun w ht => by have h := m_large_Gcd_c (hm := hc188) h130 h126 ht; exact h) ?_
    rintro _ H191 _ ⟨hle192, v189, rfl, rfl, h190⟩
    refine W_alloc (cs := [.bool (false), .slice none 0 0]) rfl rfl zeroValue48 rfl (fun b193 => ?_)
    refine W_store (cs := [.bool (r187.minus), v189]) (out := [.bool (r187.minus), v189]) rfl sizeOf48 rfl rfl rfl rfl rfl (all_cons rfl (all_cons (RdS.one1 h190) all_nil)) (over_all rfl) ?_
    refine W_end (E_then (C_seq (C_seq (C_region ?_))))
    refine W_field (o := 1) rfl rfl runUnderlying48 rfl sizeOf46 rfl rfl rfl ?_
    refine W_load rfl rfl isAgg46 rfl (own_at (List.mem_cons_self ..) rfl) ?_
    refine W_lenR rfl rfl runUnderlying46 rfl h190 ?_
    refine W_bin rfl rfl rfl rfl rfl ?_
    refine W_move rfl rfl rfl ?_
    cases hb194 : (decide ((r187.words.length : Int) = 1))
    ·have hm := ite_f' hb194 hm
     refine W_no rfl rfl rfl ?_
     refine W_no rfl rfl rfl ?_
     refine W_no rfl rfl rfl ?_
     refine W_no rfl rfl rfl ?_
     refine W_no rfl rfl rfl ?_
     refine W_pick rfl rfl rfl rfl ?_
     refine W_end (E_then ?_)
     refine C_cond (b := false) rfl (fun hb => Bool.noConfusion hb) (fun _ => ?_)
     refine C_skip (E_then (C_seq (C_region ?_)))
     refine W_field (o := 0) rfl rfl runUnderlying48 rfl sizeOf4 rfl rfl rfl ?_
     refine W_load rfl rfl isAgg4 rfl (own_at (List.mem_cons_of_mem _ (List.mem_cons_of_mem _ (List.mem_cons_of_mem _ (List.mem_cons_self ..)))) rfl) ?_
     refine W_assign rfl rfl rfl ?_
     refine W_end (E_then (C_seq (C_region ?_)))
     refine W_field (o := 0) rfl rfl runUnderlying48 rfl sizeOf4 rfl rfl rfl ?_
     refine W_perm (List.Perm.trans (List.Perm.cons _ (List.Perm.cons _ (List.Perm.swap _ _ _))) (List.Perm.trans (List.Perm.cons _ (List.Perm.swap _ _ _)) (List.Perm.swap _ _ _))) ?_
     refine W_store (cs := [.bool (false)]) (out := [.bool (false), v128]) rfl sizeOf4 rfl rfl rfl rfl rfl (all_cons rfl all_nil) rfl ?_
     refine W_end (E_then (C_seq (C_region ?_)))
     refine W_loadAgg rfl rfl isAgg48 sizeOf48 rfl (own_all (List.mem_cons_self ..)) rfl ?_
     refine W_loadAgg rfl rfl isAgg48 sizeOf48 rfl (own_all (List.mem_cons_of_mem _ (List.mem_cons_self ..))) rfl ?_
     obtain ⟨r195, hc196, hm⟩ := bind_some hm
     refine W_call call54 rfl rfl rfl (fun w ht => by have h := m_large_Int_DivMod_c (hm := hc196) (h130.mono hle192) h190 ht; exact h) ?_
     rintro _ H201 _ ⟨hle202, v197, v199, rfl, rfl, h198, h200⟩
     refine W_move rfl rfl rfl ?_
     refine W_extract rfl rfl rfl rfl ?_
     refine W_extract rfl rfl rfl rfl ?_
     refine W_store (cs := [.bool (r195.1.minus), v197]) (out := [.bool (r195.1.minus), v197]) rfl sizeOf48 rfl rfl rfl rfl rfl (all_cons rfl (all_cons (RdS.one1 h198) all_nil)) (over_all rfl) ?_
     refine W_end (E_then (C_seq (C_region ?_)))
     refine W_loadAgg rfl rfl isAgg48 sizeOf48 rfl (own_all (List.mem_cons_of_mem _ (List.mem_cons_of_mem _ (List.mem_cons_of_mem _ (List.mem_cons_self ..))))) rfl ?_
     refine W_loadAgg rfl rfl isAgg48 sizeOf48 rfl (own_all (List.mem_cons_of_mem _ (List.mem_cons_self ..))) rfl ?_
     obtain ⟨r203, hc204, hm⟩ := bind_some hm
     refine W_call call54 rfl rfl rfl (fun w ht => by have h := m_large_Int_DivMod_c (hm := hc204) ((h126.mono hle192).mono hle202) (h190.mono hle202) ht; exact h) ?_
     rintro _ H209 _ ⟨hle210, v205, v207, rfl, rfl, h206, h208⟩
     refine W_move rfl rfl rfl ?_
     refine W_extract rfl rfl rfl rfl ?_
     refine W_extract rfl rfl rfl rfl ?_
     refine W_perm (List.Perm.trans (List.Perm.cons _ (List.Perm.cons _ (List.Perm.swap _ _ _))) (List.Perm.trans (List.Perm.cons _ (List.Perm.swap _ _ _)) (List.Perm.swap _ _ _))) ?_
     refine W_store (cs := [.bool (r203.1.minus), v205]) (out := [.bool (r203.1.minus), v205]) rfl sizeOf48 rfl rfl rfl rfl rfl (all_cons rfl (all_cons (RdS.one1 h206) all_nil)) (over_all rfl) ?_
     refine W_end (E_then (C_seq (C_region ?_)))
     refine W_move rfl rfl rfl ?_
     refine W_move rfl rfl rfl ?_
     cases hb211 : (c127)
     ·have hm := ite_f' hb211 hm
      refine W_no rfl rfl rfl ?_
      refine W_no rfl rfl rfl ?_
      refine W_no rfl rfl rfl ?_
      refine W_no rfl rfl rfl ?_
      refine W_pick rfl rfl rfl rfl ?_
      refine W_field (o := 0) rfl rfl runUnderlying48 rfl sizeOf4 rfl rfl rfl ?_
      refine W_perm (List.Perm.swap _ _ _) ?_
      refine W_store (cs := [.bool (false)]) (out := [.bool (false), v197]) rfl sizeOf4 rfl rfl rfl rfl rfl (all_cons rfl all_nil) rfl ?_
      refine W_end (E_then (C_seq (C_region ?_)))
      refine W_loadAgg rfl rfl isAgg48 sizeOf48 rfl (own_all (List.mem_cons_self ..)) rfl ?_
      refine W_loadAgg rfl rfl isAgg48 sizeOf48 rfl (own_all (List.mem_cons_of_mem _ (List.mem_cons_self ..))) rfl ?_
      refine W_build (css := [[.bool (false), v197], [.bool (r203.1.minus), v205]]) (zs := [.bool (false), .slice none 0 0, .bool (false), .slice none 0 0]) (out := [.bool (false), v197, .bool (r203.1.minus), v205]) (places := [(0, 2), (2, 2)]) rfl rfl rfl ⟨rfl, rfl, trivial⟩ zeroValue50 rfl runUnderlying50 (fun w => by kernel_rfl) rfl ?_
      refine W_perm (List.Perm.trans (List.Perm.cons _ (List.Perm.cons _ (List.Perm.swap _ _ _))) (List.Perm.trans (List.Perm.cons _ (List.Perm.swap _ _ _)) (List.Perm.swap _ _ _))) ?_
      refine W_store (cs := [.bool (false), v197, .bool (r203.1.minus), v205]) (out := [.bool (false), v197, .bool (r203.1.minus), v205]) rfl sizeOf50 rfl rfl rfl rfl rfl (all_cons rfl (all_cons (RdS.one1 (h198.mono hle210)) (all_cons rfl (all_cons (RdS.one1 h206) all_nil)))) (over_all rfl) ?_
      refine W_end (E_then (C_ret ?_))
      obtain rfl := Option.some.inj hm
      exact endC1 (Hp.le_refl _) rfl (ResV.agg rfl isAgg50 sizeOf50 (List.mem_cons_self ..) rfl) (List.Sublist.cons _ (List.Sublist.cons _ (List.Sublist.cons _ (List.Sublist.cons _ (List.Sublist.refl _))))) (List.Perm.refl _) ⟨(Hp.le_trans (Hp.le_trans (Hp.le_trans hle132 hle192) hle202) hle210), v197, v205, rfl, rfl, (h198.mono hle210), h206⟩
     ·have hm := ite_t' hb211 hm
      refine W_field (o := 1) rfl rfl runUnderlying48 rfl sizeOf46 rfl rfl rfl ?_
      refine W_load rfl rfl isAgg46 rfl (own_at (List.mem_cons_of_mem _ (List.mem_cons_self ..)) rfl) ?_
      refine W_lenR rfl rfl runUnderlying46 rfl (h198.mono hle210) ?_
      refine W_bin rfl rfl rfl rfl rfl ?_
      refine W_pick rfl rfl rfl rfl ?_
      refine W_field (o := 0) rfl rfl runUnderlying48 rfl sizeOf4 rfl rfl rfl ?_
      refine W_perm (List.Perm.swap _ _ _) ?_
      refine W_store (cs := [.bool (decide (0 < (r195.1.words.length : Int)))]) (out := [.bool (decide (0 < (r195.1.words.length : Int))), v197]) rfl sizeOf4 rfl rfl rfl rfl rfl (all_cons rfl all_nil) rfl ?_
      refine W_end (E_then (C_seq (C_region ?_)))
      refine W_loadAgg rfl rfl isAgg48 sizeOf48 rfl (own_all (List.mem_cons_self ..)) rfl ?_
      refine W_loadAgg rfl rfl isAgg48 sizeOf48 rfl (own_all (List.mem_cons_of_mem _ (List.mem_cons_self ..))) rfl ?_
      refine W_build (css := [[.bool (decide (0 < (r195.1.words.length : Int))), v197], [.bool (r203.1.minus), v205]]) (zs := [.bool (false), .slice none 0 0, .bool (false), .slice none 0 0]) (out := [.bool (decide (0 < (r195.1.words.length : Int))), v197, .bool (r203.1.minus), v205]) (places := [(0, 2), (2, 2)]) rfl rfl rfl ⟨rfl, rfl, trivial⟩ zeroValue50 rfl runUnderlying50 (fun w => by kernel_rfl) rfl ?_
      refine W_perm (List.Perm.trans (List.Perm.cons _ (List.Perm.cons _ (List.Perm.swap _ _ _))) (List.Perm.trans (List.Perm.cons _ (List.Perm.swap _ _ _)) (List.Perm.swap _ _ _))) ?_
      refine W_store (cs := [.bool (decide (0 < (r195.1.words.length : Int))), v197, .bool (r203.1.minus), v205]) (out := [.bool (decide (0 < (r195.1.words.length : Int))), v197, .bool (r203.1.minus), v205]) rfl sizeOf50 rfl rfl rfl rfl rfl (all_cons rfl (all_cons (RdS.one1 (h198.mono hle210)) (all_cons rfl (all_cons (RdS.one1 h206) all_nil)))) (over_all rfl) ?_
      refine W_end (E_then (C_ret ?_))
      obtain rfl := Option.some.inj hm
      exact endC1 (Hp.le_refl _) rfl (ResV.agg rfl isAgg50 sizeOf50 (List.mem_cons_self ..) rfl) (List.Sublist.cons _ (List.Sublist.cons _ (List.Sublist.cons _ (List.Sublist.cons _ (List.Sublist.refl _))))) (List.Perm.refl _) ⟨(Hp.le_trans (Hp.le_trans (Hp.le_trans hle132 hle192) hle202) hle210), v197, v205, rfl, rfl, (h198.mono hle210), h206⟩
    ·have hm := ite_t' hb194 hm
     refine W_field (o := 1) rfl rfl runUnderlying48 rfl sizeOf46 rfl rfl rfl ?_
     refine W_load rfl rfl isAgg46 rfl (own_at (List.mem_cons_self ..) rfl) ?_
     obtain ⟨y212, h213, he214, hm⟩ := idx_some hm
     obtain ⟨_, rfl, hc215⟩ := (h190).elem he214
     refine W_indexS rfl rfl runUnderlying46 sizeOf81 rfl h190 rfl h213 he214 ?_
     refine W_load rfl rfl isAgg81 rfl (HCells.one hc215 0 rfl).at ?_
     refine W_bin rfl rfl rfl rfl rfl ?_
     refine W_pick rfl rfl rfl rfl ?_
     refine W_end (E_then ?_)
     refine C_cond (b := decide (y212.n = 1)) rfl (fun hb216 => ?_) (fun hb216 => ?_)
     ·have hm := ite_t' hb216 hm
      refine C_seq (C_region ?_)
      refine W_loadAgg rfl rfl isAgg48 sizeOf48 rfl (own_all (List.mem_cons_of_mem _ (List.mem_cons_of_mem _ (List.mem_cons_of_mem _ (List.mem_cons_self ..))))) rfl ?_
      refine W_loadAgg rfl rfl isAgg48 sizeOf48 rfl (own_all (List.mem_cons_of_mem _ (List.mem_cons_of_mem _ (List.mem_cons_self ..)))) rfl ?_
      refine W_build (css := [[.bool (c127), v128], [.bool (c123), v124]]) (zs := [.bool (false), .slice none 0 0, .bool (false), .slice none 0 0]) (out := [.bool (c127), v128, .bool (c123), v124]) (places := [(0, 2), (2, 2)]) rfl rfl rfl ⟨rfl, rfl, trivial⟩ zeroValue50 rfl runUnderlying50 (fun w => by kernel_rfl) rfl ?_
      refine W_perm (List.Perm.swap _ _ _) ?_
      refine W_store (cs := [.bool (c127), v128, .bool (c123), v124]) (out := [.bool (c127), v128, .bool (c123), v124]) rfl sizeOf50 rfl rfl rfl rfl rfl (all_cons rfl (all_cons (RdS.one1 (h130.mono hle192)) (all_cons rfl (all_cons (RdS.one1 (h126.mono hle192)) all_nil)))) (over_all rfl) ?_
      refine W_end (E_then (C_ret (E_ret_then ?_)))
      obtain rfl := Option.some.inj hm
      exact endC1 (Hp.le_refl _) rfl (ResV.agg rfl isAgg50 sizeOf50 (List.mem_cons_self ..) rfl) (List.Sublist.cons _ (List.Sublist.cons _ (List.Sublist.cons _ (List.Sublist.cons _ (List.Sublist.refl _))))) (List.Perm.refl _) ⟨(Hp.le_trans hle132 hle192), v128, v124, rfl, rfl, (h130.mono hle192), (h126.mono hle192)⟩
     ·have hm := ite_f' hb216 hm
      refine C_skip (E_then (C_seq (C_region ?_)))
      refine W_field (o := 0) rfl rfl runUnderlying48 rfl sizeOf4 rfl rfl rfl ?_
      refine W_load rfl rfl isAgg4 rfl (own_at (List.mem_cons_of_mem _ (List.mem_cons_of_mem _ (List.mem_cons_of_mem _ (List.mem_cons_self ..)))) rfl) ?_
      refine W_assign rfl rfl rfl ?_
      refine W_end (E_then (C_seq (C_region ?_)))
      refine W_field (o := 0) rfl rfl runUnderlying48 rfl sizeOf4 rfl rfl rfl ?_
      refine W_perm (List.Perm.trans (List.Perm.cons _ (List.Perm.cons _ (List.Perm.swap _ _ _))) (List.Perm.trans (List.Perm.cons _ (List.Perm.swap _ _ _)) (List.Perm.swap _ _ _))) ?_
      refine W_store (cs := [.bool (false)]) (out := [.bool (false), v128]) rfl sizeOf4 rfl rfl rfl rfl rfl (all_cons rfl all_nil) rfl ?_
      refine W_end (E_then (C_seq (C_region ?_)))
      refine W_loadAgg rfl rfl isAgg48 sizeOf48 rfl (own_all (List.mem_cons_self ..)) rfl ?_
      refine W_loadAgg rfl rfl isAgg48 sizeOf48 rfl (own_all (List.mem_cons_of_mem _ (List.mem_cons_self ..))) rfl ?_
      obtain ⟨r217, hc218, hm⟩ := bind_some hm
      refine W_call call54 rfl rfl rfl (fun w ht => by have h := m_large_Int_DivMod_c (hm := hc218) (h130.mono hle192) h190 ht; exact h) ?_
      rintro _ H223 _ ⟨hle224, v219, v221, rfl, rfl, h220, h222⟩
      refine W_move rfl rfl rfl ?_
      refine W_extract rfl rfl rfl rfl ?_
      refine W_extract rfl rfl rfl rfl ?_
      refine W_store (cs := [.bool (r217.1.minus), v219]) (out := [.bool (r217.1.minus), v219]) rfl sizeOf48 rfl rfl rfl rfl rfl (all_cons rfl (all_cons (RdS.one1 h220) all_nil)) (over_all rfl) ?_
      refine W_end (E_then (C_seq (C_region ?_)))
      refine W_loadAgg rfl rfl isAgg48 sizeOf48 rfl (own_all (List.mem_cons_of_mem _ (List.mem_cons_of_mem _ (List.mem_cons_of_mem _ (List.mem_cons_self ..))))) rfl ?_
      refine W_loadAgg rfl rfl isAgg48 sizeOf48 rfl (own_all (List.mem_cons_of_mem _ (List.mem_cons_self ..))) rfl ?_
      obtain ⟨r225, hc226, hm⟩ := bind_some hm
      refine W_call call54 rfl rfl rfl (fun w ht => by have h := m_large_Int_DivMod_c (hm := hc226) ((h126.mono hle192).mono hle224) (h190.mono hle224) ht; exact h) ?_
      rintro _ H231 _ ⟨hle232, v227, v229, rfl, rfl, h228, h230⟩
      refine W_move rfl rfl rfl ?_
      refine W_extract rfl rfl rfl rfl ?_
      refine W_extract rfl rfl rfl rfl ?_
      refine W_perm (List.Perm.trans (List.Perm.cons _ (List.Perm.cons _ (List.Perm.swap _ _ _))) (List.Perm.trans (List.Perm.cons _ (List.Perm.swap _ _ _)) (List.Perm.swap _ _ _))) ?_
      refine W_store (cs := [.bool (r225.1.minus), v227]) (out := [.bool (r225.1.minus), v227]) rfl sizeOf48 rfl rfl rfl rfl rfl (all_cons rfl (all_cons (RdS.one1 h228) all_nil)) (over_all rfl) ?_
      refine W_end (E_then (C_seq (C_region ?_)))
      refine W_move rfl rfl rfl ?_
      refine W_move rfl rfl rfl ?_
      cases hb233 : (c127)
      ·have hm := ite_f' hb233 hm
       refine W_no rfl rfl rfl ?_
       refine W_no rfl rfl rfl ?_
       refine W_no rfl rfl rfl ?_
       refine W_no rfl rfl rfl ?_
       refine W_pick rfl rfl rfl rfl ?_
       refine W_field (o := 0) rfl rfl runUnderlying48 rfl sizeOf4 rfl rfl rfl ?_
       refine W_perm (List.Perm.swap _ _ _) ?_
       refine W_store (cs := [.bool (false)]) (out := [.bool (false), v219]) rfl sizeOf4 rfl rfl rfl rfl rfl (all_cons rfl all_nil) rfl ?_
       refine W_end (E_then (C_seq (C_region ?_)))
       refine W_loadAgg rfl rfl isAgg48 sizeOf48 rfl (own_all (List.mem_cons_self ..)) rfl ?_
       refine W_loadAgg rfl rfl isAgg48 sizeOf48 rfl (own_all (List.mem_cons_of_mem _ (List.mem_cons_self ..))) rfl ?_
       refine W_build (css := [[.bool (false), v219], [.bool (r225.1.minus), v227]]) (zs := [.bool (false), .slice none 0 0, .bool (false), .slice none 0 0]) (out := [.bool (false), v219, .bool (r225.1.minus), v227]) (places := [(0, 2), (2, 2)]) rfl rfl rfl ⟨rfl, rfl, trivial⟩ zeroValue50 rfl runUnderlying50 (fun w => by kernel_rfl) rfl ?_
       refine W_perm (List.Perm.trans (List.Perm.cons _ (List.Perm.cons _ (List.Perm.swap _ _ _))) (List.Perm.trans (List.Perm.cons _ (List.Perm.swap _ _ _)) (List.Perm.swap _ _ _))) ?_
       refine W_store (cs := [.bool (false), v219, .bool (r225.1.minus), v227]) (out := [.bool (false), v219, .bool (r225.1.minus), v227]) rfl sizeOf50 rfl rfl rfl rfl rfl (all_cons rfl (all_cons (RdS.one1 (h220.mono hle232)) (all_cons rfl (all_cons (RdS.one1 h228) all_nil)))) (over_all rfl) ?_
       refine W_end (E_then (C_ret ?_))
       obtain rfl := Option.some.inj hm
       exact endC1 (Hp.le_refl _) rfl (ResV.agg rfl isAgg50 sizeOf50 (List.mem_cons_self ..) rfl) (List.Sublist.cons _ (List.Sublist.cons _ (List.Sublist.cons _ (List.Sublist.cons _ (List.Sublist.refl _))))) (List.Perm.refl _) ⟨(Hp.le_trans (Hp.le_trans (Hp.le_trans hle132 hle192) hle224) hle232), v219, v227, rfl, rfl, (h220.mono hle232), h228⟩
      ·have hm := ite_t' hb233 hm
       refine W_field (o := 1) rfl rfl runUnderlying48 rfl sizeOf46 rfl rfl rfl ?_
       refine W_load rfl rfl isAgg46 rfl (own_at (List.mem_cons_of_mem _ (List.mem_cons_self ..)) rfl) ?_
       refine W_lenR rfl rfl runUnderlying46 rfl (h220.mono hle232) ?_
       refine W_bin rfl rfl rfl rfl rfl ?_
       refine W_pick rfl rfl rfl rfl ?_
       refine W_field (o := 0) rfl rfl runUnderlying48 rfl sizeOf4 rfl rfl rfl ?_
       refine W_perm (List.Perm.swap _ _ _) ?_
       refine W_store (cs := [.bool (decide (0 < (r217.1.words.length : Int)))]) (out := [.bool (decide (0 < (r217.1.words.length : Int))), v219]) rfl sizeOf4 rfl rfl rfl rfl rfl (all_cons rfl all_nil) rfl ?_
       refine W_end (E_then (C_seq (C_region ?_)))
       refine W_loadAgg rfl rfl isAgg48 sizeOf48 rfl (own_all (List.mem_cons_self ..)) rfl ?_
       refine W_loadAgg rfl rfl isAgg48 sizeOf48 rfl (own_all (List.mem_cons_of_mem _ (List.mem_cons_self ..))) rfl ?_
       refine W_build (css := [[.bool (decide (0 < (r217.1.words.length : Int))), v219], [.bool (r225.1.minus), v227]]) (zs := [.bool (false), .slice none 0 0, .bool (false), .slice none 0 0]) (out := [.bool (decide (0 < (r217.1.words.length : Int))), v219, .bool (r225.1.minus), v227]) (places := [(0, 2), (2, 2)]) rfl rfl rfl ⟨rfl, rfl, trivial⟩ zeroValue50 rfl runUnderlying50 (fun w => by kernel_rfl) rfl ?_
       refine W_perm (List.Perm.trans (List.Perm.cons _ (List.Perm.cons _ (List.Perm.swap _ _ _))) (List.Perm.trans (List.Perm.cons _ (List.Perm.swap _ _ _)) (List.Perm.swap _ _ _))) ?_
       refine W_store (cs := [.bool (decide (0 < (r217.1.words.length : Int))), v219, .bool (r225.1.minus), v227]) (out := [.bool (decide (0 < (r217.1.words.length : Int))), v219, .bool (r225.1.minus), v227]) rfl sizeOf50 rfl rfl rfl rfl rfl (all_cons rfl (all_cons (RdS.one1 (h220.mono hle232)) (all_cons rfl (all_cons (RdS.one1 h228) all_nil)))) (over_all rfl) ?_
       refine W_end (E_then (C_ret ?_))
       obtain rfl := Option.some.inj hm
       exact endC1 (Hp.le_refl _) rfl (ResV.agg rfl isAgg50 sizeOf50 (List.mem_cons_self ..) rfl) (List.Sublist.cons _ (List.Sublist.cons _ (List.Sublist.cons _ (List.Sublist.cons _ (List.Sublist.refl _))))) (List.Perm.refl _) ⟨(Hp.le_trans (Hp.le_trans (Hp.le_trans hle132 hle192) hle224) hle232), v219, v227, rfl, rfl, (h220.mono hle232), h228⟩
 ·refine C_seq (C_region ?_)
  refine W_field (o := 0) rfl rfl runUnderlying48 rfl sizeOf4 rfl rfl rfl ?_
  refine W_load rfl rfl isAgg4 rfl (own_at (List.mem_cons_of_mem _ (List.mem_cons_self ..)) rfl) ?_
  refine W_end (E_then ?_)
  refine C_cond (b := p1_d.minus) rfl (fun hb234 => ?_) (fun hb234 => ?_)
  ·have hm := ite_t' hb234 hm
   obtain ⟨r235, hc236, hm⟩ := bind_some hm
   refine C_region_tok0 3 (phiT [(fun H rs v => [] = rs ∧ .agg [.bool (p0_n.minus), v0].toArray = v), (fun H rs v => ∃ v241 : Value, [] = rs ∧ .agg [.bool (r235.minus), v241].toArray = v ∧ RdS H v241 r235.words), (fun H rs v => [] = rs ∧ .agg [.bool (p1_d.minus), v1].toArray = v)]) [[], [], []] [[], [], []] [] [0, 1, 2] Facts.mixed (by kernel_rfl) (by rfl) (by rfl) (by rfl) (by kernel_rfl) (phiT_mono ⟨eq_monoT _ _, (by rintro H1 H2 rs v hle ⟨v241, rfl, rfl, h242⟩; exact ⟨v241, rfl, rfl, (h242.mono hle)⟩), eq_monoT _ _, trivial⟩) ⟨?_, ?_, ?_, trivial⟩ ?_
   ·intro HX hX X Rest hR
    intro hU hUp
    refine W_loadAgg rfl rfl isAgg48 sizeOf48 rfl (own_all (hR _ (List.mem_cons_of_mem _ (List.mem_cons_of_mem _ (List.mem_cons_self ..))))) rfl ?_
    exact W_end (OneT_end [] (Hp.le_refl _) ⟨rfl, rfl⟩)
   ·intro HX hX X Rest hR
    rintro _ _ ⟨rfl, rfl⟩
    intro hU hUp
    refine W_call call52 rfl rfl rfl (fun w ht => by have h := m_large_Int_Neg_c (hm := hc236) (h0.mono hX) ht; exact h) ?_
    rintro _ H243 _ ⟨hle244, v241, rfl, rfl, h242⟩
    exact W_end (OneT_end [] hle244 ⟨v241, rfl, rfl, (h242)⟩)
   ·intro HX hX X Rest hR
    intro hU hUp
    refine W_loadAgg rfl rfl isAgg48 sizeOf48 rfl (own_all (hR _ (List.mem_cons_of_mem _ (List.mem_cons_self ..)))) rfl ?_
    exact W_end (OneT_end [] (Hp.le_refl _) ⟨rfl, rfl⟩)
   intro H245 hle246
   rintro _ _ ⟨rfl, rfl⟩
   rintro _ _ ⟨v241, rfl, rfl, h242⟩
   rintro _ _ ⟨rfl, rfl⟩
   obtain ⟨r247, hc248, hm⟩ := bind_some hm
   refine W_call call52 rfl rfl rfl (fun w ht => by have h := m_large_Int_Neg_c (hm := hc248) (h1.mono hle246) ht; exact h) ?_
   rintro _ H251 _ ⟨hle252, v249, rfl, rfl, h250⟩
   refine W_perm (List.Perm.trans (List.Perm.cons _ (List.Perm.swap _ _ _)) (List.Perm.swap _ _ _)) ?_
   refine W_store (cs := [.bool (r235.minus), v241]) (out := [.bool (r235.minus), v241]) rfl sizeOf48 rfl rfl rfl rfl rfl (all_cons rfl (all_cons (RdS.one1 (h242.mono hle252)) all_nil)) (over_all rfl) ?_
   refine W_perm (List.Perm.trans (List.Perm.cons _ (List.Perm.swap _ _ _)) (List.Perm.swap _ _ _)) ?_
   refine W_store (cs := [.bool (r247.minus), v249]) (out := [.bool (r247.minus), v249]) rfl sizeOf48 rfl rfl rfl rfl rfl (all_cons rfl (all_cons (RdS.one1 h250) all_nil)) (over_all rfl) ?_
   refine W_end ?_
   exact E_keepJ (J133 _ _ _ ⟨r247.minus, r247.words, r235.minus, r235.words, v249, v241, hm, h250, (h242.mono hle252), (Hp.le_trans hle246 hle252), rfl, rfl⟩) (List.Perm.trans (List.Perm.cons _ (List.Perm.swap _ _ _)) (List.Perm.swap _ _ _)) ⟨rfl, rfl, rfl, trivial⟩
  ·have hm := ite_f' hb234 hm
   refine C_skip ?_
   exact E_keepJ (J133 _ _ _ ⟨p1_d.minus, p1_d.words, p0_n.minus, p0_n.words, v1, v0, hm, h1, h0, (Hp.le_refl _), rfl, rfl⟩) (List.Perm.refl _) ⟨rfl, rfl, rfl, trivial⟩

theorem m_large_Frac_c {B : Nat} {w0 w : World} [Tabs B w0] {H : Hp} {M : List Res} {p0_n : Int} {p1_d : Int} {r : S_large_Rat} (hm : m_large_Frac p0_n p1_d = some r) (ht : St B w0 H (M) w) :
  Calls prog 24 [.int .i64 (p0_n), .int .i64 (p1_d)].toArray w (Ret B w0 fun H' M' v => H.le H' ∧ ∃ qv0 : Value, ∃ qv1 : Value, M = M' ∧ .agg [.bool (r.N.minus), qv0, .bool (r.D.minus), qv1].toArray = v ∧ RdS H' qv0 r.N.words ∧ RdS H' qv1 r.D.words) := by
 unfold m_large_Frac at hm
 refine enter func24 rfl rfl rfl ht ?_
 refine C_seq (C_region ?_)
 refine W_alloc (cs := [.bool (false), .slice none 0 0, .bool (false), .slice none 0 0]) rfl rfl zeroValue50 rfl (fun b101 => ?_)
 refine W_end (E_then (C_seq (C_region ?_)))
 refine W_move rfl rfl rfl ?_
 obtain ⟨r102, hc103, hm⟩ := bind_some hm
 refine W_call call41 rfl rfl rfl (fun w ht => by have h := m_large_Of_c (hm := hc103)  ht; exact h) ?_
 rintro _ H106 _ ⟨hle107, v104, rfl, rfl, h105⟩
 refine W_move rfl rfl rfl ?_
 obtain ⟨r108, hc109, hm⟩ := bind_some hm
 refine W_call call41 rfl rfl rfl (fun w ht => by have h := m_large_Of_c (hm := hc109)  ht; exact h) ?_
 rintro _ H112 _ ⟨hle113, v110, rfl, rfl, h111⟩
 obtain ⟨r114, hc115, hm⟩ := bind_some hm
 refine W_call call40 rfl rfl rfl (fun w ht => by have h := m_large_Ratio_c (hm := hc115) (h105.mono hle113) h111 ht; exact h) ?_
 rintro _ H120 _ ⟨hle121, v116, v118, rfl, rfl, h117, h119⟩
 refine W_store (cs := [.bool (r114.N.minus), v116, .bool (r114.D.minus), v118]) (out := [.bool (r114.N.minus), v116, .bool (r114.D.minus), v118]) rfl sizeOf50 rfl rfl rfl rfl rfl (all_cons rfl (all_cons (RdS.one1 h117) (all_cons rfl (all_cons (RdS.one1 h119) all_nil)))) (over_all rfl) ?_
 refine W_end (E_then (C_ret ?_))
 obtain rfl := Option.some.inj hm
 exact endC1 (Hp.le_refl _) rfl (ResV.agg rfl isAgg50 sizeOf50 (List.mem_cons_self ..) rfl) (List.Sublist.cons _ (List.Sublist.refl _)) (List.Perm.refl _) ⟨(Hp.le_trans (Hp.le_trans hle107 hle113) hle121), v116, v118, rfl, rfl, h117, h119⟩

set_option maxHeartbeats 6400000 in
set_option maxRecDepth 100000 in
open Go.Shelf Go.Sort Go.Lib Go.Proofs in
theorem fuintk81 (u : Nat) (hu64 : u < 18446744073709551616) (w : World) (htab : Lib.TabIs prog w "internal/strconv.uint64pow10" .u64 Lib.pow10Tab) :
  Calls prog 81 #[.int .u64 u, .int .i64 10] w fun e w' => e = .returned (.string ⟨(Lib.decDigits u).toArray⟩) ∧ ∃ k os, w' = Sort.grow (w.drewN k) os := by
 have mixed : prog.follows .mixedOrders = true := Facts.mixed
 have t0 := underlying0; have a0 := isAgg0; have z0 := sizeOf0; have v0 := zeroValue0
 have t3 := underlying3; have a3 := isAgg3; have z3 := sizeOf3; have v3 := zeroValue3
 have t4 := underlying4; have a4 := isAgg4; have z4 := sizeOf4; have v4 := zeroValue4
 have t5 := underlying5; have a5 := isAgg5; have z5 := sizeOf5; have v5 := zeroValue5
 have t9 := underlying9; have a9 := isAgg9; have z9 := sizeOf9; have v9 := zeroValue9
 have t85 := underlying85; have a85 := isAgg85; have z85 := sizeOf85; have v85 := zeroValue85
 have t104 := underlying104; have a104 := isAgg104; have z104 := sizeOf104; have v104 := zeroValue104
 have t132 := underlying132; have a132 := isAgg132; have z132 := sizeOf132; have v132 := zeroValue132
 have es : ∀ args w, (callFunc 95 args).run prog w = .ok (.enter 95 args) w := enters_of func95 (by kernel_rfl) rfl
 have en : ∀ args w, (callFunc 96 args).run prog w = .ok (.enter 96 args) w := enters_of func96 (by kernel_rfl) rfl
 have eb : ∀ args w, (callFunc 97 args).run prog w = .ok (.enter 97 args) w := enters_of func97 (by kernel_rfl) rfl
 have hn : (f81).ntmps = 32 := by kernel_rfl
 by_cases hs : u < 100
 ·go_enter func81, hn
  go_wp2_with (go_at_fn 95; refine (internal_strconv_small u hs _).mono ?_; rintro e w' ⟨rfl, rfl⟩)
  go_ret
  exact ⟨rfl, 0, #[], by simp [World.drewN_zero]⟩
 ·have hu1 : 1 ≤ u := by omega
  have hnd20 : Lib.nDigits u ≤ 20 := by have := Lib.numDigits_eq u hu1 hu64; split at this <;> omega
  have hal : prog.arrayLen 132 = 24 := by simp [Program.arrayLen, underlying132]
  have hsl1 : ∀ W, (Instr.sliceAt 132 (.pointer (some ⟨w.heap.size, 0, none⟩)) none (some (.int .i64 (Lib.nDigits u : Int))) none).run prog W = .ok (.slice (some ⟨w.heap.size, 0, none⟩) (Lib.nDigits u) 24) W := fun W => by
   rw [run_sliceAt_array_h W 132 ⟨w.heap.size, 0, none⟩ (by simp [Program.arrayLen, Program.elem, underlying132]) .i64 (Lib.nDigits u : Int) (by omega) (by rw [hal]; omega)]
   go_simp
  have hH0 := Lib.holds_zero0 w 132 (Lib.nDigits u) (by omega)
  have hfmt := internal_strconv_formatBase10 w.heap.size 0 24 u (Array.replicate (Lib.nDigits u) 0) (w.alloc (.cells Lib.zeros24 132)) hH0 (by rw [Array.size_replicate]; exact Lib.lt_pow_nDigits u) hu64 (by rw [Array.size_replicate]; omega)
  rw [Array.size_replicate] at hfmt
  have HH0 := Lib.hid hH0
  clear hH0 hal
  go_enter func81, hn
  go_wp2_with (first
   | (go_at_fn 96; refine (internal_strconv_numDigits u hu1 hu64 _ (Lib.tabIs_alloc htab _)).mono ?_; rintro e w' ⟨rfl, rfl⟩))
  go_at_fn 97
  refine hfmt.mono ?_
  rintro e w' ⟨rfl, k, v', dk, rfl, hF⟩
  have hcv : (convert 104 9 (.slice (some ⟨w.heap.size, 0, none⟩) (Lib.nDigits u) 24)).run prog ((Sort.putRow (fun (b : UInt8) => Value.int .u8 (b.toNat : Int)) (w.alloc (.cells Lib.zeros24 132)) w.heap.size 0 dk).drewN k) = .ok (.string ⟨(Lib.decDigits u).toArray⟩) ((Sort.putRow (fun (b : UInt8) => Value.int .u8 (b.toNat : Int)) (w.alloc (.cells Lib.zeros24 132)) w.heap.size 0 dk).drewN k) := by
   have h := run_convert_bytes_back (P := prog) ((Sort.putRow (fun (b : UInt8) => Value.int .u8 (b.toNat : Int)) (w.alloc (.cells Lib.zeros24 132)) w.heap.size 0 dk).drewN k) 104 9 5 ⟨w.heap.size, 0, none⟩ 24 (Lib.decDigits u) underlying104 underlying5 underlying9 (fun j hj => by
    rw [Lib.row_is_numeral hF j hj, Lib.add_plain, World.cell?_drewN]
    exact Sort.cell?_putRow (fun (b : UInt8) => Value.int .u8 (b.toNat : Int)) _ w.heap.size 0 _ dk HH0.out (by rw [hF.size, Array.size_replicate]) j (by rw [hF.size]; rw [Lib.decDigits_length] at hj; exact hj))
   rw [Lib.decDigits_length] at h
   exact h
  go_wp2
  go_ret
  obtain ⟨os, eo⟩ := Lib.fin_at w (.cells Lib.zeros24 132) dk k 0
  exact ⟨rfl, k, os, eo⟩
theorem fuint81_c {B : Nat} {w0 w : World} [Tabs B w0] {H : Hp} {M : List Res} {n : Int} (hn : 0 ≤ n ∧ n ≤ 18446744073709551615) (ht : St B w0 H M w) :
  Calls prog 81 [.int .u64 n, .int .i64 10].toArray w (Ret B w0 fun H' M' v => H = H' ∧ M = M' ∧ .string (itoaB n) = v) := by
 obtain ⟨u, rfl⟩ : ∃ u : Nat, n = u := ⟨n.toNat, by omega⟩
 have ht1 : Lib.TabIs prog w "internal/strconv.uint64pow10" .u64 Lib.pow10Tab := by
  have e : gt3 = Lib.pow10Tab := by decide +kernel
  rw [← e]; exact ht.tab (Tabs.t3 (B := B) (w0 := w0)) gn3 (Tabs.below (w0 := w0) rfl)
 refine (fuintk81 u (by omega) w ht1).mono ?_
 rintro e w' ⟨rfl, k, os, rfl⟩
 have hi : itoaB (u : Int) = ⟨(Lib.decDigits u).toArray⟩ := by unfold itoaB; rw [Lib.itoa_nonneg]
 rw [hi]
 exact ⟨H, M, ht.under (Lib.below_grow _ w (Nat.le_refl _) k os), rfl, rfl, rfl⟩

theorem fuo69_c {B : Nat} {w0 w : World} [Tabs B w0] {H : Hp} {M : List Res} {n : Int} (hn : 0 ≤ n ∧ n ≤ 18446744073709551615) (ht : St B w0 H M w) :
  Calls prog 69 [.int .u64 n, .int .i64 10].toArray w (Ret B w0 fun H' M' v => H = H' ∧ M = M' ∧ .string (itoaB n) = v) := by
 refine enter func69 rfl rfl rfl ht ?_
 refine C_seq (C_region ?_)
 refine W_assign rfl rfl rfl ?_
 refine W_end (E_then (C_seq (C_region ?_)))
 refine W_move rfl rfl rfl ?_
 refine W_move rfl rfl rfl ?_
 refine W_call call81 rfl rfl rfl (fun w ht => by have h := fuint81_c hn ht; exact h) ?_
 rintro _ _ _ ⟨rfl, rfl, rfl⟩
 refine W_assign rfl rfl rfl ?_
 refine W_end (E_then (C_ret ?_))
 exact end1 rfl rfl ⟨rfl, rfl, rfl⟩

theorem bcc82_c {B : Nat} {w0 w : World} {H : Hp} {M : List Res} {b : Nat} {p v : Value} (hb : BAd b p) (ht : St B w0 H (.obj b (.cells [p, v].toArray 106 (0, 0)) :: M) w) :
  Calls prog 82 [.pointer (some ⟨b, 0, none⟩)].toArray w (Ret B w0 fun H' M' r => H = H' ∧ .obj b (.cells [.pointer (some ⟨b, 0, none⟩), v].toArray 106 (0, 0)) :: M = M' ∧ .tuple #[] = r) := by
 refine enter func82 rfl rfl rfl ht ?_
 refine C_seq (C_region ?_)
 refine W_move rfl rfl rfl ?_
 refine W_nilCheck rfl rfl rfl ?_
 refine W_field (o := 0) rfl rfl runUnderlying106 rfl sizeOf103 rfl rfl rfl ?_
 refine W_load rfl rfl isAgg103 rfl (own_at (List.mem_cons_self ..) rfl) ?_
 rcases hb with rfl | rfl
 ·refine W_ptrNil rfl rfl runUnderlying103 rfl rfl ?_
  refine W_end (E_then ?_)
  refine C_cond (b := true) rfl (fun _ => ?_) (fun hb => Bool.noConfusion hb)
  refine C_region ?_
  refine W_move rfl rfl rfl ?_
  refine W_move rfl rfl rfl ?_
  refine W_toUnsafe (b := b) (o := 0) (List.mem_cons_self ..) rfl ⟨_, rfl, rfl⟩ rfl rfl underlying103 underlying137 rfl ?_
  refine W_extern (noesc_extern func99 (by kernel_rfl) (by kernel_rfl) (by kernel_rfl) (by kernel_rfl) _) rfl rfl rfl ?_
  refine W_fromUnsafe (b := b) (o := 0) (List.mem_cons_self ..) ⟨_, rfl⟩ (by kernel_rfl) rfl rfl underlying137 underlying103 rfl ?_
  refine W_nilCheck rfl rfl rfl ?_
  refine W_field (o := 0) rfl rfl runUnderlying106 rfl sizeOf103 rfl rfl rfl ?_
  refine W_store (cs := [.pointer (some ⟨b, 0, none⟩)]) (out := [.pointer (some ⟨b, 0, none⟩), v]) rfl sizeOf103 rfl rfl rfl rfl rfl (all_cons rfl all_nil) rfl ?_
  refine W_end (E_off ?_)
  exact end0 rfl ⟨rfl, rfl, rfl⟩
 ·refine W_ptrNil rfl rfl runUnderlying103 rfl rfl ?_
  refine W_end (E_then ?_)
  refine C_cond (b := false) rfl (fun hb => Bool.noConfusion hb) (fun _ => ?_)
  refine C_seq (C_region ?_)
  refine W_move rfl rfl rfl ?_
  refine W_nilCheck rfl rfl rfl ?_
  refine W_field (o := 0) rfl rfl runUnderlying106 rfl sizeOf103 rfl rfl rfl ?_
  refine W_load rfl rfl isAgg103 rfl (own_at (List.mem_cons_self ..) rfl) ?_
  refine W_move rfl rfl rfl ?_
  refine W_ptrNeSame ⟨_, rfl⟩ rfl rfl underlying103 rfl rfl ?_
  refine W_end (E_then ?_)
  refine C_cond (b := false) rfl (fun hb => Bool.noConfusion hb) (fun _ => ?_)
  refine C_skip (E_off ?_)
  exact end0 rfl ⟨rfl, rfl, rfl⟩
theorem bws70_c {B : Nat} {w0 w : World} {H : Hp} {M : List Res} {b : Nat} {p v : Value} {xs : List Value} {l : List U8} {s : ByteArray} (hb : BAd b p) (hx : Rw H v xs l) (hz : l.length + s.size ≤ 140737488355328)
  (ht : St B w0 H (.obj b (.cells [p, v].toArray 106 (0, 0)) :: .row v 5 (Rep.sz U8) l.length xs :: M) w) :
  Calls prog 70 [.pointer (some ⟨b, 0, none⟩), .string s].toArray w (Ret B w0 fun H' M' r => H = H' ∧ ∃ (v' : Value) (xs' : List Value), .obj b (.cells [.pointer (some ⟨b, 0, none⟩), v'].toArray 106 (0, 0)) :: .row v' 5 (Rep.sz U8) (l ++ bytesL s).length xs' :: M = M' ∧ .tuple #[.int .i64 (s.size : Int), .nilIface] = r ∧ RwF v' xs' (l ++ bytesL s)) := by
 refine enter func70 rfl rfl rfl ht ?_
 refine C_seq (C_region ?_)
 refine W_assign rfl rfl rfl ?_
 refine W_assign rfl rfl rfl ?_
 refine W_end (E_then (C_seq (C_region ?_)))
 refine W_move rfl rfl rfl ?_
 refine W_call call82 rfl rfl rfl (fun w ht => by have h := bcc82_c hb ht; exact h) ?_
 rintro _ _ _ ⟨rfl, rfl, rfl⟩
 refine W_end (E_then (C_seq (C_region ?_)))
 refine W_move rfl rfl rfl ?_
 refine W_move rfl rfl rfl ?_
 refine W_nilCheck rfl rfl rfl ?_
 refine W_field (o := 1) rfl rfl runUnderlying106 rfl sizeOf104 rfl rfl rfl ?_
 refine W_load rfl rfl isAgg104 rfl (own_at (List.mem_cons_self ..) rfl) ?_
 refine W_move rfl rfl rfl ?_
 refine W_perm (List.Perm.swap _ _ _) ?_
 refine W_appendStr rfl rfl underlying104 underlying9 ⟨_, rfl, rfl, rfl, rfl⟩ rfl rfl hx hz ?_
 intro v' xs' h'
 refine W_nilCheck rfl rfl rfl ?_
 refine W_field (o := 1) rfl rfl runUnderlying106 rfl sizeOf104 rfl rfl rfl ?_
 refine W_perm (List.Perm.swap _ _ _) ?_
 refine W_store (cs := [v']) (out := [.pointer (some ⟨b, 0, none⟩), v']) rfl sizeOf104 rfl rfl (Rw.cells h') rfl rfl (all_cons (Rw.one h') all_nil) rfl ?_
 refine W_end (E_then (C_seq (C_region ?_)))
 refine W_move rfl rfl rfl ?_
 refine W_lenStr rfl rfl runUnderlying9 rfl ?_
 refine W_assign rfl rfl rfl ?_
 refine W_assign rfl rfl rfl ?_
 refine W_end (E_then (C_ret ?_))
 exact end2 rfl rfl rfl ⟨rfl, v', xs', rfl, rfl, h'.toF⟩

theorem bst71_c {B : Nat} {w0 w : World} {H : Hp} {M : List Res} {b : Nat} {p v : Value} {xs : List Value} {l : List U8} (hx : Rw H v xs l) (hz : 0 < l.length)
  (ht : St B w0 H (.row v 5 (Rep.sz U8) l.length xs :: .obj b (.cells [p, v].toArray 106 (0, 0)) :: M) w) :
  Calls prog 71 [.pointer (some ⟨b, 0, none⟩)].toArray w (Ret B w0 fun H' M' r => H = H' ∧ M = M' ∧ .string (bstr l) = r) := by
 refine enter func71 rfl rfl rfl ht ?_
 refine C_seq (C_region ?_)
 refine W_assign rfl rfl rfl ?_
 refine W_end (E_then (C_seq ?_))
 refine C_rowSome hz (fun gb off cap hv hcap => ?_)
 subst hv
 refine C_as (M' := [[.row (.slice (some ⟨gb, off, none⟩) l.length cap) 5 (Rep.sz U8) l.length xs]].flatten ++ (.obj b (.cells [p, .slice (some ⟨gb, off, none⟩) l.length cap].toArray 106 (0, 0)) :: M)) rfl ?_
 refine C_region_tok0 11 (phiT [(fun H rs v => [] = rs ∧ .pointer (some ⟨b, 0, none⟩) = v), (fun H rs v => [] = rs ∧ .pointer (some ⟨b, 0, none⟩) = v), (fun H rs v => [] = rs ∧ .pointer (some ⟨b, 1, none⟩) = v), (fun H rs v => [] = rs ∧ .slice (some ⟨gb, off, none⟩) l.length cap = v), (fun H rs v => [] = rs ∧ .pointer (some ⟨gb, off, none⟩) = v), (fun H rs v => [] = rs ∧ .pointer (some ⟨b, 0, none⟩) = v), (fun H rs v => [] = rs ∧ .pointer (some ⟨b, 0, none⟩) = v), (fun H rs v => [] = rs ∧ .pointer (some ⟨b, 1, none⟩) = v), (fun H rs v => [] = rs ∧ .slice (some ⟨gb, off, none⟩) l.length cap = v), (fun H rs v => [] = rs ∧ .int .i64 (l.length : Int) = v), (fun H rs v => [] = rs ∧ .string (bstr l) = v)])
  [[], [], [], [], [], [], [], [], [], [], [11]] [[], [], [], [], [], [], [], [], [], [], []] [[.row (.slice (some ⟨gb, off, none⟩) l.length cap) 5 (Rep.sz U8) l.length xs]] [0, 1, 2, 3, 4, 5, 6, 7, 8, 9, 10] Facts.mixed (by kernel_rfl) (by rfl) (by rfl) (by rfl) (by kernel_rfl)
  (phiT_mono ⟨eq_monoT _ _, eq_monoT _ _, eq_monoT _ _, eq_monoT _ _, eq_monoT _ _, eq_monoT _ _, eq_monoT _ _, eq_monoT _ _, eq_monoT _ _, eq_monoT _ _, eq_monoT _ _, trivial⟩) ⟨?_, ?_, ?_, ?_, ?_, ?_, ?_, ?_, ?_, ?_, ?_, trivial⟩ ?_
 ·intro HX hX X Rest hR
  intro hU hUp
  refine W_move rfl rfl rfl ?_
  exact W_end (OneT_end [] (Hp.le_refl _) ⟨rfl, rfl⟩)
 ·intro HX hX X Rest hR
  rintro _ _ ⟨rfl, rfl⟩
  intro hU hUp
  refine W_nilCheck rfl rfl rfl ?_
  exact W_end (OneT_end [] (Hp.le_refl _) ⟨rfl, rfl⟩)
 ·intro HX hX X Rest hR
  rintro _ _ ⟨rfl, rfl⟩
  intro hU hUp
  refine W_field (o := 1) rfl rfl runUnderlying106 rfl sizeOf104 rfl rfl rfl ?_
  exact W_end (OneT_end [] (Hp.le_refl _) ⟨rfl, rfl⟩)
 ·intro HX hX X Rest hR
  rintro _ _ ⟨rfl, rfl⟩
  intro hU hUp
  refine W_load rfl rfl isAgg104 rfl (own_at (hR _ (List.mem_cons_self ..)) rfl) ?_
  exact W_end (OneT_end [] (Hp.le_refl _) ⟨rfl, rfl⟩)
 ·intro HX hX X Rest hR
  rintro _ _ ⟨rfl, rfl⟩
  intro hU hUp
  refine W_sliceData rfl rfl rfl (by omega) ?_
  exact W_end (OneT_end [] (Hp.le_refl _) ⟨rfl, rfl⟩)
 ·intro HX hX X Rest hR
  intro hU hUp
  refine W_move rfl rfl rfl ?_
  exact W_end (OneT_end [] (Hp.le_refl _) ⟨rfl, rfl⟩)
 ·intro HX hX X Rest hR
  rintro _ _ ⟨rfl, rfl⟩
  intro hU hUp
  refine W_nilCheck rfl rfl rfl ?_
  exact W_end (OneT_end [] (Hp.le_refl _) ⟨rfl, rfl⟩)
 ·intro HX hX X Rest hR
  rintro _ _ ⟨rfl, rfl⟩
  intro hU hUp
  refine W_field (o := 1) rfl rfl runUnderlying106 rfl sizeOf104 rfl rfl rfl ?_
  exact W_end (OneT_end [] (Hp.le_refl _) ⟨rfl, rfl⟩)
 ·intro HX hX X Rest hR
  rintro _ _ ⟨rfl, rfl⟩
  intro hU hUp
  refine W_load rfl rfl isAgg104 rfl (own_at (hR _ (List.mem_cons_self ..)) rfl) ?_
  exact W_end (OneT_end [] (Hp.le_refl _) ⟨rfl, rfl⟩)
 ·intro HX hX X Rest hR
  rintro _ _ ⟨rfl, rfl⟩
  intro hU hUp
  refine W_lenS rfl rfl runUnderlying104 rfl ?_
  exact W_end (OneT_end [] (Hp.le_refl _) ⟨rfl, rfl⟩)
 ·intro HX hX X Rest hR
  rintro _ _ ⟨rfl, rfl⟩
  rintro _ _ ⟨rfl, rfl⟩
  intro hU hUp
  refine W_as (M' := .row (.slice (some ⟨gb, off, none⟩) l.length cap) 5 (Rep.sz U8) l.length xs :: Rest) rfl ?_
  refine W_unsafeStr (l := l) rfl rfl underlying119 (by kernel_rfl) rfl rfl hz (hx.mono hX) ?_
  exact W_end (OneT_end [] (Hp.le_refl _) ⟨rfl, rfl⟩)
 intro H1 hle1
 rintro _ _ ⟨rfl, rfl⟩
 rintro _ _ ⟨rfl, rfl⟩
 rintro _ _ ⟨rfl, rfl⟩
 rintro _ _ ⟨rfl, rfl⟩
 rintro _ _ ⟨rfl, rfl⟩
 rintro _ _ ⟨rfl, rfl⟩
 rintro _ _ ⟨rfl, rfl⟩
 rintro _ _ ⟨rfl, rfl⟩
 rintro _ _ ⟨rfl, rfl⟩
 rintro _ _ ⟨rfl, rfl⟩
 rintro _ _ ⟨rfl, rfl⟩
 refine W_as (M' := .obj b (.cells [p, .slice (some ⟨gb, off, none⟩) l.length cap].toArray 106 (0, 0)) :: M) rfl ?_
 refine W_assign rfl rfl rfl ?_
 refine W_end (E_then (C_ret ?_))
 refine E_drop (List.Sublist.cons _ (List.Sublist.refl _)) ?_
 refine E_weak hle1 ?_
 exact end1 rfl rfl ⟨rfl, rfl, rfl⟩

theorem m_large_Int_Text_c {B : Nat} {w0 w : World} [Tabs B w0] {H : Hp} {M : List Res} {p0_a : S_large_Int} {v0 : Value} {r : ByteArray × Bool} (hm : m_large_Int_Text p0_a = some r) (h0 : RdS H v0 p0_a.words) (ht : St B w0 H (M) w) :
  Calls prog 51 [.agg [.bool (p0_a.minus), v0].toArray].toArray w (Ret B w0 fun H' M' v => H = H' ∧ M = M' ∧ .tuple #[.string (r.1), .bool (r.2)] = v) := by
 unfold m_large_Int_Text at hm
 refine enter func51 rfl rfl rfl ht ?_
 refine C_seq (C_region ?_)
 refine W_box (cs := [.bool (p0_a.minus), v0]) rfl rfl rfl rfl (fun b101 => ?_)
 refine W_assign rfl rfl rfl ?_
 refine W_assign rfl rfl rfl ?_
 refine W_end (E_then (C_seq (C_seq (C_region ?_))))
 refine W_field (o := 1) rfl rfl runUnderlying48 rfl sizeOf46 rfl rfl rfl ?_
 refine W_load rfl rfl isAgg46 rfl (own_at (List.mem_cons_self ..) rfl) ?_
 refine W_lenR rfl rfl runUnderlying46 rfl h0 ?_
 refine W_bin rfl rfl rfl rfl rfl ?_
 refine W_end (E_then ?_)
 refine C_cond (b := decide ((p0_a.words.length : Int) = 0)) rfl (fun hb102 => ?_) (fun hb102 => ?_)
 ·have hm := ite_t' hb102 hm
  refine C_seq (C_region ?_)
  refine W_assign rfl rfl rfl ?_
  refine W_assign rfl rfl rfl ?_
  refine W_end (E_then (C_ret (E_ret_then ?_)))
  obtain rfl := Option.some.inj hm
  refine E_drop (List.Sublist.cons _ (List.Sublist.refl _)) ?_
  refine E_weak (Hp.le_refl _) ?_
  exact end2 rfl rfl rfl ⟨rfl, rfl, rfl⟩
 ·have hm := ite_f' hb102 hm
  refine C_skip (E_then (C_seq (C_seq (C_region ?_))))
  refine W_field (o := 1) rfl rfl runUnderlying48 rfl sizeOf46 rfl rfl rfl ?_
  refine W_load rfl rfl isAgg46 rfl (own_at (List.mem_cons_self ..) rfl) ?_
  refine W_lenR rfl rfl runUnderlying46 rfl h0 ?_
  refine W_bin rfl rfl rfl rfl rfl ?_
  refine W_end (E_then ?_)
  refine C_cond (b := decide (210 < (p0_a.words.length : Int))) rfl (fun hb103 => ?_) (fun hb103 => ?_)
  ·have hm := ite_t' hb103 hm
   refine C_seq (C_region ?_)
   refine W_assign rfl rfl rfl ?_
   refine W_assign rfl rfl rfl ?_
   refine W_end (E_then (C_ret (E_ret_then ?_)))
   obtain rfl := Option.some.inj hm
   refine E_drop (List.Sublist.cons _ (List.Sublist.refl _)) ?_
   refine E_weak (Hp.le_refl _) ?_
   exact end2 rfl rfl rfl ⟨rfl, rfl, rfl⟩
  ·have hm := ite_f' hb103 hm
   refine C_skip (E_then (C_seq (C_region ?_)))
   refine W_assign rfl rfl rfl ?_
   refine W_end (E_then (C_seq (C_seq (C_region ?_))))
   refine W_field (o := 1) rfl rfl runUnderlying48 rfl sizeOf46 rfl rfl rfl ?_
   refine W_load rfl rfl isAgg46 rfl (own_at (List.mem_cons_self ..) rfl) ?_
   refine W_assign rfl rfl rfl ?_
   refine W_end (E_then (C_block ?_))
   refine C_nilRow 81 (Rep.sz U32) ?_
   refine C_keep (L' := [(1, .pointer (some ⟨b101, 0, none⟩)), (4, (.slice none 0 0)), (5, v0)]) ⟨rfl, rfl, rfl, trivial⟩ (List.Perm.refl _) ?_
   refine C_loop (fun n H' M' L' => ∃ l176 : List U32, ∃ l179 : (List U32), ∃ v174 : Value, ∃ xs175 : List Value, ∃ v178 : Value, loopF (fun s183 n => m_large_Int_Text_b1 p0_a s183.1 s183.2 n) n (l176, l179) = some r ∧ Rw H' v174 xs175 l176 ∧ RdS H' v178 l179 ∧ H.le H' ∧ .row v174 81 (Rep.sz U32) l176.length xs175 :: .obj b101 (.cells [.bool (p0_a.minus), v0].toArray 48 (0, 0)) :: M = M' ∧ [(1, .pointer (some ⟨b101, 0, none⟩)), (4, v174), (5, v178)] = L') FUEL ⟨([] : List U32), p0_a.words, (.slice none 0 0), ([]), v0, hm, Rw.nil, h0, (Hp.le_refl _), rfl, rfl⟩ ?_
   rintro n186 H181 _ _ ⟨l176, l179, v174, xs175, v178, hm, hr177, h180, hle182, rfl, rfl⟩
   cases n186 with
   | zero => cases hm
   | succ n186 =>
    have hm : m_large_Int_Text_b1 p0_a l176 l179 (loopF (fun s183 n => m_large_Int_Text_b1 p0_a s183.1 s183.2 n) n186) = some r := hm
    generalize hn185 : loopF (fun s183 n => m_large_Int_Text_b1 p0_a s183.1 s183.2 n) n186 = nx184 at hm
    unfold m_large_Int_Text_b1 at hm
    refine C_seq (C_seq (C_region ?_))
    refine W_move rfl rfl rfl ?_
    refine W_lenR rfl rfl runUnderlying46 rfl h180 ?_
    refine W_bin rfl rfl rfl rfl rfl ?_
    refine W_end (E_then ?_)
    refine C_cond (b := decide (0 < (l179.length : Int))) rfl (fun hb192 => ?_) (fun hb192 => ?_)
    ·have hm := ite_t' hb192 hm
     refine C_skip (E_then (C_block (C_seq (C_region ?_))))
     refine W_move rfl rfl rfl ?_
     obtain ⟨r193, hc194, hm⟩ := bind_some hm
     refine W_call call68 rfl rfl rfl (fun w ht => by have h := m_large_shortDiv_c (hm := hc194) h180 ht; exact h) ?_
     rintro _ _ _ ⟨rfl, v195, xs196, rfl, rfl, h197⟩
     have h197 := h197 H181
     refine W_move rfl rfl rfl ?_
     refine W_extract rfl rfl rfl rfl ?_
     refine W_extract rfl rfl rfl rfl ?_
     refine W_assign rfl rfl rfl ?_
     refine W_assign rfl rfl rfl ?_
     refine W_end (E_then (C_seq (C_region ?_)))
     refine W_move rfl rfl rfl ?_
     refine W_move rfl rfl rfl ?_
     refine W_buildSlice (α := U32) (css := [[.int .u32 (r193.2)]]) (zs := [.int .u32 (0)]) (out := [.int .u32 (r193.2)]) (ys := ([⟨r193.2⟩] : List U32)) rfl rfl rfl ⟨rfl, trivial⟩ runUnderlying46 sizeOf81 rfl zeroValue81 (by kernel_rfl) rfl rfl rfl rfl ⟨[.int .u32 (r193.2)], [], rfl, rfl, rfl⟩ rfl ?_
     intro b198 v199 H200 hv201 hle202 h203
     have hc204 : Value.cap' v199 = ([⟨r193.2⟩] : List U32).length := by rw [hv201]; rfl
     obtain ⟨hz205, hm⟩ := need_some hm
     refine W_perm (List.Perm.swap _ _ _) ?_
     refine W_appendO (α := U32) (l := l176) (ys := ([⟨r193.2⟩] : List U32)) rfl rfl underlying46 ⟨_, rfl, rfl, rfl, rfl⟩ rfl rfl rfl rfl rfl (hr177.mono hle202) h203 hz205 ?_
     intro v206 xs207 hr208
     refine W_assign rfl rfl rfl ?_
     refine W_end (E_then (C_region ?_))
     refine W_move rfl rfl rfl ?_
     refine W_perm (List.Perm.swap _ _ _) ?_
     refine W_freeze ((h197.mono hle202)).rd rfl (fun H209 hle210 h211 => ?_)
     obtain ⟨r212, hc213, hm⟩ := bind_some hm
     refine W_call call55 rfl rfl rfl (fun w ht => by have h := m_large_norm_c (hm := hc213) h211 ht; exact h) ?_
     rintro _ H216 _ ⟨hle217, v214, rfl, rfl, h215⟩
     refine W_fieldV rfl rfl runUnderlying48 rfl isAgg46 rfl rfl ?_
     refine W_assign rfl rfl rfl ?_
     refine W_end (E_normal_block ?_)
     exact E_keepJ (E_back (Nat.lt_succ_self _) ⟨(l176 ++ ([⟨r193.2⟩] : List U32)), r212.words, v206, xs207, v214, (by rw [hn185]; exact hm), ((hr208.mono hle210).mono hle217), h215, (Hp.le_trans (Hp.le_trans (Hp.le_trans hle182 hle202) hle210) hle217), rfl, rfl⟩) (List.Perm.refl _) ⟨rfl, rfl, rfl, trivial⟩
    ·have hm := ite_f' hb192 hm
     refine C_exit (E_exit_then (E_exit_then (E_exit_hit (E_then (C_seq (C_region ?_))))))
     refine W_alloc (cs := [.pointer none, .slice none 0 0]) rfl rfl zeroValue106 rfl (fun b218 => ?_)
     refine W_end (E_then (C_seq (C_seq (C_region ?_))))
     refine W_move rfl rfl rfl ?_
     refine W_lenO (List.mem_cons_of_mem _ (List.mem_cons_self ..)) rfl rfl runUnderlying46 rfl ?_
     refine W_bin rfl rfl rfl rfl rfl ?_
     refine W_assign rfl rfl rfl ?_
     refine W_end (E_then (C_block ?_))
     refine C_nilRow 5 (Rep.sz U8) ?_
     refine C_keep (L' := [(1, .pointer (some ⟨b101, 0, none⟩)), (4, v174), (8, .pointer (some ⟨b218, 0, none⟩)), (9, .int .i64 (IntKind.i64.wrap ((l176.length : Int) - 1)))]) ⟨rfl, rfl, rfl, rfl, trivial⟩ (List.Perm.refl _) ?_
     refine C_loop (fun n H' M' L' => ∃ n291 : Int, ∃ l296 : List U8, ∃ v292 : Value, ∃ v294 : Value, ∃ xs295 : List Value, loopF (fun s300 n => m_large_Int_Text_b4 p0_a l176 s300.1 s300.2 n) n (n291, l296) = some r ∧ BAd b218 v292 ∧ Rw H' v294 xs295 l296 ∧ H181.le H' ∧ .row v294 5 (Rep.sz U8) l296.length xs295 :: .obj b218 (.cells [v292, v294].toArray 106 (0, 0)) :: .row v174 81 (Rep.sz U32) l176.length xs175 :: .obj b101 (.cells [.bool (p0_a.minus), v0].toArray 48 (0, 0)) :: M = M' ∧ [(1, .pointer (some ⟨b101, 0, none⟩)), (4, v174), (8, .pointer (some ⟨b218, 0, none⟩)), (9, .int .i64 (n291))] = L') FUEL ⟨IntKind.i64.wrap ((l176.length : Int) - 1), ([] : List U8), (.pointer none), (.slice none 0 0), ([]), hm, (.inl rfl), Rw.nil, (Hp.le_refl _), rfl, rfl⟩ ?_
     rintro n303 H298 _ _ ⟨n291, l296, v292, v294, xs295, hm, hb293, hr297, hle299, rfl, rfl⟩
     cases n303 with
     | zero => cases hm
     | succ n303 =>
      have hm : m_large_Int_Text_b4 p0_a l176 n291 l296 (loopF (fun s300 n => m_large_Int_Text_b4 p0_a l176 s300.1 s300.2 n) n303) = some r := hm
      generalize hn302 : loopF (fun s300 n => m_large_Int_Text_b4 p0_a l176 s300.1 s300.2 n) n303 = nx301 at hm
      unfold m_large_Int_Text_b4 at hm
      refine C_seq (C_seq (C_region ?_))
      refine W_move rfl rfl rfl ?_
      refine W_bin rfl rfl rfl rfl rfl ?_
      refine W_end (E_then ?_)
      refine C_cond (b := decide (0 ≤ n291)) rfl (fun hb309 => ?_) (fun hb309 => ?_)
      ·have hm := ite_t' hb309 hm
       refine C_skip (E_then (C_seq (C_block (C_seq (C_region ?_)))))
       refine W_move rfl rfl rfl ?_
       refine W_move rfl rfl rfl ?_
       obtain ⟨y310, h311, he312, hm⟩ := idx_some hm
       refine W_indexO (List.mem_cons_of_mem _ (List.mem_cons_of_mem _ (List.mem_cons_self ..))) rfl rfl runUnderlying46 sizeOf81 rfl rfl h311 (List.getElem?_eq_some_iff.1 he312).1 ?_
       obtain ⟨_, rfl, hg313⟩ := (hr177).elem he312
       refine W_load rfl rfl isAgg81 rfl (row_one0 (List.mem_cons_of_mem _ (List.mem_cons_of_mem _ (List.mem_cons_self ..))) hg313 rfl) ?_
       refine W_convInt rfl rfl runUnderlying81 runUnderlying85 rfl ?_
       obtain ⟨hz314, hm⟩ := need_some hm
       refine W_call call69 rfl rfl rfl (fun w ht => by have h := fuo69_c hz314 ht; exact h) ?_
       rintro _ _ _ ⟨rfl, rfl, rfl⟩
       refine W_assign rfl rfl rfl ?_
       refine W_end (E_then ?_)
       refine C_seq_join (fun H' M' L' => ∃ l325 : List U8, ∃ v321 : Value, ∃ v323 : Value, ∃ xs324 : List Value, m_large_Int_Text_b5 n291 nx301 y310 l325 = some r ∧ BAd b218 v321 ∧ Rw H' v323 xs324 l325 ∧ H298 = H' ∧ .row v323 5 (Rep.sz U8) l325.length xs324 :: .obj b218 (.cells [v321, v323].toArray 106 (0, 0)) :: .row v174 81 (Rep.sz U32) l176.length xs175 :: .obj b101 (.cells [.bool (p0_a.minus), v0].toArray 48 (0, 0)) :: M = M' ∧ [(1, .pointer (some ⟨b101, 0, none⟩)), (4, v174), (8, .pointer (some ⟨b218, 0, none⟩)), (9, .int .i64 (n291)), (10, .string (itoaB (IntKind.u64.wrap (y310.n))))] = L') ?_ (fun J327 => ?_)
       ·rintro _ _ _ ⟨l325, v321, v323, xs324, hm, hb322, hr326, rfl, rfl, rfl⟩
        unfold m_large_Int_Text_b5 at hm
        refine C_region ?_
        refine W_move rfl rfl rfl ?_
        obtain ⟨hz328, hm⟩ := need_some hm
        refine W_perm (List.Perm.swap _ _ _) ?_
        refine W_call call70 rfl rfl rfl (fun w ht => by have h := bws70_c (l := l325) hb322 hr326 hz328 ht; exact h) ?_
        rintro _ _ _ ⟨rfl, v329, xs330, rfl, rfl, hr331⟩
        have hr331 := hr331 H298
        refine W_end (E_normal_block (E_then (C_region ?_)))
        refine W_move rfl rfl rfl ?_
        refine W_bin rfl rfl rfl rfl rfl ?_
        refine W_assign rfl rfl rfl ?_
        refine W_end ?_
        exact E_keepJ (E_back (Nat.lt_succ_self _) ⟨IntKind.i64.wrap (n291 - 1), (l325 ++ bytesL (itoaB (IntKind.u64.wrap (y310.n)))), (.pointer (some ⟨b218, 0, none⟩)), v329, xs330, (by rw [hn302]; exact hm), (.inr rfl), hr331, hle299, rfl, rfl⟩) (List.Perm.swap _ _ _) ⟨rfl, rfl, rfl, rfl, trivial⟩
       ·refine C_seq (C_region ?_)
        refine W_move rfl rfl rfl ?_
        refine W_move rfl rfl rfl ?_
        refine W_lenO (List.mem_cons_of_mem _ (List.mem_cons_of_mem _ (List.mem_cons_self ..))) rfl rfl runUnderlying46 rfl ?_
        refine W_bin rfl rfl rfl rfl rfl ?_
        refine W_bin rfl rfl rfl rfl rfl ?_
        refine W_end (E_then ?_)
        refine C_cond (b := decide (n291 < (IntKind.i64.wrap ((l176.length : Int) - 1)))) rfl (fun hb332 => ?_) (fun hb332 => ?_)
        ·have hm := ite_t' hb332 hm
         refine C_region ?_
         refine W_move rfl rfl rfl ?_
         refine W_lenStr rfl rfl runUnderlying9 rfl ?_
         obtain ⟨hz333, hm⟩ := need_some hm
         refine W_sliceStr (l := (((itoaB (IntKind.u64.wrap (y310.n))).size : Int) : Int).toNat) (h := (⟨#[48, 48, 48, 48, 48, 48, 48, 48, 48]⟩ : ByteArray).size) rfl rfl runUnderlying9 rfl (.inl ⟨rfl, rfl⟩) (.inr ⟨_, _, _, rfl, rfl, by omega, by omega, rfl⟩) ?_
         obtain ⟨hz334, hm⟩ := need_some hm
         refine W_perm (List.Perm.swap _ _ _) ?_
         refine W_call call70 rfl rfl rfl (fun w ht => by have h := bws70_c (l := l296) hb293 hr297 hz334 ht; exact h) ?_
         rintro _ _ _ ⟨rfl, v335, xs336, rfl, rfl, hr337⟩
         have hr337 := hr337 H298
         refine W_end ?_
         exact E_keepJ (J327 _ _ _ ⟨(l296 ++ bytesL ((⟨#[48, 48, 48, 48, 48, 48, 48, 48, 48]⟩ : ByteArray).extract ((((itoaB (IntKind.u64.wrap (y310.n))).size : Int) : Int).toNat) ((⟨#[48, 48, 48, 48, 48, 48, 48, 48, 48]⟩ : ByteArray).size))), (.pointer (some ⟨b218, 0, none⟩)), v335, xs336, hm, (.inr rfl), hr337, rfl, rfl, rfl⟩) (List.Perm.swap _ _ _) ⟨rfl, rfl, rfl, rfl, rfl, trivial⟩
        ·have hm := ite_f' hb332 hm
         refine C_skip ?_
         exact E_keepJ (J327 _ _ _ ⟨l296, v292, v294, xs295, hm, hb293, hr297, rfl, rfl, rfl⟩) (List.Perm.refl _) ⟨rfl, rfl, rfl, rfl, rfl, trivial⟩
      ·have hm := ite_f' hb309 hm
       refine C_exit (E_exit_then (E_exit_then (E_exit_hit (E_then (C_seq (C_region ?_))))))
       obtain ⟨hz338, hm⟩ := need_some hm
       refine W_call call71 rfl rfl rfl (fun w ht => by have h := bst71_c (l := l296) hr297 hz338 ht; exact h) ?_
       rintro _ _ _ ⟨rfl, rfl, rfl⟩
       refine W_assign rfl rfl rfl ?_
       refine W_end (E_then (C_seq (C_region ?_)))
       refine W_move rfl rfl rfl ?_
       refine W_lenStr rfl rfl runUnderlying9 rfl ?_
       refine W_bin rfl rfl rfl rfl rfl ?_
       refine W_assign rfl rfl rfl ?_
       refine W_end (E_then ?_)
       refine C_seq_join (fun H' M' L' => ∃ s341 : ByteArray, m_large_Int_Text_b6 l296 s341 = some r ∧ H298 = H' ∧ M = M' ∧ [(11, .string (s341)), (12, .bool (decide (((bstr l296).size : Int) ≤ 2000)))] = L') ?_ (fun J342 => ?_)
       ·rintro _ _ _ ⟨s341, hm, rfl, rfl, rfl⟩
        unfold m_large_Int_Text_b6 at hm
        refine C_seq (C_region ?_)
        refine W_move rfl rfl rfl ?_
        refine W_move rfl rfl rfl ?_
        refine W_assign rfl rfl rfl ?_
        refine W_assign rfl rfl rfl ?_
        refine W_end (E_then (C_ret ?_))
        obtain rfl := Option.some.inj hm
        refine E_weak (Hp.le_trans hle182 hle299) ?_
        exact end2 rfl rfl rfl ⟨rfl, rfl, rfl⟩
       ·refine C_seq (C_region ?_)
        refine W_field (o := 0) rfl rfl runUnderlying48 rfl sizeOf4 rfl rfl rfl ?_
        refine W_load rfl rfl isAgg4 rfl (own_at (List.mem_cons_of_mem _ (List.mem_cons_self ..)) rfl) ?_
        refine W_end (E_then ?_)
        refine C_cond (b := p0_a.minus) rfl (fun hb343 => ?_) (fun hb343 => ?_)
        ·have hm := ite_t' hb343 hm
         refine C_region ?_
         refine W_move rfl rfl rfl ?_
         obtain ⟨hq344, hm⟩ := need_some hm
         refine W_addStr rfl rfl rfl rfl hq344 ?_
         refine W_assign rfl rfl rfl ?_
         refine W_end ?_
         refine E_drop (List.Sublist.cons _ (List.Sublist.cons _ (List.Sublist.refl _))) ?_
         exact E_keepJ (J342 _ _ _ ⟨(⟨#[45]⟩ : ByteArray) ++ (bstr l296), hm, rfl, rfl, rfl⟩) (List.Perm.refl _) ⟨rfl, rfl, trivial⟩
        ·have hm := ite_f' hb343 hm
         refine C_skip ?_
         refine E_drop (List.Sublist.cons _ (List.Sublist.cons _ (List.Sublist.refl _))) ?_
         exact E_keepJ (J342 _ _ _ ⟨bstr l296, hm, rfl, rfl, rfl⟩) (List.Perm.refl _) ⟨rfl, rfl, trivial⟩

theorem m_large_Rat_Text_c {B : Nat} {w0 w : World} [Tabs B w0] {H : Hp} {M : List Res} {p0_a : S_large_Rat} {v0 : Value} {v1 : Value} {r : ByteArray × Bool} (hm : m_large_Rat_Text p0_a = some r) (h0 : RdS H v0 p0_a.N.words) (h1 : RdS H v1 p0_a.D.words) (ht : St B w0 H (M) w) :
  Calls prog 39 [.agg [.bool (p0_a.N.minus), v0, .bool (p0_a.D.minus), v1].toArray].toArray w (Ret B w0 fun H' M' v => H = H' ∧ M = M' ∧ .tuple #[.string (r.1), .bool (r.2)] = v) := by
 unfold m_large_Rat_Text at hm
 refine enter func39 rfl rfl rfl ht ?_
 refine C_seq (C_region ?_)
 refine W_box (cs := [.bool (p0_a.N.minus), v0, .bool (p0_a.D.minus), v1]) rfl rfl rfl rfl (fun b101 => ?_)
 refine W_assign rfl rfl rfl ?_
 refine W_assign rfl rfl rfl ?_
 refine W_end (E_then (C_seq (C_region ?_)))
 refine W_field (o := 0) rfl rfl runUnderlying50 rfl sizeOf48 rfl rfl rfl ?_
 refine W_loadAgg (cs := [.bool (p0_a.N.minus), v0]) rfl rfl isAgg48 sizeOf48 rfl (own_part (List.mem_cons_self ..) rfl) rfl ?_
 obtain ⟨r102, hc103, hm⟩ := bind_some hm
 refine W_call call51 rfl rfl rfl (fun w ht => by have h := m_large_Int_Text_c (hm := hc103) h0 ht; exact h) ?_
 rintro _ _ _ ⟨rfl, rfl, rfl⟩
 refine W_move rfl rfl rfl ?_
 refine W_extract rfl rfl rfl rfl ?_
 refine W_extract rfl rfl rfl rfl ?_
 refine W_assign rfl rfl rfl ?_
 refine W_assign rfl rfl rfl ?_
 refine W_end (E_then (C_seq (C_seq (C_region ?_))))
 refine W_move rfl rfl rfl ?_
 refine W_un rfl rfl rfl rfl ?_
 refine W_end (E_then ?_)
 refine C_cond (b := !r102.2) rfl (fun hb104 => ?_) (fun hb104 => ?_)
 ·have hm := ite_t' hb104 hm
  refine C_seq (C_region ?_)
  refine W_assign rfl rfl rfl ?_
  refine W_assign rfl rfl rfl ?_
  refine W_end (E_then (C_ret (E_ret_then ?_)))
  obtain rfl := Option.some.inj hm
  refine E_drop (List.Sublist.cons _ (List.Sublist.refl _)) ?_
  refine E_weak (Hp.le_refl _) ?_
  exact end2 rfl rfl rfl ⟨rfl, rfl, rfl⟩
 ·have hm := ite_f' hb104 hm
  refine C_skip (E_then (C_seq (C_region ?_)))
  refine W_field (o := 2) rfl rfl runUnderlying50 rfl sizeOf48 rfl rfl rfl ?_
  refine W_loadAgg (cs := [.bool (p0_a.D.minus), v1]) rfl rfl isAgg48 sizeOf48 rfl (own_part (List.mem_cons_self ..) rfl) rfl ?_
  obtain ⟨r105, hc106, hm⟩ := bind_some hm
  refine W_call call51 rfl rfl rfl (fun w ht => by have h := m_large_Int_Text_c (hm := hc106) h1 ht; exact h) ?_
  rintro _ _ _ ⟨rfl, rfl, rfl⟩
  refine W_move rfl rfl rfl ?_
  refine W_extract rfl rfl rfl rfl ?_
  refine W_extract rfl rfl rfl rfl ?_
  refine W_assign rfl rfl rfl ?_
  refine W_assign rfl rfl rfl ?_
  refine W_end (E_then (C_seq (C_seq (C_region ?_))))
  refine W_move rfl rfl rfl ?_
  refine W_bin rfl rfl rfl rfl rfl ?_
  refine W_end (E_then ?_)
  refine C_cond (b := decide (r105.1 = (⟨#[49]⟩))) rfl (fun hb107 => ?_) (fun hb107 => ?_)
  ·have hm := ite_t' hb107 hm
   refine C_seq (C_region ?_)
   refine W_move rfl rfl rfl ?_
   refine W_move rfl rfl rfl ?_
   refine W_assign rfl rfl rfl ?_
   refine W_assign rfl rfl rfl ?_
   refine W_end (E_then (C_ret (E_ret_then ?_)))
   obtain rfl := Option.some.inj hm
   refine E_drop (List.Sublist.cons _ (List.Sublist.refl _)) ?_
   refine E_weak (Hp.le_refl _) ?_
   exact end2 rfl rfl rfl ⟨rfl, rfl, rfl⟩
  ·have hm := ite_f' hb107 hm
   refine C_skip (E_then (C_seq (C_region ?_)))
   refine W_move rfl rfl rfl ?_
   obtain ⟨hq108, hm⟩ := need_some hm
   refine W_addStr rfl rfl rfl rfl hq108 ?_
   refine W_move rfl rfl rfl ?_
   obtain ⟨hq109, hm⟩ := need_some hm
   refine W_addStr rfl rfl rfl rfl hq109 ?_
   refine W_move rfl rfl rfl ?_
   refine W_assign rfl rfl rfl ?_
   refine W_assign rfl rfl rfl ?_
   refine W_end (E_then (C_ret ?_))
   obtain rfl := Option.some.inj hm
   refine E_drop (List.Sublist.cons _ (List.Sublist.refl _)) ?_
   refine E_weak (Hp.le_refl _) ?_
   exact end2 rfl rfl rfl ⟨rfl, rfl, rfl⟩

theorem m_rat_text_c {B : Nat} {w0 w : World} [Tabs B w0] {H : Hp} {M : List Res} {p0_a : S_large_Rat} {v0 : Value} {v1 : Value} {r : ByteArray × Int} (hm : m_rat_text p0_a = some r) (h0 : RdS H v0 p0_a.N.words) (h1 : RdS H v1 p0_a.D.words) (ht : St B w0 H (M) w) :
  Calls prog 23 [.agg [.bool (p0_a.N.minus), v0, .bool (p0_a.D.minus), v1].toArray].toArray w (Ret B w0 fun H' M' v => H = H' ∧ M = M' ∧ .tuple #[.string (r.1), .int .i64 (r.2)] = v) := by
 unfold m_rat_text at hm
 refine enter func23 rfl rfl rfl ht ?_
 refine C_seq (C_region ?_)
 refine W_box (cs := [.bool (p0_a.N.minus), v0, .bool (p0_a.D.minus), v1]) rfl rfl rfl rfl (fun b101 => ?_)
 refine W_assign rfl rfl rfl ?_
 refine W_assign rfl rfl rfl ?_
 refine W_end (E_then (C_seq (C_region ?_)))
 refine W_loadAgg rfl rfl isAgg50 sizeOf50 rfl (own_all (List.mem_cons_self ..)) rfl ?_
 obtain ⟨r102, hc103, hm⟩ := bind_some hm
 refine W_call call39 rfl rfl rfl (fun w ht => by have h := m_large_Rat_Text_c (hm := hc103) h0 h1 ht; exact h) ?_
 rintro _ _ _ ⟨rfl, rfl, rfl⟩
 refine W_move rfl rfl rfl ?_
 refine W_extract rfl rfl rfl rfl ?_
 refine W_extract rfl rfl rfl rfl ?_
 refine W_assign rfl rfl rfl ?_
 refine W_assign rfl rfl rfl ?_
 refine W_end (E_then (C_seq (C_seq (C_region ?_))))
 refine W_move rfl rfl rfl ?_
 refine W_un rfl rfl rfl rfl ?_
 refine W_end (E_then ?_)
 refine C_cond (b := !r102.2) rfl (fun hb104 => ?_) (fun hb104 => ?_)
 ·have hm := ite_t' hb104 hm
  refine C_seq (C_region ?_)
  refine W_assign rfl rfl rfl ?_
  refine W_assign rfl rfl rfl ?_
  refine W_end (E_then (C_ret (E_ret_then ?_)))
  obtain rfl := Option.some.inj hm
  refine E_drop (List.Sublist.cons _ (List.Sublist.refl _)) ?_
  refine E_weak (Hp.le_refl _) ?_
  exact end2 rfl rfl rfl ⟨rfl, rfl, rfl⟩
 ·have hm := ite_f' hb104 hm
  refine C_skip (E_then (C_seq (C_region ?_)))
  refine W_move rfl rfl rfl ?_
  refine W_assign rfl rfl rfl ?_
  refine W_assign rfl rfl rfl ?_
  refine W_end (E_then (C_ret ?_))
  obtain rfl := Option.some.inj hm
  refine E_drop (List.Sublist.cons _ (List.Sublist.refl _)) ?_
  refine E_weak (Hp.le_refl _) ?_
  exact end2 rfl rfl rfl ⟨rfl, rfl, rfl⟩

theorem m_rat_Of_c {B : Nat} {w0 w : World} [Tabs B w0] {H : Hp} {M : List Res} {p0_n : Int} {p1_d : Int} {r : ByteArray × Int} (hm : m_rat_Of p0_n p1_d = some r) (ht : St B w0 H (M) w) :
  Calls prog 9 [.int .i64 (p0_n), .int .i64 (p1_d)].toArray w (Ret B w0 fun H' M' v => H = H' ∧ M = M' ∧ .tuple #[.string (r.1), .int .i64 (r.2)] = v) := by
 unfold m_rat_Of at hm
 refine enter func9 rfl rfl rfl ht ?_
 refine C_seq (C_region ?_)
 refine W_assign rfl rfl rfl ?_
 refine W_assign rfl rfl rfl ?_
 refine W_end (E_then (C_seq (C_seq (C_region ?_))))
 refine W_move rfl rfl rfl ?_
 refine W_bin rfl rfl rfl rfl rfl ?_
 refine W_end (E_then ?_)
 refine C_cond (b := decide (p1_d = 0)) rfl (fun hb101 => ?_) (fun hb101 => ?_)
 ·have hm := ite_t' hb101 hm
  refine C_seq (C_region ?_)
  refine W_assign rfl rfl rfl ?_
  refine W_assign rfl rfl rfl ?_
  refine W_end (E_then (C_ret (E_ret_then ?_)))
  obtain rfl := Option.some.inj hm
  refine E_weak (Hp.le_refl _) ?_
  exact end2 rfl rfl rfl ⟨rfl, rfl, rfl⟩
 ·have hm := ite_f' hb101 hm
  refine C_skip (E_then (C_seq (C_region ?_)))
  refine W_move rfl rfl rfl ?_
  refine W_move rfl rfl rfl ?_
  obtain ⟨r102, hc103, hm⟩ := bind_some hm
  refine W_call call24 rfl rfl rfl (fun w ht => by have h := m_large_Frac_c (hm := hc103)  ht; exact h) ?_
  rintro _ H108 _ ⟨hle109, v104, v106, rfl, rfl, h105, h107⟩
  obtain ⟨r110, hc111, hm⟩ := bind_some hm
  refine W_call call23 rfl rfl rfl (fun w ht => by have h := m_rat_text_c (hm := hc111) h105 h107 ht; exact h) ?_
  rintro _ _ _ ⟨rfl, rfl, rfl⟩
  refine W_extract rfl rfl rfl rfl ?_
  refine W_extract rfl rfl rfl rfl ?_
  refine W_assign rfl rfl rfl ?_
  refine W_assign rfl rfl rfl ?_
  refine W_end (E_then (C_ret ?_))
  obtain rfl := Option.some.inj hm
  refine E_weak hle109 ?_
  exact end2 rfl rfl rfl ⟨rfl, rfl, rfl⟩

theorem m_forecast_Check_1_c {B : Nat} {w0 w : World} [Tabs B w0] {H : Hp} {M : List Res} {p0_n : Int} {r : Bool} (hm : m_forecast_Check_1 p0_n = r) (ht : St B w0 H (M) w) :
  Calls prog 43 [.int .i64 (p0_n)].toArray w (Ret B w0 fun H' M' v => H = H' ∧ M = M' ∧ .bool (r) = v) := by
 unfold m_forecast_Check_1 at hm
 refine enter func43 rfl rfl rfl ht ?_
 refine C_seq (C_region ?_)
 refine W_assign rfl rfl rfl ?_
 refine W_end (E_then ?_)
 refine C_seq_join (fun H' M' L' => H = H' ∧ M = M' ∧ [(2, .bool ((decide (p0_n < (-100000))) || (decide (100000 < p0_n))))] = L') ?_ (fun J102 => ?_)
 ·rintro _ _ _ ⟨rfl, rfl, rfl⟩
  refine C_ret ?_
  obtain rfl := hm
  refine E_weak (Hp.le_refl _) ?_
  exact end1 rfl rfl ⟨rfl, rfl, rfl⟩
 ·refine C_region ?_
  refine W_move rfl rfl rfl ?_
  refine W_bin rfl rfl rfl rfl rfl ?_
  refine W_move rfl rfl rfl ?_
  cases hb103 : (decide (p0_n < (-100000)))
  ·refine W_move rfl rfl rfl ?_
   refine W_bin rfl rfl rfl rfl rfl ?_
   refine W_pick rfl rfl rfl rfl ?_
   refine W_assign rfl rfl rfl ?_
   refine W_end ?_
   exact E_keepJ (J102 _ _ _ ⟨rfl, rfl, rfl⟩) (List.Perm.refl _) ⟨(by show some (Value.bool (decide (100000 < p0_n))) = some (Value.bool ((decide (p0_n < (-100000))) || (decide (100000 < p0_n)))); first | (simp only [hb103, Bool.and_true, Bool.true_and, Bool.false_and, Bool.and_false, Bool.or_true, Bool.true_or, Bool.or_false, Bool.false_or, Bool.not_true, Bool.not_false]; done) | (simp only [hb103]; first | done | simp only [Bool.and_true, Bool.true_and, Bool.false_and, Bool.and_false, Bool.or_true, Bool.true_or, Bool.or_false, Bool.false_or, Bool.not_true, Bool.not_false])), trivial⟩
  ·refine W_no rfl rfl rfl ?_
   refine W_no rfl rfl rfl ?_
   refine W_pick rfl rfl rfl rfl ?_
   refine W_assign rfl rfl rfl ?_
   refine W_end ?_
   exact E_keepJ (J102 _ _ _ ⟨rfl, rfl, rfl⟩) (List.Perm.refl _) ⟨(by show some (Value.bool (true)) = some (Value.bool ((decide (p0_n < (-100000))) || (decide (100000 < p0_n)))); first | (simp only [hb103, Bool.and_true, Bool.true_and, Bool.false_and, Bool.and_false, Bool.or_true, Bool.true_or, Bool.or_false, Bool.false_or, Bool.not_true, Bool.not_false]; done) | (simp only [hb103]; first | done | simp only [Bool.and_true, Bool.true_and, Bool.false_and, Bool.and_false, Bool.or_true, Bool.true_or, Bool.or_false, Bool.false_or, Bool.not_true, Bool.not_false])), trivial⟩

theorem m_slices_IndexFunc_int_int__forecast_Check_1_c {B : Nat} {w0 w : World} [Tabs B w0] {H : Hp} {M : List Res} {p0_s : (List Int)} {v0 : Value} {r : Int} (hm : m_slices_IndexFunc_int_int__forecast_Check_1 p0_s = some r) (h0 : RdS H v0 p0_s) (ht : St B w0 H (M) w) :
  Calls prog 56 [v0, .func (.func 43) [].toArray [].toArray].toArray w (Ret B w0 fun H' M' v => H = H' ∧ M = M' ∧ .int .i64 (r) = v) := by
 unfold m_slices_IndexFunc_int_int__forecast_Check_1 at hm
 refine enter func56 rfl rfl rfl ht ?_
 refine C_seq (C_region ?_)
 refine W_assign rfl rfl rfl ?_
 refine W_end (E_then (C_seq (C_seq (C_region ?_))))
 refine W_move rfl rfl rfl ?_
 refine W_lenR rfl rfl runUnderlying22 rfl h0 ?_
 refine W_move rfl rfl rfl ?_
 refine W_end (E_then (C_block ?_))
 refine C_keep (L' := [(0, v0), (1, .func (.func 43) [].toArray [].toArray), (7, .int .i64 ((p0_s.length : Int))), (8, .int .i64 (((0 : Nat) : Int)))]) ⟨rfl, rfl, rfl, rfl, trivial⟩ (List.Perm.refl _) ?_
 refine C_loop (fun n H' M' L' => ∃ (k101 : Nat) (zs119' : Nat), k101 + zs119' = ((p0_s.length : Int) : Int).toNat ∧ zs119' = n ∧ forN (fun k s114 n => m_slices_IndexFunc_int_int__forecast_Check_1_b1 p0_s k n) (fun _ => some (-1)) zs119' k101 () = some r ∧ H.le H' ∧ M = M' ∧ [(0, v0), (1, .func (.func 43) [].toArray [].toArray), (7, .int .i64 ((p0_s.length : Int))), (8, .int .i64 ((k101 : Int)))] = L') _ ⟨0, _, Nat.zero_add _, rfl, hm, (Hp.le_refl _), rfl, rfl⟩ ?_
 rintro _ H112 _ _ ⟨k101, zs119', hd121, rfl, hm, hle113, rfl, rfl⟩
 refine C_seq (C_region ?_)
 refine W_bin rfl rfl rfl rfl rfl ?_
 refine W_end (E_then (C_seq ?_))
 refine C_cond (b := decide ((k101 : Int) < (p0_s.length : Int))) rfl (fun hb123 => ?_) (fun hb123 => ?_)
 ·obtain ⟨zs119, rfl, hd122, hy120⟩ := rngN_t hd121 hb123
  have hm : m_slices_IndexFunc_int_int__forecast_Check_1_b1 p0_s k101 (forN (fun k s114 n => m_slices_IndexFunc_int_int__forecast_Check_1_b1 p0_s k n) (fun _ => some (-1)) zs119 (k101 + 1)) = some r := hm
  generalize hn116 : forN (fun k s114 n => m_slices_IndexFunc_int_int__forecast_Check_1_b1 p0_s k n) (fun _ => some (-1)) zs119 (k101 + 1) = nx115 at hm
  unfold m_slices_IndexFunc_int_int__forecast_Check_1_b1 at hm
  refine C_skip (E_then (C_seq (C_block (C_seq (C_region ?_)))))
  refine W_move rfl rfl rfl ?_
  refine W_assign rfl rfl rfl ?_
  refine W_end (E_then (C_seq (C_region ?_)))
  refine W_move rfl rfl rfl ?_
  refine W_move rfl rfl rfl ?_
  refine W_move rfl rfl rfl ?_
  obtain ⟨y124, h125, he126, hm⟩ := idx_some hm
  obtain ⟨_, rfl, hc127⟩ := (h0).elem he126
  refine W_indexS rfl rfl runUnderlying22 sizeOf3 rfl (h0.mono hle113) rfl h125 he126 ?_
  refine W_load rfl rfl isAgg3 rfl (HCells.one (hc127.mono hle113) 0 rfl).at ?_
  refine W_callv call43 rfl rfl rfl rfl (fun w ht => by have h := m_forecast_Check_1_c (hm := (rfl : m_forecast_Check_1 y124 = _))  ht; exact h) ?_
  rintro _ _ _ ⟨rfl, rfl, rfl⟩
  refine W_end (E_then ?_)
  refine C_cond (b := (m_forecast_Check_1 y124)) rfl (fun hb128 => ?_) (fun hb128 => ?_)
  ·have hm := ite_t' hb128 hm
   refine C_seq (C_region ?_)
   refine W_move rfl rfl rfl ?_
   refine W_assign rfl rfl rfl ?_
   refine W_end (E_then (C_ret (E_ret_block (E_ret_then (E_ret_then (E_ret_block (E_ret_then ?_)))))))
   obtain rfl := Option.some.inj hm
   refine E_weak hle113 ?_
   exact end1 rfl rfl ⟨rfl, rfl, rfl⟩
  ·have hm := ite_f' hb128 hm
   refine C_skip (E_normal_block (E_then (C_region ?_)))
   refine W_bin rfl rfl rfl rfl rfl ?_
   refine W_move rfl rfl rfl ?_
   refine W_end ?_
   exact E_keepJ (E_back (Nat.lt_succ_self _) ⟨k101 + 1, zs119, hd122, rfl, (by rw [hn116]; exact hm), hle113, rfl, rfl⟩) (List.Perm.refl _) ⟨rfl, rfl, rfl, (congrArg (fun z => some (Value.int .i64 z)) (i64_succN hy120 (toNat_max (len_max (h0).lenMax)))), trivial⟩
 ·obtain rfl := rngN_f hd121 hb123
  have hm : (some (-1)) = some r := hm
  refine C_exit (E_exit_then (E_exit_then (E_exit_hit (E_then (C_seq (C_region ?_))))))
  refine W_assign rfl rfl rfl ?_
  refine W_end (E_then (C_ret ?_))
  obtain rfl := Option.some.inj hm
  refine E_weak hle113 ?_
  exact end1 rfl rfl ⟨rfl, rfl, rfl⟩

theorem m_slices_ContainsFunc_int_int__forecast_Check_1_c {B : Nat} {w0 w : World} [Tabs B w0] {H : Hp} {M : List Res} {p0_s : (List Int)} {v0 : Value} {r : Bool} (hm : m_slices_ContainsFunc_int_int__forecast_Check_1 p0_s = some r) (h0 : RdS H v0 p0_s) (ht : St B w0 H (M) w) :
  Calls prog 42 [v0, .func (.func 43) [].toArray [].toArray].toArray w (Ret B w0 fun H' M' v => H = H' ∧ M = M' ∧ .bool (r) = v) := by
 unfold m_slices_ContainsFunc_int_int__forecast_Check_1 at hm
 refine enter func42 rfl rfl rfl ht ?_
 refine C_seq (C_region ?_)
 refine W_assign rfl rfl rfl ?_
 refine W_end (E_then (C_seq (C_region ?_)))
 refine W_move rfl rfl rfl ?_
 refine W_move rfl rfl rfl ?_
 obtain ⟨r101, hc102, hm⟩ := bind_some hm
 refine W_call call56 rfl rfl rfl (fun w ht => by have h := m_slices_IndexFunc_int_int__forecast_Check_1_c (hm := hc102) h0 ht; exact h) ?_
 rintro _ _ _ ⟨rfl, rfl, rfl⟩
 refine W_bin rfl rfl rfl rfl rfl ?_
 refine W_assign rfl rfl rfl ?_
 refine W_end (E_then (C_ret ?_))
 obtain rfl := Option.some.inj hm
 refine E_weak (Hp.le_refl _) ?_
 exact end1 rfl rfl ⟨rfl, rfl, rfl⟩

theorem m_forecast_Check_c {B : Nat} {w0 w : World} [Tabs B w0] {H : Hp} {M : List Res} {p0_l : (List Int)} {v0 : Value} {r : Int} (hm : m_forecast_Check p0_l = some r) (h0 : RdS H v0 p0_l) (ht : St B w0 H (M) w) :
  Calls prog 25 [v0].toArray w (Ret B w0 fun H' M' v => H = H' ∧ M = M' ∧ .int .i64 (r) = v) := by
 unfold m_forecast_Check at hm
 refine enter func25 rfl rfl rfl ht ?_
 refine C_seq (C_region ?_)
 refine W_assign rfl rfl rfl ?_
 refine W_end (E_then (C_seq (C_seq (C_region ?_))))
 refine W_move rfl rfl rfl ?_
 refine W_lenR rfl rfl runUnderlying22 rfl h0 ?_
 refine W_bin rfl rfl rfl rfl rfl ?_
 refine W_end (E_then ?_)
 refine C_cond (b := decide (48 < (p0_l.length : Int))) rfl (fun hb101 => ?_) (fun hb101 => ?_)
 ·have hm := ite_t' hb101 hm
  refine C_seq (C_region ?_)
  refine W_assign rfl rfl rfl ?_
  refine W_end (E_then (C_ret (E_ret_then ?_)))
  obtain rfl := Option.some.inj hm
  refine E_weak (Hp.le_refl _) ?_
  exact end1 rfl rfl ⟨rfl, rfl, rfl⟩
 ·have hm := ite_f' hb101 hm
  refine C_skip (E_then (C_seq (C_seq (C_region ?_))))
  refine W_move rfl rfl rfl ?_
  obtain ⟨r102, hc103, hm⟩ := bind_some hm
  refine W_call call42 rfl rfl rfl (fun w ht => by have h := m_slices_ContainsFunc_int_int__forecast_Check_1_c (hm := hc103) h0 ht; exact h) ?_
  rintro _ _ _ ⟨rfl, rfl, rfl⟩
  refine W_end (E_then ?_)
  refine C_cond (b := r102) rfl (fun hb104 => ?_) (fun hb104 => ?_)
  ·have hm := ite_t' hb104 hm
   refine C_seq (C_region ?_)
   refine W_assign rfl rfl rfl ?_
   refine W_end (E_then (C_ret (E_ret_then ?_)))
   obtain rfl := Option.some.inj hm
   refine E_weak (Hp.le_refl _) ?_
   exact end1 rfl rfl ⟨rfl, rfl, rfl⟩
  ·have hm := ite_f' hb104 hm
   refine C_skip (E_then (C_seq (C_region ?_)))
   refine W_assign rfl rfl rfl ?_
   refine W_end (E_then (C_ret ?_))
   obtain rfl := Option.some.inj hm
   refine E_weak (Hp.le_refl _) ?_
   exact end1 rfl rfl ⟨rfl, rfl, rfl⟩

theorem m_forecast_sum_c {B : Nat} {w0 w : World} [Tabs B w0] {H : Hp} {M : List Res} {p0_l : (List Int)} {v0 : Value} {r : Int} (hm : m_forecast_sum p0_l = some r) (h0 : RdS H v0 p0_l) (ht : St B w0 H (M) w) :
  Calls prog 27 [v0].toArray w (Ret B w0 fun H' M' v => H = H' ∧ M = M' ∧ .int .i64 (r) = v) := by
 unfold m_forecast_sum at hm
 refine enter func27 rfl rfl rfl ht ?_
 refine C_seq (C_region ?_)
 refine W_assign rfl rfl rfl ?_
 refine W_end (E_then (C_seq (C_region ?_)))
 refine W_assign rfl rfl rfl ?_
 refine W_end (E_then (C_seq (C_seq (C_region ?_))))
 refine W_move rfl rfl rfl ?_
 refine W_lenR rfl rfl runUnderlying22 rfl h0 ?_
 refine W_move rfl rfl rfl ?_
 refine W_end (E_then (C_block ?_))
 refine C_keep (L' := [(3, .int .i64 (0)), (6, v0), (7, .int .i64 ((p0_l.length : Int))), (8, .int .i64 (((0 : Nat) : Int)))]) ⟨rfl, rfl, rfl, rfl, trivial⟩ (List.Perm.refl _) ?_
 refine C_loop (fun n H' M' L' => ∃ (k101 : Nat) (zs114' : List Int), ∃ n106 : Int, (p0_l).drop k101 = zs114' ∧ zs114'.length = n ∧ forI (fun k y s109 n => m_forecast_sum_b1 k y s109 n) (fun s109 => some s109) k101 zs114' n106 = some r ∧ H.le H' ∧ M = M' ∧ [(3, .int .i64 (n106)), (6, v0), (7, .int .i64 ((p0_l.length : Int))), (8, .int .i64 ((k101 : Int)))] = L') _ ⟨0, _, 0, rfl, rfl, hm, (Hp.le_refl _), rfl, rfl⟩ ?_
 rintro _ H107 _ _ ⟨k101, zs114', n106, hd116, rfl, hm, hle108, rfl, rfl⟩
 refine C_seq (C_region ?_)
 refine W_bin rfl rfl rfl rfl rfl ?_
 refine W_end (E_then (C_seq ?_))
 refine C_cond (b := decide ((k101 : Int) < (p0_l.length : Int))) rfl (fun hb118 => ?_) (fun hb118 => ?_)
 ·obtain ⟨y113, zs114, rfl, hy115, hd117⟩ := rng_t hd116 hb118
  have hm : m_forecast_sum_b1 k101 y113 n106 (forI (fun k y s109 n => m_forecast_sum_b1 k y s109 n) (fun s109 => some s109) (k101 + 1) zs114) = some r := hm
  generalize hn111 : forI (fun k y s109 n => m_forecast_sum_b1 k y s109 n) (fun s109 => some s109) (k101 + 1) zs114 = nx110 at hm
  unfold m_forecast_sum_b1 at hm
  refine C_skip (E_then (C_seq (C_block (C_seq (C_region ?_)))))
  obtain ⟨_, rfl, hc119⟩ := (h0).elem hy115
  refine W_indexS rfl rfl runUnderlying22 sizeOf3 rfl (h0.mono hle108) rfl (Int.natCast_nonneg _) hy115 ?_
  refine W_load rfl rfl isAgg3 rfl (HCells.one (hc119.mono hle108) 0 rfl).at ?_
  refine W_assign rfl rfl rfl ?_
  refine W_end (E_then (C_region ?_))
  refine W_move rfl rfl rfl ?_
  refine W_move rfl rfl rfl ?_
  refine W_bin rfl rfl rfl rfl rfl ?_
  refine W_assign rfl rfl rfl ?_
  refine W_end (E_normal_block (E_then (C_region ?_)))
  refine W_bin rfl rfl rfl rfl rfl ?_
  refine W_move rfl rfl rfl ?_
  refine W_end ?_
  exact E_keepJ (E_back (Nat.lt_succ_self _) ⟨k101 + 1, zs114, IntKind.i64.wrap (n106 + y113), hd117, rfl, (by rw [hn111]; exact hm), hle108, rfl, rfl⟩) (List.Perm.refl _) ⟨rfl, rfl, rfl, (congrArg (fun z => some (Value.int .i64 z)) (i64_succ hy115 ((h0.mono hle108)).lenMax)), trivial⟩
 ·obtain rfl := rng_f hd116 hb118
  have hm : (some n106) = some r := hm
  refine C_exit (E_exit_then (E_exit_then (E_exit_hit (E_then (C_seq (C_region ?_))))))
  refine W_move rfl rfl rfl ?_
  refine W_assign rfl rfl rfl ?_
  refine W_end (E_then (C_ret ?_))
  obtain rfl := Option.some.inj hm
  refine E_weak hle108 ?_
  exact end1 rfl rfl ⟨rfl, rfl, rfl⟩

theorem m_forecast_text_c {B : Nat} {w0 w : World} [Tabs B w0] {H : Hp} {M : List Res} {p0_a : S_large_Rat} {v0 : Value} {v1 : Value} {r : ByteArray × Int} (hm : m_forecast_text p0_a = some r) (h0 : RdS H v0 p0_a.N.words) (h1 : RdS H v1 p0_a.D.words) (ht : St B w0 H (M) w) :
  Calls prog 26 [.agg [.bool (p0_a.N.minus), v0, .bool (p0_a.D.minus), v1].toArray].toArray w (Ret B w0 fun H' M' v => H = H' ∧ M = M' ∧ .tuple #[.string (r.1), .int .i64 (r.2)] = v) := by
 unfold m_forecast_text at hm
 refine enter func26 rfl rfl rfl ht ?_
 refine C_seq (C_region ?_)
 refine W_box (cs := [.bool (p0_a.N.minus), v0, .bool (p0_a.D.minus), v1]) rfl rfl rfl rfl (fun b101 => ?_)
 refine W_assign rfl rfl rfl ?_
 refine W_assign rfl rfl rfl ?_
 refine W_end (E_then (C_seq (C_region ?_)))
 refine W_loadAgg rfl rfl isAgg50 sizeOf50 rfl (own_all (List.mem_cons_self ..)) rfl ?_
 obtain ⟨r102, hc103, hm⟩ := bind_some hm
 refine W_call call39 rfl rfl rfl (fun w ht => by have h := m_large_Rat_Text_c (hm := hc103) h0 h1 ht; exact h) ?_
 rintro _ _ _ ⟨rfl, rfl, rfl⟩
 refine W_move rfl rfl rfl ?_
 refine W_extract rfl rfl rfl rfl ?_
 refine W_extract rfl rfl rfl rfl ?_
 refine W_assign rfl rfl rfl ?_
 refine W_assign rfl rfl rfl ?_
 refine W_end (E_then (C_seq (C_seq (C_region ?_))))
 refine W_move rfl rfl rfl ?_
 refine W_un rfl rfl rfl rfl ?_
 refine W_end (E_then ?_)
 refine C_cond (b := !r102.2) rfl (fun hb104 => ?_) (fun hb104 => ?_)
 ·have hm := ite_t' hb104 hm
  refine C_seq (C_region ?_)
  refine W_assign rfl rfl rfl ?_
  refine W_assign rfl rfl rfl ?_
  refine W_end (E_then (C_ret (E_ret_then ?_)))
  obtain rfl := Option.some.inj hm
  refine E_drop (List.Sublist.cons _ (List.Sublist.refl _)) ?_
  refine E_weak (Hp.le_refl _) ?_
  exact end2 rfl rfl rfl ⟨rfl, rfl, rfl⟩
 ·have hm := ite_f' hb104 hm
  refine C_skip (E_then (C_seq (C_region ?_)))
  refine W_move rfl rfl rfl ?_
  refine W_assign rfl rfl rfl ?_
  refine W_assign rfl rfl rfl ?_
  refine W_end (E_then (C_ret ?_))
  obtain rfl := Option.some.inj hm
  refine E_drop (List.Sublist.cons _ (List.Sublist.refl _)) ?_
  refine E_weak (Hp.le_refl _) ?_
  exact end2 rfl rfl rfl ⟨rfl, rfl, rfl⟩

theorem m_forecast_Mean_c {B : Nat} {w0 w : World} [Tabs B w0] {H : Hp} {M : List Res} {p0_l : (List Int)} {p1_k : Int} {v0 : Value} {r : ByteArray × Int} (hm : m_forecast_Mean p0_l p1_k = some r) (h0 : RdS H v0 p0_l) (ht : St B w0 H (M) w) :
  Calls prog 10 [v0, .int .i64 (p1_k)].toArray w (Ret B w0 fun H' M' v => H = H' ∧ M = M' ∧ .tuple #[.string (r.1), .int .i64 (r.2)] = v) := by
 unfold m_forecast_Mean at hm
 refine enter func10 rfl rfl rfl ht ?_
 refine C_seq (C_region ?_)
 refine W_assign rfl rfl rfl ?_
 refine W_assign rfl rfl rfl ?_
 refine W_end (E_then (C_seq (C_seq (C_region ?_))))
 refine W_move rfl rfl rfl ?_
 obtain ⟨r101, hc102, hm⟩ := bind_some hm
 refine W_call call25 rfl rfl rfl (fun w ht => by have h := m_forecast_Check_c (hm := hc102) h0 ht; exact h) ?_
 rintro _ _ _ ⟨rfl, rfl, rfl⟩
 refine W_assign rfl rfl rfl ?_
 refine W_end (E_then (C_seq (C_region ?_)))
 refine W_move rfl rfl rfl ?_
 refine W_bin rfl rfl rfl rfl rfl ?_
 refine W_end (E_then ?_)
 refine C_cond (b := !decide (r101 = 0)) rfl (fun hb103 => ?_) (fun hb103 => ?_)
 ·have hm := ite_t' hb103 hm
  refine C_seq (C_region ?_)
  refine W_move rfl rfl rfl ?_
  refine W_assign rfl rfl rfl ?_
  refine W_assign rfl rfl rfl ?_
  refine W_end (E_then (C_ret (E_ret_then ?_)))
  obtain rfl := Option.some.inj hm
  refine E_weak (Hp.le_refl _) ?_
  exact end2 rfl rfl rfl ⟨rfl, rfl, rfl⟩
 ·have hm := ite_f' hb103 hm
  refine C_skip (E_then (C_seq ?_))
  refine C_seq_join (fun H' M' L' => H = H' ∧ M = M' ∧ [(0, v0), (1, .int .i64 (p1_k)), (19, .bool ((decide (p1_k < 1)) || (decide ((p0_l.length : Int) < p1_k))))] = L') ?_ (fun J105 => ?_)
  ·rintro _ _ _ ⟨rfl, rfl, rfl⟩
   refine C_cond (b := (decide (p1_k < 1)) || (decide ((p0_l.length : Int) < p1_k))) rfl (fun hb106 => ?_) (fun hb106 => ?_)
   ·have hm := ite_t' hb106 hm
    refine C_seq (C_region ?_)
    refine W_assign rfl rfl rfl ?_
    refine W_assign rfl rfl rfl ?_
    refine W_end (E_then (C_ret (E_ret_then ?_)))
    obtain rfl := Option.some.inj hm
    refine E_weak (Hp.le_refl _) ?_
    exact end2 rfl rfl rfl ⟨rfl, rfl, rfl⟩
   ·have hm := ite_f' hb106 hm
    refine C_skip (E_then (C_seq (C_region ?_)))
    refine W_move rfl rfl rfl ?_
    refine W_move rfl rfl rfl ?_
    refine W_lenR rfl rfl runUnderlying22 rfl h0 ?_
    refine W_move rfl rfl rfl ?_
    refine W_bin rfl rfl rfl rfl rfl ?_
    obtain ⟨hz107, hm⟩ := need_some hm
    refine W_sliceR (α := Int) (l := (IntKind.i64.wrap ((p0_l.length : Int) - p1_k) : Int).toNat) (h := p0_l.length) (xs := p0_l) rfl rfl runUnderlying22 sizeOf3 rfl h0 (by omega) (by omega) (.inl rfl) (fun cap hcap => by rw [if_pos rfl]; exact (.inl ⟨rfl, rfl⟩)) (fun m hmm => (.inl ⟨rfl, rfl⟩)) (.inr ⟨_, _, _, rfl, rfl, by omega, by omega, rfl⟩) ?_
    intro v108 h109 hc110
    obtain ⟨r111, hc112, hm⟩ := bind_some hm
    refine W_call call27 rfl rfl rfl (fun w ht => by have h := m_forecast_sum_c (hm := hc112) h109 ht; exact h) ?_
    rintro _ _ _ ⟨rfl, rfl, rfl⟩
    refine W_move rfl rfl rfl ?_
    obtain ⟨r113, hc114, hm⟩ := bind_some hm
    refine W_call call24 rfl rfl rfl (fun w ht => by have h := m_large_Frac_c (hm := hc114)  ht; exact h) ?_
    rintro _ H119 _ ⟨hle120, v115, v117, rfl, rfl, h116, h118⟩
    obtain ⟨r121, hc122, hm⟩ := bind_some hm
    refine W_call call26 rfl rfl rfl (fun w ht => by have h := m_forecast_text_c (hm := hc122) h116 h118 ht; exact h) ?_
    rintro _ _ _ ⟨rfl, rfl, rfl⟩
    refine W_extract rfl rfl rfl rfl ?_
    refine W_extract rfl rfl rfl rfl ?_
    refine W_assign rfl rfl rfl ?_
    refine W_assign rfl rfl rfl ?_
    refine W_end (E_then (C_ret ?_))
    obtain rfl := Option.some.inj hm
    refine E_weak hle120 ?_
    exact end2 rfl rfl rfl ⟨rfl, rfl, rfl⟩
  ·refine C_region ?_
   refine W_move rfl rfl rfl ?_
   refine W_bin rfl rfl rfl rfl rfl ?_
   refine W_move rfl rfl rfl ?_
   cases hb123 : (decide (p1_k < 1))
   ·refine W_move rfl rfl rfl ?_
    refine W_move rfl rfl rfl ?_
    refine W_lenR rfl rfl runUnderlying22 rfl h0 ?_
    refine W_bin rfl rfl rfl rfl rfl ?_
    refine W_pick rfl rfl rfl rfl ?_
    refine W_end ?_
    exact E_keepJ (J105 _ _ _ ⟨rfl, rfl, rfl⟩) (List.Perm.refl _) ⟨rfl, rfl, (by show some (Value.bool (decide ((p0_l.length : Int) < p1_k))) = some (Value.bool ((decide (p1_k < 1)) || (decide ((p0_l.length : Int) < p1_k)))); first | (simp only [hb103, hb123, Bool.and_true, Bool.true_and, Bool.false_and, Bool.and_false, Bool.or_true, Bool.true_or, Bool.or_false, Bool.false_or, Bool.not_true, Bool.not_false]; done) | (simp only [hb103, hb123]; first | done | simp only [Bool.and_true, Bool.true_and, Bool.false_and, Bool.and_false, Bool.or_true, Bool.true_or, Bool.or_false, Bool.false_or, Bool.not_true, Bool.not_false])), trivial⟩
   ·refine W_no rfl rfl rfl ?_
    refine W_no rfl rfl rfl ?_
    refine W_no rfl rfl rfl ?_
    refine W_no rfl rfl rfl ?_
    refine W_pick rfl rfl rfl rfl ?_
    refine W_end ?_
    exact E_keepJ (J105 _ _ _ ⟨rfl, rfl, rfl⟩) (List.Perm.refl _) ⟨rfl, rfl, (by show some (Value.bool (true)) = some (Value.bool ((decide (p1_k < 1)) || (decide ((p0_l.length : Int) < p1_k)))); first | (simp only [hb103, hb123, Bool.and_true, Bool.true_and, Bool.false_and, Bool.and_false, Bool.or_true, Bool.true_or, Bool.or_false, Bool.false_or, Bool.not_true, Bool.not_false]; done) | (simp only [hb103, hb123]; first | done | simp only [Bool.and_true, Bool.true_and, Bool.false_and, Bool.and_false, Bool.or_true, Bool.true_or, Bool.or_false, Bool.false_or, Bool.not_true, Bool.not_false])), trivial⟩

theorem m_large_Int_Mul_c {B : Nat} {w0 w : World} [Tabs B w0] {H : Hp} {M : List Res} {p0_a : S_large_Int} {p1_b : S_large_Int} {v0 : Value} {v1 : Value} {r : S_large_Int} (hm : m_large_Int_Mul p0_a p1_b = some r) (h0 : RdS H v0 p0_a.words) (h1 : RdS H v1 p1_b.words) (ht : St B w0 H (M) w) :
  Calls prog 44 [.agg [.bool (p0_a.minus), v0].toArray, .agg [.bool (p1_b.minus), v1].toArray].toArray w (Ret B w0 fun H' M' v => H.le H' ∧ ∃ qv0 : Value, M = M' ∧ .agg [.bool (r.minus), qv0].toArray = v ∧ RdS H' qv0 r.words) := by
 unfold m_large_Int_Mul at hm
 refine enter func44 rfl rfl rfl ht ?_
 refine C_seq (C_region ?_)
 refine W_box (cs := [.bool (p0_a.minus), v0]) rfl rfl rfl rfl (fun b101 => ?_)
 refine W_box (cs := [.bool (p1_b.minus), v1]) rfl rfl rfl rfl (fun b102 => ?_)
 refine W_alloc (cs := [.bool (false), .slice none 0 0]) rfl rfl zeroValue48 rfl (fun b103 => ?_)
 refine W_end (E_then (C_seq (C_region ?_)))
 refine W_field (o := 1) rfl rfl runUnderlying48 rfl sizeOf46 rfl rfl rfl ?_
 refine W_load rfl rfl isAgg46 rfl (own_at (List.mem_cons_of_mem _ (List.mem_cons_of_mem _ (List.mem_cons_self ..))) rfl) ?_
 refine W_lenR rfl rfl runUnderlying46 rfl h0 ?_
 refine W_field (o := 1) rfl rfl runUnderlying48 rfl sizeOf46 rfl rfl rfl ?_
 refine W_load rfl rfl isAgg46 rfl (own_at (List.mem_cons_of_mem _ (List.mem_cons_self ..)) rfl) ?_
 refine W_lenR rfl rfl runUnderlying46 rfl h1 ?_
 refine W_bin rfl rfl rfl rfl rfl ?_
 obtain ⟨hz104, hm⟩ := need_some hm
 refine W_makeSlice (α := U32) (zs := [.int .u32 (0)]) (ze := ⟨0⟩) rfl rfl underlying46 ⟨_, rfl, rfl, rfl, rfl⟩ rfl rfl rfl rfl rfl rfl hz104.1 hz104.2 ?_
 intro v105 xs106 hr107
 refine W_assign rfl rfl rfl ?_
 refine W_end (E_then (C_seq (C_seq (C_region ?_))))
 refine W_field (o := 1) rfl rfl runUnderlying48 rfl sizeOf46 rfl rfl rfl ?_
 refine W_load rfl rfl isAgg46 rfl (own_at (List.mem_cons_of_mem _ (List.mem_cons_of_mem _ (List.mem_cons_of_mem _ (List.mem_cons_self ..)))) rfl) ?_
 refine W_lenR rfl rfl runUnderlying46 rfl h0 ?_
 refine W_move rfl rfl rfl ?_
 refine W_end (E_then (C_block ?_))
 refine C_keep (L' := [(2, .pointer (some ⟨b101, 0, none⟩)), (3, .pointer (some ⟨b102, 0, none⟩)), (4, .pointer (some ⟨b103, 0, none⟩)), (5, v105), (20, v0), (21, .int .i64 ((p0_a.words.length : Int))), (22, .int .i64 (((0 : Nat) : Int)))]) ⟨rfl, rfl, rfl, rfl, rfl, rfl, rfl, trivial⟩ (List.Perm.refl _) ?_
 refine C_loop (fun n H' M' L' => ∃ (k108 : Nat) (zs284' : List U32), ∃ l275 : List U32, ∃ xs274 : List Value, (p0_a.words).drop k108 = zs284' ∧ zs284'.length = n ∧ forI (fun k y s279 n => m_large_Int_Mul_b3 p1_b k y s279 n) (fun s279 => (m_large_norm (!decide (p0_a.minus = p1_b.minus)) s279).bind fun r368 => some r368) k108 zs284' l275 = some r ∧ Rw H' v105 xs274 l275 ∧ H.le H' ∧ .row v105 81 (Rep.sz U32) l275.length xs274 :: .obj b103 (.cells ([.bool (false), .slice none 0 0] : List Value).toArray 48 (0, 0)) :: .obj b102 (.cells [.bool (p1_b.minus), v1].toArray 48 (0, 0)) :: .obj b101 (.cells [.bool (p0_a.minus), v0].toArray 48 (0, 0)) :: M = M' ∧ [(2, .pointer (some ⟨b101, 0, none⟩)), (3, .pointer (some ⟨b102, 0, none⟩)), (4, .pointer (some ⟨b103, 0, none⟩)), (5, v105), (20, v0), (21, .int .i64 ((p0_a.words.length : Int))), (22, .int .i64 ((k108 : Int)))] = L') _ ⟨0, _, (List.replicate (IntKind.i64.wrap ((p0_a.words.length : Int) + (p1_b.words.length : Int)) : Int).toNat (⟨0⟩ : U32)), xs106, rfl, rfl, hm, hr107, (Hp.le_refl _), rfl, rfl⟩ ?_
 rintro _ H277 _ _ ⟨k108, zs284', l275, xs274, hd286, rfl, hm, hr276, hle278, rfl, rfl⟩
 refine C_seq (C_region ?_)
 refine W_bin rfl rfl rfl rfl rfl ?_
 refine W_end (E_then (C_seq ?_))
 refine C_cond (b := decide ((k108 : Int) < (p0_a.words.length : Int))) rfl (fun hb288 => ?_) (fun hb288 => ?_)
 ·obtain ⟨y283, zs284, rfl, hy285, hd287⟩ := rng_t hd286 hb288
  have hm : m_large_Int_Mul_b3 p1_b k108 y283 l275 (forI (fun k y s279 n => m_large_Int_Mul_b3 p1_b k y s279 n) (fun s279 => (m_large_norm (!decide (p0_a.minus = p1_b.minus)) s279).bind fun r368 => some r368) (k108 + 1) zs284) = some r := hm
  generalize hn281 : forI (fun k y s279 n => m_large_Int_Mul_b3 p1_b k y s279 n) (fun s279 => (m_large_norm (!decide (p0_a.minus = p1_b.minus)) s279).bind fun r368 => some r368) (k108 + 1) zs284 = nx280 at hm
  unfold m_large_Int_Mul_b3 at hm
  refine C_skip (E_then (C_seq (C_block (C_seq (C_region ?_)))))
  refine W_move rfl rfl rfl ?_
  obtain ⟨_, rfl, hc289⟩ := (h0).elem hy285
  refine W_indexS rfl rfl runUnderlying46 sizeOf81 rfl (h0.mono hle278) rfl (Int.natCast_nonneg _) hy285 ?_
  refine W_load rfl rfl isAgg81 rfl (HCells.one (hc289.mono hle278) 0 rfl).at ?_
  refine W_assign rfl rfl rfl ?_
  refine W_assign rfl rfl rfl ?_
  refine W_end (E_then (C_seq (C_region ?_)))
  refine W_assign rfl rfl rfl ?_
  refine W_end (E_then (C_seq (C_seq (C_region ?_))))
  refine W_field (o := 1) rfl rfl runUnderlying48 rfl sizeOf46 rfl rfl rfl ?_
  refine W_load rfl rfl isAgg46 rfl (own_at (List.mem_cons_of_mem _ (List.mem_cons_of_mem _ (List.mem_cons_self ..))) rfl) ?_
  refine W_lenR rfl rfl runUnderlying46 rfl (h1.mono hle278) ?_
  refine W_move rfl rfl rfl ?_
  refine W_end (E_then (C_block ?_))
  refine C_keep (L' := [(2, .pointer (some ⟨b101, 0, none⟩)), (3, .pointer (some ⟨b102, 0, none⟩)), (4, .pointer (some ⟨b103, 0, none⟩)), (5, v105), (6, .int .i64 ((k108 : Int))), (7, .int .u32 (y283.n)), (8, .int .u64 (0)), (20, v0), (21, .int .i64 ((p0_a.words.length : Int))), (22, .int .i64 ((k108 : Int))), (28, v1), (29, .int .i64 ((p1_b.words.length : Int))), (30, .int .i64 (((0 : Nat) : Int)))]) ⟨rfl, rfl, rfl, rfl, rfl, rfl, rfl, rfl, rfl, rfl, rfl, rfl, rfl, trivial⟩ (List.Perm.refl _) ?_
  refine C_loop (fun n H' M' L' => ∃ (k290 : Nat) (zs339' : List U32), ∃ l329 : List U32, ∃ n331 : Int, ∃ xs328 : List Value, (p1_b.words).drop k290 = zs339' ∧ zs339'.length = n ∧ forI (fun k y s334 n => m_large_Int_Mul_b4 y283 k108 k y s334.1 s334.2 n) (fun s334 => idx s334.1 (IntKind.i64.wrap ((k108 : Int) + (p1_b.words.length : Int))) fun y357 => nx280 (s334.1.set ((IntKind.i64.wrap ((k108 : Int) + (p1_b.words.length : Int)) : Int).toNat) ⟨IntKind.u32.wrap (s334.2)⟩)) k290 zs339' (l329, n331) = some r ∧ Rw H' v105 xs328 l329 ∧ H277.le H' ∧ .row v105 81 (Rep.sz U32) l329.length xs328 :: .obj b103 (.cells ([.bool (false), .slice none 0 0] : List Value).toArray 48 (0, 0)) :: .obj b102 (.cells [.bool (p1_b.minus), v1].toArray 48 (0, 0)) :: .obj b101 (.cells [.bool (p0_a.minus), v0].toArray 48 (0, 0)) :: M = M' ∧ [(2, .pointer (some ⟨b101, 0, none⟩)), (3, .pointer (some ⟨b102, 0, none⟩)), (4, .pointer (some ⟨b103, 0, none⟩)), (5, v105), (6, .int .i64 ((k108 : Int))), (7, .int .u32 (y283.n)), (8, .int .u64 (n331)), (20, v0), (21, .int .i64 ((p0_a.words.length : Int))), (22, .int .i64 ((k108 : Int))), (28, v1), (29, .int .i64 ((p1_b.words.length : Int))), (30, .int .i64 ((k290 : Int)))] = L') _ ⟨0, _, l275, 0, xs274, rfl, rfl, hm, hr276, (Hp.le_refl _), rfl, rfl⟩ ?_
  rintro _ H332 _ _ ⟨k290, zs339', l329, n331, xs328, hd341, rfl, hm, hr330, hle333, rfl, rfl⟩
  refine C_seq (C_region ?_)
  refine W_bin rfl rfl rfl rfl rfl ?_
  refine W_end (E_then (C_seq ?_))
  refine C_cond (b := decide ((k290 : Int) < (p1_b.words.length : Int))) rfl (fun hb343 => ?_) (fun hb343 => ?_)
  ·obtain ⟨y338, zs339, rfl, hy340, hd342⟩ := rng_t hd341 hb343
   have hm : m_large_Int_Mul_b4 y283 k108 k290 y338 l329 n331 (forI (fun k y s334 n => m_large_Int_Mul_b4 y283 k108 k y s334.1 s334.2 n) (fun s334 => idx s334.1 (IntKind.i64.wrap ((k108 : Int) + (p1_b.words.length : Int))) fun y357 => nx280 (s334.1.set ((IntKind.i64.wrap ((k108 : Int) + (p1_b.words.length : Int)) : Int).toNat) ⟨IntKind.u32.wrap (s334.2)⟩)) (k290 + 1) zs339) = some r := hm
   generalize hn336 : forI (fun k y s334 n => m_large_Int_Mul_b4 y283 k108 k y s334.1 s334.2 n) (fun s334 => idx s334.1 (IntKind.i64.wrap ((k108 : Int) + (p1_b.words.length : Int))) fun y357 => nx280 (s334.1.set ((IntKind.i64.wrap ((k108 : Int) + (p1_b.words.length : Int)) : Int).toNat) ⟨IntKind.u32.wrap (s334.2)⟩)) (k290 + 1) zs339 = nx335 at hm
   unfold m_large_Int_Mul_b4 at hm
   refine C_skip (E_then (C_seq (C_block (C_seq (C_region ?_)))))
   refine W_move rfl rfl rfl ?_
   obtain ⟨_, rfl, hc344⟩ := (h1).elem hy340
   refine W_indexS rfl rfl runUnderlying46 sizeOf81 rfl ((h1.mono hle278).mono hle333) rfl (Int.natCast_nonneg _) hy340 ?_
   refine W_load rfl rfl isAgg81 rfl (HCells.one ((hc344.mono hle278).mono hle333) 0 rfl).at ?_
   refine W_assign rfl rfl rfl ?_
   refine W_assign rfl rfl rfl ?_
   refine W_end (E_then (C_seq (C_region ?_)))
   refine W_move rfl rfl rfl ?_
   refine W_move rfl rfl rfl ?_
   refine W_move rfl rfl rfl ?_
   refine W_move rfl rfl rfl ?_
   refine W_bin rfl rfl rfl rfl rfl ?_
   obtain ⟨y345, h346, he347, hm⟩ := idx_some hm
   refine W_indexO (List.mem_cons_self ..) rfl rfl runUnderlying46 sizeOf81 rfl rfl h346 (List.getElem?_eq_some_iff.1 he347).1 ?_
   obtain ⟨_, rfl, hg348⟩ := (hr330).elem he347
   refine W_load rfl rfl isAgg81 rfl (row_one0 (List.mem_cons_self ..) hg348 rfl) ?_
   refine W_convInt rfl rfl runUnderlying81 runUnderlying85 rfl ?_
   refine W_move rfl rfl rfl ?_
   refine W_convInt rfl rfl runUnderlying81 runUnderlying85 rfl ?_
   refine W_move rfl rfl rfl ?_
   refine W_convInt rfl rfl runUnderlying81 runUnderlying85 rfl ?_
   refine W_bin rfl rfl rfl rfl rfl ?_
   refine W_bin rfl rfl rfl rfl rfl ?_
   refine W_bin rfl rfl rfl rfl rfl ?_
   refine W_assign rfl rfl rfl ?_
   refine W_end (E_then (C_seq (C_region ?_)))
   refine W_move rfl rfl rfl ?_
   refine W_move rfl rfl rfl ?_
   refine W_move rfl rfl rfl ?_
   refine W_bin rfl rfl rfl rfl rfl ?_
   refine W_move rfl rfl rfl ?_
   refine W_convInt rfl rfl runUnderlying85 runUnderlying81 rfl ?_
   obtain ⟨y349, h350, he351, hm⟩ := idx_some hm
   refine W_indexO (List.mem_cons_self ..) rfl rfl runUnderlying46 sizeOf81 rfl rfl h350 (List.getElem?_eq_some_iff.1 he351).1 ?_
   obtain ⟨_, rfl, hg352⟩ := (hr330).elem he351
   obtain ⟨hr353, he354, hg355⟩ := Rw.put (cs := [.int .u32 (IntKind.u32.wrap (IntKind.u64.wrap (n331 + (IntKind.u64.wrap ((IntKind.u64.wrap (y345.n)) + (IntKind.u64.wrap ((IntKind.u64.wrap (y283.n)) * (IntKind.u64.wrap (y338.n)))))))))]) (o := 0) (c := [.int .u32 (y349.n)]) (out := [.int .u32 (IntKind.u32.wrap (IntKind.u64.wrap (n331 + (IntKind.u64.wrap ((IntKind.u64.wrap (y345.n)) + (IntKind.u64.wrap ((IntKind.u64.wrap (y283.n)) * (IntKind.u64.wrap (y338.n)))))))))]) (e2 := ⟨IntKind.u32.wrap (IntKind.u64.wrap (n331 + (IntKind.u64.wrap ((IntKind.u64.wrap (y345.n)) + (IntKind.u64.wrap ((IntKind.u64.wrap (y283.n)) * (IntKind.u64.wrap (y338.n))))))))⟩) hr330 he351 rfl hg352 rfl rfl rfl
   refine W_storeO2 (i := (IntKind.i64.wrap ((k108 : Int) + (k290 : Int)) : Int).toNat * Rep.sz U32 + 0) (cs := [.int .u32 (IntKind.u32.wrap (IntKind.u64.wrap (n331 + (IntKind.u64.wrap ((IntKind.u64.wrap (y345.n)) + (IntKind.u64.wrap ((IntKind.u64.wrap (y283.n)) * (IntKind.u64.wrap (y338.n)))))))))]) rfl sizeOf81 rfl (row_ad0 _ _) rfl rfl rfl (Rw.room hr330 he351 rfl) rfl (all_cons rfl all_nil) (n' := (l329.set ((IntKind.i64.wrap ((k108 : Int) + (k290 : Int)) : Int).toNat) ⟨IntKind.u32.wrap (IntKind.u64.wrap (n331 + (IntKind.u64.wrap ((IntKind.u64.wrap (y345.n)) + (IntKind.u64.wrap ((IntKind.u64.wrap (y283.n)) * (IntKind.u64.wrap (y338.n))))))))⟩).length) List.length_set ?_
   generalize over xs328 ((IntKind.i64.wrap ((k108 : Int) + (k290 : Int)) : Int).toNat * Rep.sz U32 + 0) [.int .u32 (IntKind.u32.wrap (IntKind.u64.wrap (n331 + (IntKind.u64.wrap ((IntKind.u64.wrap (y345.n)) + (IntKind.u64.wrap ((IntKind.u64.wrap (y283.n)) * (IntKind.u64.wrap (y338.n)))))))))] = xs356 at hr353 hg355 ⊢
   refine W_end (E_then (C_region ?_))
   refine W_move rfl rfl rfl ?_
   refine W_shr rfl rfl rfl rfl (by decide) ?_
   refine W_assign rfl rfl rfl ?_
   refine W_end (E_normal_block (E_then (C_region ?_)))
   refine W_bin rfl rfl rfl rfl rfl ?_
   refine W_move rfl rfl rfl ?_
   refine W_end ?_
   exact E_keepJ (E_back (Nat.lt_succ_self _) ⟨k290 + 1, zs339, (l329.set ((IntKind.i64.wrap ((k108 : Int) + (k290 : Int)) : Int).toNat) ⟨IntKind.u32.wrap (IntKind.u64.wrap (n331 + (IntKind.u64.wrap ((IntKind.u64.wrap (y345.n)) + (IntKind.u64.wrap ((IntKind.u64.wrap (y283.n)) * (IntKind.u64.wrap (y338.n))))))))⟩), shrV .u64 (IntKind.u64.wrap (n331 + (IntKind.u64.wrap ((IntKind.u64.wrap (y345.n)) + (IntKind.u64.wrap ((IntKind.u64.wrap (y283.n)) * (IntKind.u64.wrap (y338.n)))))))) 32, xs356, hd342, rfl, (by rw [hn336]; exact hm), hr353, hle333, rfl, rfl⟩) (List.Perm.refl _) ⟨rfl, rfl, rfl, rfl, rfl, rfl, rfl, rfl, rfl, rfl, rfl, rfl, (congrArg (fun z => some (Value.int .i64 z)) (i64_succ hy340 (((h1.mono hle278).mono hle333)).lenMax)), trivial⟩
  ·obtain rfl := rng_f hd341 hb343
   have hm : (idx l329 (IntKind.i64.wrap ((k108 : Int) + (p1_b.words.length : Int))) fun y357 => nx280 (l329.set ((IntKind.i64.wrap ((k108 : Int) + (p1_b.words.length : Int)) : Int).toNat) ⟨IntKind.u32.wrap (n331)⟩)) = some r := hm
   refine C_exit (E_exit_then (E_exit_then (E_exit_hit (E_then (C_region ?_)))))
   refine W_move rfl rfl rfl ?_
   refine W_move rfl rfl rfl ?_
   refine W_field (o := 1) rfl rfl runUnderlying48 rfl sizeOf46 rfl rfl rfl ?_
   refine W_load rfl rfl isAgg46 rfl (own_at (List.mem_cons_of_mem _ (List.mem_cons_of_mem _ (List.mem_cons_self ..))) rfl) ?_
   refine W_lenR rfl rfl runUnderlying46 rfl ((h1.mono hle278).mono hle333) ?_
   refine W_bin rfl rfl rfl rfl rfl ?_
   refine W_move rfl rfl rfl ?_
   refine W_convInt rfl rfl runUnderlying85 runUnderlying81 rfl ?_
   obtain ⟨y357, h358, he359, hm⟩ := idx_some hm
   refine W_indexO (List.mem_cons_self ..) rfl rfl runUnderlying46 sizeOf81 rfl rfl h358 (List.getElem?_eq_some_iff.1 he359).1 ?_
   obtain ⟨_, rfl, hg360⟩ := (hr330).elem he359
   obtain ⟨hr361, he362, hg363⟩ := Rw.put (cs := [.int .u32 (IntKind.u32.wrap (n331))]) (o := 0) (c := [.int .u32 (y357.n)]) (out := [.int .u32 (IntKind.u32.wrap (n331))]) (e2 := ⟨IntKind.u32.wrap (n331)⟩) hr330 he359 rfl hg360 rfl rfl rfl
   refine W_storeO2 (i := (IntKind.i64.wrap ((k108 : Int) + (p1_b.words.length : Int)) : Int).toNat * Rep.sz U32 + 0) (cs := [.int .u32 (IntKind.u32.wrap (n331))]) rfl sizeOf81 rfl (row_ad0 _ _) rfl rfl rfl (Rw.room hr330 he359 rfl) rfl (all_cons rfl all_nil) (n' := (l329.set ((IntKind.i64.wrap ((k108 : Int) + (p1_b.words.length : Int)) : Int).toNat) ⟨IntKind.u32.wrap (n331)⟩).length) List.length_set ?_
   generalize over xs328 ((IntKind.i64.wrap ((k108 : Int) + (p1_b.words.length : Int)) : Int).toNat * Rep.sz U32 + 0) [.int .u32 (IntKind.u32.wrap (n331))] = xs364 at hr361 hg363 ⊢
   refine W_end (E_normal_block (E_then (C_region ?_)))
   refine W_bin rfl rfl rfl rfl rfl ?_
   refine W_move rfl rfl rfl ?_
   refine W_end ?_
   exact E_keepJ (E_back (Nat.lt_succ_self _) ⟨k108 + 1, zs284, (l329.set ((IntKind.i64.wrap ((k108 : Int) + (p1_b.words.length : Int)) : Int).toNat) ⟨IntKind.u32.wrap (n331)⟩), xs364, hd287, rfl, (by rw [hn281]; exact hm), hr361, (Hp.le_trans hle278 hle333), rfl, rfl⟩) (List.Perm.refl _) ⟨rfl, rfl, rfl, rfl, rfl, rfl, (congrArg (fun z => some (Value.int .i64 z)) (i64_succ hy285 ((h0.mono hle278)).lenMax)), trivial⟩
 ·obtain rfl := rng_f hd286 hb288
  have hm : ((m_large_norm (!decide (p0_a.minus = p1_b.minus)) l275).bind fun r368 => some r368) = some r := hm
  refine C_exit (E_exit_then (E_exit_then (E_exit_hit (E_then (C_seq (C_region ?_))))))
  refine W_field (o := 0) rfl rfl runUnderlying48 rfl sizeOf4 rfl rfl rfl ?_
  refine W_load rfl rfl isAgg4 rfl (own_at (List.mem_cons_of_mem _ (List.mem_cons_of_mem _ (List.mem_cons_of_mem _ (List.mem_cons_self ..)))) rfl) ?_
  refine W_field (o := 0) rfl rfl runUnderlying48 rfl sizeOf4 rfl rfl rfl ?_
  refine W_load rfl rfl isAgg4 rfl (own_at (List.mem_cons_of_mem _ (List.mem_cons_of_mem _ (List.mem_cons_self ..))) rfl) ?_
  refine W_neBool rfl rfl runUnderlying4 rfl rfl ?_
  refine W_move rfl rfl rfl ?_
  refine W_freeze (hr276).rd rfl (fun H365 hle366 h367 => ?_)
  obtain ⟨r368, hc369, hm⟩ := bind_some hm
  refine W_call call55 rfl rfl rfl (fun w ht => by have h := m_large_norm_c (hm := hc369) h367 ht; exact h) ?_
  rintro _ H372 _ ⟨hle373, v370, rfl, rfl, h371⟩
  refine W_store (cs := [.bool (r368.minus), v370]) (out := [.bool (r368.minus), v370]) rfl sizeOf48 rfl rfl rfl rfl rfl (all_cons rfl (all_cons (RdS.one1 h371) all_nil)) (over_all rfl) ?_
  refine W_end (E_then (C_ret ?_))
  obtain rfl := Option.some.inj hm
  exact endC1 (Hp.le_refl _) rfl (ResV.agg rfl isAgg48 sizeOf48 (List.mem_cons_self ..) rfl) (List.Sublist.cons _ (List.Sublist.cons _ (List.Sublist.cons _ (List.Sublist.refl _)))) (List.Perm.refl _) ⟨(Hp.le_trans (Hp.le_trans hle278 hle366) hle373), v370, rfl, rfl, h371⟩

theorem m_large_Rat_Mul_c {B : Nat} {w0 w : World} [Tabs B w0] {H : Hp} {M : List Res} {p0_a : S_large_Rat} {p1_b : S_large_Rat} {v0 : Value} {v1 : Value} {v2 : Value} {v3 : Value} {r : S_large_Rat} (hm : m_large_Rat_Mul p0_a p1_b = some r) (h0 : RdS H v0 p0_a.N.words) (h1 : RdS H v1 p0_a.D.words) (h2 : RdS H v2 p1_b.N.words) (h3 : RdS H v3 p1_b.D.words) (ht : St B w0 H (M) w) :
  Calls prog 29 [.agg [.bool (p0_a.N.minus), v0, .bool (p0_a.D.minus), v1].toArray, .agg [.bool (p1_b.N.minus), v2, .bool (p1_b.D.minus), v3].toArray].toArray w (Ret B w0 fun H' M' v => H.le H' ∧ ∃ qv0 : Value, ∃ qv1 : Value, M = M' ∧ .agg [.bool (r.N.minus), qv0, .bool (r.D.minus), qv1].toArray = v ∧ RdS H' qv0 r.N.words ∧ RdS H' qv1 r.D.words) := by
 unfold m_large_Rat_Mul at hm
 refine enter func29 rfl rfl rfl ht ?_
 refine C_seq (C_region ?_)
 refine W_box (cs := [.bool (p0_a.N.minus), v0, .bool (p0_a.D.minus), v1]) rfl rfl rfl rfl (fun b101 => ?_)
 refine W_box (cs := [.bool (p1_b.N.minus), v2, .bool (p1_b.D.minus), v3]) rfl rfl rfl rfl (fun b102 => ?_)
 refine W_alloc (cs := [.bool (false), .slice none 0 0, .bool (false), .slice none 0 0]) rfl rfl zeroValue50 rfl (fun b103 => ?_)
 refine W_end (E_then (C_seq ?_))
 obtain ⟨r104, hc105, hm⟩ := bind_some hm
 refine C_region_tok0 9 (phiT [(fun H rs v => [] = rs ∧ .pointer (some ⟨b101, 0, none⟩) = v), (fun H rs v => [] = rs ∧ .agg [.bool (p0_a.N.minus), v0].toArray = v), (fun H rs v => [] = rs ∧ .pointer (some ⟨b102, 0, none⟩) = v), (fun H rs v => [] = rs ∧ .agg [.bool (p1_b.N.minus), v2].toArray = v), (fun H rs v => ∃ v110 : Value, [] = rs ∧ .agg [.bool (r104.minus), v110].toArray = v ∧ RdS H v110 r104.words), (fun H rs v => [] = rs ∧ .pointer (some ⟨b101, 2, none⟩) = v), (fun H rs v => [] = rs ∧ .agg [.bool (p0_a.D.minus), v1].toArray = v), (fun H rs v => [] = rs ∧ .pointer (some ⟨b102, 2, none⟩) = v), (fun H rs v => [] = rs ∧ .agg [.bool (p1_b.D.minus), v3].toArray = v)]) [[], [], [], [], [], [], [], [], []] [[], [], [], [], [], [], [], [], []] [] [0, 1, 2, 3, 4, 5, 6, 7, 8] Facts.mixed (by kernel_rfl) (by rfl) (by rfl) (by rfl) (by kernel_rfl) (phiT_mono ⟨eq_monoT _ _, eq_monoT _ _, eq_monoT _ _, eq_monoT _ _, (by rintro H1 H2 rs v hle ⟨v110, rfl, rfl, h111⟩; exact ⟨v110, rfl, rfl, (h111.mono hle)⟩), eq_monoT _ _, eq_monoT _ _, eq_monoT _ _, eq_monoT _ _, trivial⟩) ⟨?_, ?_, ?_, ?_, ?_, ?_, ?_, ?_, ?_, trivial⟩ ?_
 ·intro HX hX X Rest hR
  intro hU hUp
  refine W_field (o := 0) rfl rfl runUnderlying50 rfl sizeOf48 rfl rfl rfl ?_
  exact W_end (OneT_end [] (Hp.le_refl _) ⟨rfl, rfl⟩)
 ·intro HX hX X Rest hR
  rintro _ _ ⟨rfl, rfl⟩
  intro hU hUp
  refine W_loadAgg (cs := [.bool (p0_a.N.minus), v0]) rfl rfl isAgg48 sizeOf48 rfl (own_part (hR _ (List.mem_cons_of_mem _ (List.mem_cons_of_mem _ (List.mem_cons_self ..)))) rfl) rfl ?_
  exact W_end (OneT_end [] (Hp.le_refl _) ⟨rfl, rfl⟩)
 ·intro HX hX X Rest hR
  intro hU hUp
  refine W_field (o := 0) rfl rfl runUnderlying50 rfl sizeOf48 rfl rfl rfl ?_
  exact W_end (OneT_end [] (Hp.le_refl _) ⟨rfl, rfl⟩)
 ·intro HX hX X Rest hR
  rintro _ _ ⟨rfl, rfl⟩
  intro hU hUp
  refine W_loadAgg (cs := [.bool (p1_b.N.minus), v2]) rfl rfl isAgg48 sizeOf48 rfl (own_part (hR _ (List.mem_cons_of_mem _ (List.mem_cons_self ..))) rfl) rfl ?_
  exact W_end (OneT_end [] (Hp.le_refl _) ⟨rfl, rfl⟩)
 ·intro HX hX X Rest hR
  rintro _ _ ⟨rfl, rfl⟩
  rintro _ _ ⟨rfl, rfl⟩
  intro hU hUp
  refine W_call call44 rfl rfl rfl (fun w ht => by have h := m_large_Int_Mul_c (hm := hc105) (h0.mono hX) (h2.mono hX) ht; exact h) ?_
  rintro _ H112 _ ⟨hle113, v110, rfl, rfl, h111⟩
  exact W_end (OneT_end [] hle113 ⟨v110, rfl, rfl, (h111)⟩)
 ·intro HX hX X Rest hR
  intro hU hUp
  refine W_field (o := 2) rfl rfl runUnderlying50 rfl sizeOf48 rfl rfl rfl ?_
  exact W_end (OneT_end [] (Hp.le_refl _) ⟨rfl, rfl⟩)
 ·intro HX hX X Rest hR
  rintro _ _ ⟨rfl, rfl⟩
  intro hU hUp
  refine W_loadAgg (cs := [.bool (p0_a.D.minus), v1]) rfl rfl isAgg48 sizeOf48 rfl (own_part (hR _ (List.mem_cons_of_mem _ (List.mem_cons_of_mem _ (List.mem_cons_self ..)))) rfl) rfl ?_
  exact W_end (OneT_end [] (Hp.le_refl _) ⟨rfl, rfl⟩)
 ·intro HX hX X Rest hR
  intro hU hUp
  refine W_field (o := 2) rfl rfl runUnderlying50 rfl sizeOf48 rfl rfl rfl ?_
  exact W_end (OneT_end [] (Hp.le_refl _) ⟨rfl, rfl⟩)
 ·intro HX hX X Rest hR
  rintro _ _ ⟨rfl, rfl⟩
  intro hU hUp
  refine W_loadAgg (cs := [.bool (p1_b.D.minus), v3]) rfl rfl isAgg48 sizeOf48 rfl (own_part (hR _ (List.mem_cons_of_mem _ (List.mem_cons_self ..))) rfl) rfl ?_
  exact W_end (OneT_end [] (Hp.le_refl _) ⟨rfl, rfl⟩)
 intro H114 hle115
 rintro _ _ ⟨rfl, rfl⟩
 rintro _ _ ⟨rfl, rfl⟩
 rintro _ _ ⟨rfl, rfl⟩
 rintro _ _ ⟨rfl, rfl⟩
 rintro _ _ ⟨v110, rfl, rfl, h111⟩
 rintro _ _ ⟨rfl, rfl⟩
 rintro _ _ ⟨rfl, rfl⟩
 rintro _ _ ⟨rfl, rfl⟩
 rintro _ _ ⟨rfl, rfl⟩
 obtain ⟨r116, hc117, hm⟩ := bind_some hm
 refine W_call call44 rfl rfl rfl (fun w ht => by have h := m_large_Int_Mul_c (hm := hc117) (h1.mono hle115) (h3.mono hle115) ht; exact h) ?_
 rintro _ H120 _ ⟨hle121, v118, rfl, rfl, h119⟩
 obtain ⟨r122, hc123, hm⟩ := bind_some hm
 refine W_call call40 rfl rfl rfl (fun w ht => by have h := m_large_Ratio_c (hm := hc123) (h111.mono hle121) h119 ht; exact h) ?_
 rintro _ H128 _ ⟨hle129, v124, v126, rfl, rfl, h125, h127⟩
 refine W_store (cs := [.bool (r122.N.minus), v124, .bool (r122.D.minus), v126]) (out := [.bool (r122.N.minus), v124, .bool (r122.D.minus), v126]) rfl sizeOf50 rfl rfl rfl rfl rfl (all_cons rfl (all_cons (RdS.one1 h125) (all_cons rfl (all_cons (RdS.one1 h127) all_nil)))) (over_all rfl) ?_
 refine W_end (E_then (C_ret ?_))
 obtain rfl := Option.some.inj hm
 exact endC1 (Hp.le_refl _) rfl (ResV.agg rfl isAgg50 sizeOf50 (List.mem_cons_self ..) rfl) (List.Sublist.cons _ (List.Sublist.cons _ (List.Sublist.cons _ (List.Sublist.refl _)))) (List.Perm.refl _) ⟨(Hp.le_trans (Hp.le_trans hle115 hle121) hle129), v124, v126, rfl, rfl, h125, h127⟩

theorem m_large_Rat_Neg_c {B : Nat} {w0 w : World} [Tabs B w0] {H : Hp} {M : List Res} {p0_a : S_large_Rat} {v0 : Value} {v1 : Value} {r : S_large_Rat} (hm : m_large_Rat_Neg p0_a = some r) (h0 : RdS H v0 p0_a.N.words) (h1 : RdS H v1 p0_a.D.words) (ht : St B w0 H (M) w) :
  Calls prog 46 [.agg [.bool (p0_a.N.minus), v0, .bool (p0_a.D.minus), v1].toArray].toArray w (Ret B w0 fun H' M' v => H.le H' ∧ ∃ qv0 : Value, ∃ qv1 : Value, M = M' ∧ .agg [.bool (r.N.minus), qv0, .bool (r.D.minus), qv1].toArray = v ∧ RdS H' qv0 r.N.words ∧ RdS H' qv1 r.D.words) := by
 unfold m_large_Rat_Neg at hm
 refine enter func46 rfl rfl rfl ht ?_
 refine C_seq (C_region ?_)
 refine W_box (cs := [.bool (p0_a.N.minus), v0, .bool (p0_a.D.minus), v1]) rfl rfl rfl rfl (fun b101 => ?_)
 refine W_alloc (cs := [.bool (false), .slice none 0 0, .bool (false), .slice none 0 0]) rfl rfl zeroValue50 rfl (fun b102 => ?_)
 refine W_end (E_then (C_seq ?_))
 obtain ⟨r103, hc104, hm⟩ := bind_some hm
 refine C_region_tok0 5 (phiT [(fun H rs v => [] = rs ∧ .pointer (some ⟨b101, 0, none⟩) = v), (fun H rs v => [] = rs ∧ .agg [.bool (p0_a.N.minus), v0].toArray = v), (fun H rs v => ∃ v109 : Value, [] = rs ∧ .agg [.bool (r103.minus), v109].toArray = v ∧ RdS H v109 r103.words), (fun H rs v => [] = rs ∧ .pointer (some ⟨b101, 2, none⟩) = v), (fun H rs v => [] = rs ∧ .agg [.bool (p0_a.D.minus), v1].toArray = v)]) [[], [], [], [], []] [[], [], [], [], []] [] [0, 1, 2, 3, 4] Facts.mixed (by kernel_rfl) (by rfl) (by rfl) (by rfl) (by kernel_rfl) (phiT_mono ⟨eq_monoT _ _, eq_monoT _ _, (by rintro H1 H2 rs v hle ⟨v109, rfl, rfl, h110⟩; exact ⟨v109, rfl, rfl, (h110.mono hle)⟩), eq_monoT _ _, eq_monoT _ _, trivial⟩) ⟨?_, ?_, ?_, ?_, ?_, trivial⟩ ?_
 ·intro HX hX X Rest hR
  intro hU hUp
  refine W_field (o := 0) rfl rfl runUnderlying50 rfl sizeOf48 rfl rfl rfl ?_
  exact W_end (OneT_end [] (Hp.le_refl _) ⟨rfl, rfl⟩)
 ·intro HX hX X Rest hR
  rintro _ _ ⟨rfl, rfl⟩
  intro hU hUp
  refine W_loadAgg (cs := [.bool (p0_a.N.minus), v0]) rfl rfl isAgg48 sizeOf48 rfl (own_part (hR _ (List.mem_cons_of_mem _ (List.mem_cons_self ..))) rfl) rfl ?_
  exact W_end (OneT_end [] (Hp.le_refl _) ⟨rfl, rfl⟩)
 ·intro HX hX X Rest hR
  rintro _ _ ⟨rfl, rfl⟩
  intro hU hUp
  refine W_call call52 rfl rfl rfl (fun w ht => by have h := m_large_Int_Neg_c (hm := hc104) (h0.mono hX) ht; exact h) ?_
  rintro _ H111 _ ⟨hle112, v109, rfl, rfl, h110⟩
  exact W_end (OneT_end [] hle112 ⟨v109, rfl, rfl, (h110)⟩)
 ·intro HX hX X Rest hR
  intro hU hUp
  refine W_field (o := 2) rfl rfl runUnderlying50 rfl sizeOf48 rfl rfl rfl ?_
  exact W_end (OneT_end [] (Hp.le_refl _) ⟨rfl, rfl⟩)
 ·intro HX hX X Rest hR
  rintro _ _ ⟨rfl, rfl⟩
  intro hU hUp
  refine W_loadAgg (cs := [.bool (p0_a.D.minus), v1]) rfl rfl isAgg48 sizeOf48 rfl (own_part (hR _ (List.mem_cons_of_mem _ (List.mem_cons_self ..))) rfl) rfl ?_
  exact W_end (OneT_end [] (Hp.le_refl _) ⟨rfl, rfl⟩)
 intro H113 hle114
 rintro _ _ ⟨rfl, rfl⟩
 rintro _ _ ⟨rfl, rfl⟩
 rintro _ _ ⟨v109, rfl, rfl, h110⟩
 rintro _ _ ⟨rfl, rfl⟩
 rintro _ _ ⟨rfl, rfl⟩
 refine W_build (css := [[.bool (r103.minus), v109], [.bool (p0_a.D.minus), v1]]) (zs := [.bool (false), .slice none 0 0, .bool (false), .slice none 0 0]) (out := [.bool (r103.minus), v109, .bool (p0_a.D.minus), v1]) (places := [(0, 2), (2, 2)]) rfl rfl rfl ⟨rfl, rfl, trivial⟩ zeroValue50 rfl runUnderlying50 (fun w => by kernel_rfl) rfl ?_
 refine W_store (cs := [.bool (r103.minus), v109, .bool (p0_a.D.minus), v1]) (out := [.bool (r103.minus), v109, .bool (p0_a.D.minus), v1]) rfl sizeOf50 rfl rfl rfl rfl rfl (all_cons rfl (all_cons (RdS.one1 h110) (all_cons rfl (all_cons (RdS.one1 (h1.mono hle114)) all_nil)))) (over_all rfl) ?_
 refine W_end (E_then (C_ret ?_))
 obtain rfl := Option.some.inj hm
 exact endC1 (Hp.le_refl _) rfl (ResV.agg rfl isAgg50 sizeOf50 (List.mem_cons_self ..) rfl) (List.Sublist.cons _ (List.Sublist.cons _ (List.Sublist.refl _))) (List.Perm.refl _) ⟨hle114, v109, v1, rfl, rfl, h110, (h1.mono hle114)⟩

theorem m_large_Rat_Add_c {B : Nat} {w0 w : World} [Tabs B w0] {H : Hp} {M : List Res} {p0_a : S_large_Rat} {p1_b : S_large_Rat} {v0 : Value} {v1 : Value} {v2 : Value} {v3 : Value} {r : S_large_Rat} (hm : m_large_Rat_Add p0_a p1_b = some r) (h0 : RdS H v0 p0_a.N.words) (h1 : RdS H v1 p0_a.D.words) (h2 : RdS H v2 p1_b.N.words) (h3 : RdS H v3 p1_b.D.words) (ht : St B w0 H (M) w) :
  Calls prog 31 [.agg [.bool (p0_a.N.minus), v0, .bool (p0_a.D.minus), v1].toArray, .agg [.bool (p1_b.N.minus), v2, .bool (p1_b.D.minus), v3].toArray].toArray w (Ret B w0 fun H' M' v => H.le H' ∧ ∃ qv0 : Value, ∃ qv1 : Value, M = M' ∧ .agg [.bool (r.N.minus), qv0, .bool (r.D.minus), qv1].toArray = v ∧ RdS H' qv0 r.N.words ∧ RdS H' qv1 r.D.words) := by
 unfold m_large_Rat_Add at hm
 refine enter func31 rfl rfl rfl ht ?_
 refine C_seq (C_region ?_)
 refine W_box (cs := [.bool (p0_a.N.minus), v0, .bool (p0_a.D.minus), v1]) rfl rfl rfl rfl (fun b101 => ?_)
 refine W_box (cs := [.bool (p1_b.N.minus), v2, .bool (p1_b.D.minus), v3]) rfl rfl rfl rfl (fun b102 => ?_)
 refine W_alloc (cs := [.bool (false), .slice none 0 0, .bool (false), .slice none 0 0]) rfl rfl zeroValue50 rfl (fun b103 => ?_)
 refine W_end (E_then (C_seq ?_))
 obtain ⟨r104, hc105, hm⟩ := bind_some hm
 obtain ⟨r110, hc111, hm⟩ := bind_some hm
 obtain ⟨r116, hc117, hm⟩ := bind_some hm
 refine C_region_tok0 15 (phiT [(fun H rs v => [] = rs ∧ .pointer (some ⟨b101, 0, none⟩) = v), (fun H rs v => [] = rs ∧ .agg [.bool (p0_a.N.minus), v0].toArray = v), (fun H rs v => [] = rs ∧ .pointer (some ⟨b102, 2, none⟩) = v), (fun H rs v => [] = rs ∧ .agg [.bool (p1_b.D.minus), v3].toArray = v), (fun H rs v => ∃ v122 : Value, [] = rs ∧ .agg [.bool (r104.minus), v122].toArray = v ∧ RdS H v122 r104.words), (fun H rs v => [] = rs ∧ .pointer (some ⟨b102, 0, none⟩) = v), (fun H rs v => [] = rs ∧ .agg [.bool (p1_b.N.minus), v2].toArray = v), (fun H rs v => [] = rs ∧ .pointer (some ⟨b101, 2, none⟩) = v), (fun H rs v => [] = rs ∧ .agg [.bool (p0_a.D.minus), v1].toArray = v), (fun H rs v => ∃ v126 : Value, [] = rs ∧ .agg [.bool (r110.minus), v126].toArray = v ∧ RdS H v126 r110.words), (fun H rs v => ∃ v130 : Value, [] = rs ∧ .agg [.bool (r116.minus), v130].toArray = v ∧ RdS H v130 r116.words), (fun H rs v => [] = rs ∧ .pointer (some ⟨b101, 2, none⟩) = v), (fun H rs v => [] = rs ∧ .agg [.bool (p0_a.D.minus), v1].toArray = v), (fun H rs v => [] = rs ∧ .pointer (some ⟨b102, 2, none⟩) = v), (fun H rs v => [] = rs ∧ .agg [.bool (p1_b.D.minus), v3].toArray = v)]) [[], [], [], [], [], [], [], [], [], [], [], [], [], [], []] [[], [], [], [], [], [], [], [], [], [], [], [], [], [], []] [] [0, 1, 2, 3, 4, 5, 6, 7, 8, 9, 10, 11, 12, 13, 14] Facts.mixed (by kernel_rfl) (by rfl) (by rfl) (by rfl) (by kernel_rfl) (phiT_mono ⟨eq_monoT _ _, eq_monoT _ _, eq_monoT _ _, eq_monoT _ _, (by rintro H1 H2 rs v hle ⟨v122, rfl, rfl, h123⟩; exact ⟨v122, rfl, rfl, (h123.mono hle)⟩), eq_monoT _ _, eq_monoT _ _, eq_monoT _ _, eq_monoT _ _, (by rintro H1 H2 rs v hle ⟨v126, rfl, rfl, h127⟩; exact ⟨v126, rfl, rfl, (h127.mono hle)⟩), (by rintro H1 H2 rs v hle ⟨v130, rfl, rfl, h131⟩; exact ⟨v130, rfl, rfl, (h131.mono hle)⟩), eq_monoT _ _, eq_monoT _ _, eq_monoT _ _, eq_monoT _ _, trivial⟩) ⟨?_, ?_, ?_, ?_, ?_, ?_, ?_, ?_, ?_, ?_, ?_, ?_, ?_, ?_, ?_, trivial⟩ ?_
 ·intro HX hX X Rest hR
  intro hU hUp
  refine W_field (o := 0) rfl rfl runUnderlying50 rfl sizeOf48 rfl rfl rfl ?_
  exact W_end (OneT_end [] (Hp.le_refl _) ⟨rfl, rfl⟩)
 ·intro HX hX X Rest hR
  rintro _ _ ⟨rfl, rfl⟩
  intro hU hUp
  refine W_loadAgg (cs := [.bool (p0_a.N.minus), v0]) rfl rfl isAgg48 sizeOf48 rfl (own_part (hR _ (List.mem_cons_of_mem _ (List.mem_cons_of_mem _ (List.mem_cons_self ..)))) rfl) rfl ?_
  exact W_end (OneT_end [] (Hp.le_refl _) ⟨rfl, rfl⟩)
 ·intro HX hX X Rest hR
  intro hU hUp
  refine W_field (o := 2) rfl rfl runUnderlying50 rfl sizeOf48 rfl rfl rfl ?_
  exact W_end (OneT_end [] (Hp.le_refl _) ⟨rfl, rfl⟩)
 ·intro HX hX X Rest hR
  rintro _ _ ⟨rfl, rfl⟩
  intro hU hUp
  refine W_loadAgg (cs := [.bool (p1_b.D.minus), v3]) rfl rfl isAgg48 sizeOf48 rfl (own_part (hR _ (List.mem_cons_of_mem _ (List.mem_cons_self ..))) rfl) rfl ?_
  exact W_end (OneT_end [] (Hp.le_refl _) ⟨rfl, rfl⟩)
 ·intro HX hX X Rest hR
  rintro _ _ ⟨rfl, rfl⟩
  rintro _ _ ⟨rfl, rfl⟩
  intro hU hUp
  refine W_call call44 rfl rfl rfl (fun w ht => by have h := m_large_Int_Mul_c (hm := hc105) (h0.mono hX) (h3.mono hX) ht; exact h) ?_
  rintro _ H124 _ ⟨hle125, v122, rfl, rfl, h123⟩
  exact W_end (OneT_end [] hle125 ⟨v122, rfl, rfl, (h123)⟩)
 ·intro HX hX X Rest hR
  intro hU hUp
  refine W_field (o := 0) rfl rfl runUnderlying50 rfl sizeOf48 rfl rfl rfl ?_
  exact W_end (OneT_end [] (Hp.le_refl _) ⟨rfl, rfl⟩)
 ·intro HX hX X Rest hR
  rintro _ _ ⟨rfl, rfl⟩
  intro hU hUp
  refine W_loadAgg (cs := [.bool (p1_b.N.minus), v2]) rfl rfl isAgg48 sizeOf48 rfl (own_part (hR _ (List.mem_cons_of_mem _ (List.mem_cons_self ..))) rfl) rfl ?_
  exact W_end (OneT_end [] (Hp.le_refl _) ⟨rfl, rfl⟩)
 ·intro HX hX X Rest hR
  intro hU hUp
  refine W_field (o := 2) rfl rfl runUnderlying50 rfl sizeOf48 rfl rfl rfl ?_
  exact W_end (OneT_end [] (Hp.le_refl _) ⟨rfl, rfl⟩)
 ·intro HX hX X Rest hR
  rintro _ _ ⟨rfl, rfl⟩
  intro hU hUp
  refine W_loadAgg (cs := [.bool (p0_a.D.minus), v1]) rfl rfl isAgg48 sizeOf48 rfl (own_part (hR _ (List.mem_cons_of_mem _ (List.mem_cons_of_mem _ (List.mem_cons_self ..)))) rfl) rfl ?_
  exact W_end (OneT_end [] (Hp.le_refl _) ⟨rfl, rfl⟩)
 ·intro HX hX X Rest hR
  rintro _ _ ⟨rfl, rfl⟩
  rintro _ _ ⟨rfl, rfl⟩
  rintro _ _ ⟨v122, rfl, rfl, h123⟩
  intro hU hUp
  refine W_call call44 rfl rfl rfl (fun w ht => by have h := m_large_Int_Mul_c (hm := hc111) (h2.mono hX) (h1.mono hX) ht; exact h) ?_
  rintro _ H128 _ ⟨hle129, v126, rfl, rfl, h127⟩
  exact W_end (OneT_end [] hle129 ⟨v126, rfl, rfl, (h127)⟩)
 ·intro HX hX X Rest hR
  rintro _ _ ⟨v122, rfl, rfl, h123⟩
  rintro _ _ ⟨v126, rfl, rfl, h127⟩
  rintro _ _ ⟨v126, rfl, rfl, h127⟩
  intro hU hUp
  refine W_call call45 rfl rfl rfl (fun w ht => by have h := m_large_Int_Add_c (hm := hc117) h123 h127 ht; exact h) ?_
  rintro _ H132 _ ⟨hle133, v130, rfl, rfl, h131⟩
  exact W_end (OneT_end [] hle133 ⟨v130, rfl, rfl, (h131)⟩)
 ·intro HX hX X Rest hR
  intro hU hUp
  refine W_field (o := 2) rfl rfl runUnderlying50 rfl sizeOf48 rfl rfl rfl ?_
  exact W_end (OneT_end [] (Hp.le_refl _) ⟨rfl, rfl⟩)
 ·intro HX hX X Rest hR
  rintro _ _ ⟨rfl, rfl⟩
  intro hU hUp
  refine W_loadAgg (cs := [.bool (p0_a.D.minus), v1]) rfl rfl isAgg48 sizeOf48 rfl (own_part (hR _ (List.mem_cons_of_mem _ (List.mem_cons_of_mem _ (List.mem_cons_self ..)))) rfl) rfl ?_
  exact W_end (OneT_end [] (Hp.le_refl _) ⟨rfl, rfl⟩)
 ·intro HX hX X Rest hR
  intro hU hUp
  refine W_field (o := 2) rfl rfl runUnderlying50 rfl sizeOf48 rfl rfl rfl ?_
  exact W_end (OneT_end [] (Hp.le_refl _) ⟨rfl, rfl⟩)
 ·intro HX hX X Rest hR
  rintro _ _ ⟨rfl, rfl⟩
  intro hU hUp
  refine W_loadAgg (cs := [.bool (p1_b.D.minus), v3]) rfl rfl isAgg48 sizeOf48 rfl (own_part (hR _ (List.mem_cons_of_mem _ (List.mem_cons_self ..))) rfl) rfl ?_
  exact W_end (OneT_end [] (Hp.le_refl _) ⟨rfl, rfl⟩)
 intro H134 hle135
 rintro _ _ ⟨rfl, rfl⟩
 rintro _ _ ⟨rfl, rfl⟩
 rintro _ _ ⟨rfl, rfl⟩
 rintro _ _ ⟨rfl, rfl⟩
 rintro _ _ ⟨v122, rfl, rfl, h123⟩
 rintro _ _ ⟨rfl, rfl⟩
 rintro _ _ ⟨rfl, rfl⟩
 rintro _ _ ⟨rfl, rfl⟩
 rintro _ _ ⟨rfl, rfl⟩
 rintro _ _ ⟨v126, rfl, rfl, h127⟩
 rintro _ _ ⟨v130, rfl, rfl, h131⟩
 rintro _ _ ⟨rfl, rfl⟩
 rintro _ _ ⟨rfl, rfl⟩
 rintro _ _ ⟨rfl, rfl⟩
 rintro _ _ ⟨rfl, rfl⟩
 obtain ⟨r136, hc137, hm⟩ := bind_some hm
 refine W_call call44 rfl rfl rfl (fun w ht => by have h := m_large_Int_Mul_c (hm := hc137) (h1.mono hle135) (h3.mono hle135) ht; exact h) ?_
 rintro _ H140 _ ⟨hle141, v138, rfl, rfl, h139⟩
 obtain ⟨r142, hc143, hm⟩ := bind_some hm
 refine W_call call40 rfl rfl rfl (fun w ht => by have h := m_large_Ratio_c (hm := hc143) (h131.mono hle141) h139 ht; exact h) ?_
 rintro _ H148 _ ⟨hle149, v144, v146, rfl, rfl, h145, h147⟩
 refine W_store (cs := [.bool (r142.N.minus), v144, .bool (r142.D.minus), v146]) (out := [.bool (r142.N.minus), v144, .bool (r142.D.minus), v146]) rfl sizeOf50 rfl rfl rfl rfl rfl (all_cons rfl (all_cons (RdS.one1 h145) (all_cons rfl (all_cons (RdS.one1 h147) all_nil)))) (over_all rfl) ?_
 refine W_end (E_then (C_ret ?_))
 obtain rfl := Option.some.inj hm
 exact endC1 (Hp.le_refl _) rfl (ResV.agg rfl isAgg50 sizeOf50 (List.mem_cons_self ..) rfl) (List.Sublist.cons _ (List.Sublist.cons _ (List.Sublist.cons _ (List.Sublist.refl _)))) (List.Perm.refl _) ⟨(Hp.le_trans (Hp.le_trans hle135 hle141) hle149), v144, v146, rfl, rfl, h145, h147⟩

theorem m_large_Rat_Sub_c {B : Nat} {w0 w : World} [Tabs B w0] {H : Hp} {M : List Res} {p0_a : S_large_Rat} {p1_b : S_large_Rat} {v0 : Value} {v1 : Value} {v2 : Value} {v3 : Value} {r : S_large_Rat} (hm : m_large_Rat_Sub p0_a p1_b = some r) (h0 : RdS H v0 p0_a.N.words) (h1 : RdS H v1 p0_a.D.words) (h2 : RdS H v2 p1_b.N.words) (h3 : RdS H v3 p1_b.D.words) (ht : St B w0 H (M) w) :
  Calls prog 34 [.agg [.bool (p0_a.N.minus), v0, .bool (p0_a.D.minus), v1].toArray, .agg [.bool (p1_b.N.minus), v2, .bool (p1_b.D.minus), v3].toArray].toArray w (Ret B w0 fun H' M' v => H.le H' ∧ ∃ qv0 : Value, ∃ qv1 : Value, M = M' ∧ .agg [.bool (r.N.minus), qv0, .bool (r.D.minus), qv1].toArray = v ∧ RdS H' qv0 r.N.words ∧ RdS H' qv1 r.D.words) := by
 unfold m_large_Rat_Sub at hm
 refine enter func34 rfl rfl rfl ht ?_
 refine C_seq (C_region ?_)
 refine W_box (cs := [.bool (p0_a.N.minus), v0, .bool (p0_a.D.minus), v1]) rfl rfl rfl rfl (fun b101 => ?_)
 refine W_box (cs := [.bool (p1_b.N.minus), v2, .bool (p1_b.D.minus), v3]) rfl rfl rfl rfl (fun b102 => ?_)
 refine W_alloc (cs := [.bool (false), .slice none 0 0, .bool (false), .slice none 0 0]) rfl rfl zeroValue50 rfl (fun b103 => ?_)
 refine W_end (E_then (C_seq ?_))
 obtain ⟨r104, hc105, hm⟩ := bind_some hm
 refine C_region_tok0 3 (phiT [(fun H rs v => [] = rs ∧ .agg [.bool (p0_a.N.minus), v0, .bool (p0_a.D.minus), v1].toArray = v), (fun H rs v => [] = rs ∧ .agg [.bool (p1_b.N.minus), v2, .bool (p1_b.D.minus), v3].toArray = v), (fun H rs v => ∃ v112 : Value, ∃ v114 : Value, [] = rs ∧ .agg [.bool (r104.N.minus), v112, .bool (r104.D.minus), v114].toArray = v ∧ RdS H v112 r104.N.words ∧ RdS H v114 r104.D.words)]) [[], [], []] [[], [], []] [] [0, 1, 2] Facts.mixed (by kernel_rfl) (by rfl) (by rfl) (by rfl) (by kernel_rfl) (phiT_mono ⟨eq_monoT _ _, eq_monoT _ _, (by rintro H1 H2 rs v hle ⟨v112, v114, rfl, rfl, h113, h115⟩; exact ⟨v112, v114, rfl, rfl, (h113.mono hle), (h115.mono hle)⟩), trivial⟩) ⟨?_, ?_, ?_, trivial⟩ ?_
 ·intro HX hX X Rest hR
  intro hU hUp
  refine W_loadAgg rfl rfl isAgg50 sizeOf50 rfl (own_all (hR _ (List.mem_cons_of_mem _ (List.mem_cons_of_mem _ (List.mem_cons_self ..))))) rfl ?_
  exact W_end (OneT_end [] (Hp.le_refl _) ⟨rfl, rfl⟩)
 ·intro HX hX X Rest hR
  intro hU hUp
  refine W_loadAgg rfl rfl isAgg50 sizeOf50 rfl (own_all (hR _ (List.mem_cons_of_mem _ (List.mem_cons_self ..)))) rfl ?_
  exact W_end (OneT_end [] (Hp.le_refl _) ⟨rfl, rfl⟩)
 ·intro HX hX X Rest hR
  rintro _ _ ⟨rfl, rfl⟩
  intro hU hUp
  refine W_call call46 rfl rfl rfl (fun w ht => by have h := m_large_Rat_Neg_c (hm := hc105) (h2.mono hX) (h3.mono hX) ht; exact h) ?_
  rintro _ H116 _ ⟨hle117, v112, v114, rfl, rfl, h113, h115⟩
  exact W_end (OneT_end [] hle117 ⟨v112, v114, rfl, rfl, (h113), (h115)⟩)
 intro H118 hle119
 rintro _ _ ⟨rfl, rfl⟩
 rintro _ _ ⟨rfl, rfl⟩
 rintro _ _ ⟨v112, v114, rfl, rfl, h113, h115⟩
 obtain ⟨r120, hc121, hm⟩ := bind_some hm
 refine W_call call31 rfl rfl rfl (fun w ht => by have h := m_large_Rat_Add_c (hm := hc121) (h0.mono hle119) (h1.mono hle119) h113 h115 ht; exact h) ?_
 rintro _ H126 _ ⟨hle127, v122, v124, rfl, rfl, h123, h125⟩
 refine W_store (cs := [.bool (r120.N.minus), v122, .bool (r120.D.minus), v124]) (out := [.bool (r120.N.minus), v122, .bool (r120.D.minus), v124]) rfl sizeOf50 rfl rfl rfl rfl rfl (all_cons rfl (all_cons (RdS.one1 h123) (all_cons rfl (all_cons (RdS.one1 h125) all_nil)))) (over_all rfl) ?_
 refine W_end (E_then (C_ret ?_))
 obtain rfl := Option.some.inj hm
 exact endC1 (Hp.le_refl _) rfl (ResV.agg rfl isAgg50 sizeOf50 (List.mem_cons_self ..) rfl) (List.Sublist.cons _ (List.Sublist.cons _ (List.Sublist.cons _ (List.Sublist.refl _)))) (List.Perm.refl _) ⟨(Hp.le_trans hle119 hle127), v122, v124, rfl, rfl, h123, h125⟩

theorem m_forecast_line_c {B : Nat} {w0 w : World} [Tabs B w0] {H : Hp} {M : List Res} {p0_l : (List Int)} {v0 : Value} {r : S_large_Rat × S_large_Rat × Int} (hm : m_forecast_line p0_l = some r) (h0 : RdS H v0 p0_l) (ht : St B w0 H (M) w) :
  Calls prog 28 [v0].toArray w (Ret B w0 fun H' M' v => H.le H' ∧ ∃ qv0 : Value, ∃ qv1 : Value, ∃ qv2 : Value, ∃ qv3 : Value, M = M' ∧ .tuple #[.agg [.bool (r.1.N.minus), qv0, .bool (r.1.D.minus), qv1].toArray, .agg [.bool (r.2.1.N.minus), qv2, .bool (r.2.1.D.minus), qv3].toArray, .int .i64 (r.2.2)] = v ∧ RdS H' qv0 r.1.N.words ∧ RdS H' qv1 r.1.D.words ∧ RdS H' qv2 r.2.1.N.words ∧ RdS H' qv3 r.2.1.D.words) := by
 unfold m_forecast_line at hm
 refine enter func28 rfl rfl rfl ht ?_
 refine C_seq (C_region ?_)
 refine W_alloc (cs := [.bool (false), .slice none 0 0, .bool (false), .slice none 0 0]) rfl rfl zeroValue50 rfl (fun b101 => ?_)
 refine W_alloc (cs := [.bool (false), .slice none 0 0, .bool (false), .slice none 0 0]) rfl rfl zeroValue50 rfl (fun b102 => ?_)
 refine W_assign rfl rfl rfl ?_
 refine W_end (E_then (C_seq (C_region ?_)))
 refine W_move rfl rfl rfl ?_
 refine W_lenR rfl rfl runUnderlying22 rfl h0 ?_
 refine W_assign rfl rfl rfl ?_
 refine W_end (E_then (C_seq (C_seq (C_region ?_))))
 refine W_move rfl rfl rfl ?_
 refine W_bin rfl rfl rfl rfl rfl ?_
 refine W_end (E_then ?_)
 refine C_cond (b := decide ((p0_l.length : Int) < 2)) rfl (fun hb103 => ?_) (fun hb103 => ?_)
 ·have hm := ite_t' hb103 hm
  refine C_seq (C_region ?_)
  refine W_build (css := []) (zs := [.bool (false), .slice none 0 0, .bool (false), .slice none 0 0]) (out := [.bool (false), .slice none 0 0, .bool (false), .slice none 0 0]) (places := [(0, 2), (2, 2)]) rfl rfl rfl trivial zeroValue50 rfl runUnderlying50 (fun w => by kernel_rfl) rfl ?_
  refine W_build (css := []) (zs := [.bool (false), .slice none 0 0, .bool (false), .slice none 0 0]) (out := [.bool (false), .slice none 0 0, .bool (false), .slice none 0 0]) (places := [(0, 2), (2, 2)]) rfl rfl rfl trivial zeroValue50 rfl runUnderlying50 (fun w => by kernel_rfl) rfl ?_
  refine W_perm (List.Perm.swap _ _ _) ?_
  refine W_store (cs := [.bool (false), .slice none 0 0, .bool (false), .slice none 0 0]) (out := [.bool (false), .slice none 0 0, .bool (false), .slice none 0 0]) rfl sizeOf50 rfl rfl rfl rfl rfl (all_cons rfl (all_cons rfl (all_cons rfl (all_cons rfl all_nil)))) (over_all rfl) ?_
  refine W_perm (List.Perm.swap _ _ _) ?_
  refine W_store (cs := [.bool (false), .slice none 0 0, .bool (false), .slice none 0 0]) (out := [.bool (false), .slice none 0 0, .bool (false), .slice none 0 0]) rfl sizeOf50 rfl rfl rfl rfl rfl (all_cons rfl (all_cons rfl (all_cons rfl (all_cons rfl all_nil)))) (over_all rfl) ?_
  refine W_assign rfl rfl rfl ?_
  refine W_end (E_then (C_ret (E_ret_then ?_)))
  obtain rfl := Option.some.inj hm
  exact endC3 (Hp.le_refl _) rfl (ResV.agg rfl isAgg50 sizeOf50 (List.mem_cons_of_mem _ (List.mem_cons_self ..)) rfl) (ResV.agg rfl isAgg50 sizeOf50 (List.mem_cons_self ..) rfl) (ResV.tmp rfl) (List.Sublist.cons _ (List.Sublist.cons _ (List.Sublist.refl _))) (List.Perm.refl _) ⟨(Hp.le_refl _), (.slice none 0 0), (.slice none 0 0), (.slice none 0 0), (.slice none 0 0), rfl, rfl, RdS.nil, RdS.nil, RdS.nil, RdS.nil⟩
 ·have hm := ite_f' hb103 hm
  refine C_skip (E_then (C_seq (C_region ?_)))
  refine W_move rfl rfl rfl ?_
  obtain ⟨r104, hc105, hm⟩ := bind_some hm
  refine W_call call27 rfl rfl rfl (fun w ht => by have h := m_forecast_sum_c (hm := hc105) h0 ht; exact h) ?_
  rintro _ _ _ ⟨rfl, rfl, rfl⟩
  refine W_assign rfl rfl rfl ?_
  refine W_assign rfl rfl rfl ?_
  refine W_assign rfl rfl rfl ?_
  refine W_assign rfl rfl rfl ?_
  refine W_end (E_then (C_seq (C_seq (C_region ?_))))
  refine W_move rfl rfl rfl ?_
  refine W_lenR rfl rfl runUnderlying22 rfl h0 ?_
  refine W_move rfl rfl rfl ?_
  refine W_end (E_then (C_block ?_))
  refine C_keep (L' := [(2, .pointer (some ⟨b101, 0, none⟩)), (3, .pointer (some ⟨b102, 0, none⟩)), (5, .int .i64 ((p0_l.length : Int))), (6, .int .i64 (0)), (7, .int .i64 (0)), (8, .int .i64 (0)), (9, .int .i64 (r104)), (21, v0), (22, .int .i64 ((p0_l.length : Int))), (23, .int .i64 (((0 : Nat) : Int)))]) ⟨rfl, rfl, rfl, rfl, rfl, rfl, rfl, rfl, rfl, rfl, trivial⟩ (List.Perm.refl _) ?_
  refine C_loop (fun n H' M' L' => ∃ (k106 : Nat) (zs125' : List Int), ∃ n115 : Int, ∃ n116 : Int, ∃ n117 : Int, (p0_l).drop k106 = zs125' ∧ zs125'.length = n ∧ forI (fun k y s120 n => m_forecast_line_b1 k y s120.1 s120.2.1 s120.2.2 n) (fun s120 => (m_large_Frac (IntKind.i64.wrap ((IntKind.i64.wrap ((p0_l.length : Int) * s120.2.2)) - (IntKind.i64.wrap (s120.1 * r104)))) (IntKind.i64.wrap ((IntKind.i64.wrap ((p0_l.length : Int) * s120.2.1)) - (IntKind.i64.wrap (s120.1 * s120.1))))).bind fun r131 => (m_large_Frac r104 (p0_l.length : Int)).bind fun r140 => (m_large_Frac s120.1 (p0_l.length : Int)).bind fun r148 => (m_large_Rat_Mul r131 r148).bind fun r156 => (m_large_Rat_Sub r140 r156).bind fun r164 => some (r131, r164, 0)) k106 zs125' (n115, n116, n117) = some r ∧ H.le H' ∧ .obj b102 (.cells ([.bool (false), .slice none 0 0, .bool (false), .slice none 0 0] : List Value).toArray 50 (0, 0)) :: .obj b101 (.cells ([.bool (false), .slice none 0 0, .bool (false), .slice none 0 0] : List Value).toArray 50 (0, 0)) :: M = M' ∧ [(2, .pointer (some ⟨b101, 0, none⟩)), (3, .pointer (some ⟨b102, 0, none⟩)), (5, .int .i64 ((p0_l.length : Int))), (6, .int .i64 (n115)), (7, .int .i64 (n116)), (8, .int .i64 (n117)), (9, .int .i64 (r104)), (21, v0), (22, .int .i64 ((p0_l.length : Int))), (23, .int .i64 ((k106 : Int)))] = L') _ ⟨0, _, 0, 0, 0, rfl, rfl, hm, (Hp.le_refl _), rfl, rfl⟩ ?_
  rintro _ H118 _ _ ⟨k106, zs125', n115, n116, n117, hd127, rfl, hm, hle119, rfl, rfl⟩
  refine C_seq (C_region ?_)
  refine W_bin rfl rfl rfl rfl rfl ?_
  refine W_end (E_then (C_seq ?_))
  refine C_cond (b := decide ((k106 : Int) < (p0_l.length : Int))) rfl (fun hb129 => ?_) (fun hb129 => ?_)
  ·obtain ⟨y124, zs125, rfl, hy126, hd128⟩ := rng_t hd127 hb129
   have hm : m_forecast_line_b1 k106 y124 n115 n116 n117 (forI (fun k y s120 n => m_forecast_line_b1 k y s120.1 s120.2.1 s120.2.2 n) (fun s120 => (m_large_Frac (IntKind.i64.wrap ((IntKind.i64.wrap ((p0_l.length : Int) * s120.2.2)) - (IntKind.i64.wrap (s120.1 * r104)))) (IntKind.i64.wrap ((IntKind.i64.wrap ((p0_l.length : Int) * s120.2.1)) - (IntKind.i64.wrap (s120.1 * s120.1))))).bind fun r131 => (m_large_Frac r104 (p0_l.length : Int)).bind fun r140 => (m_large_Frac s120.1 (p0_l.length : Int)).bind fun r148 => (m_large_Rat_Mul r131 r148).bind fun r156 => (m_large_Rat_Sub r140 r156).bind fun r164 => some (r131, r164, 0)) (k106 + 1) zs125) = some r := hm
   generalize hn122 : forI (fun k y s120 n => m_forecast_line_b1 k y s120.1 s120.2.1 s120.2.2 n) (fun s120 => (m_large_Frac (IntKind.i64.wrap ((IntKind.i64.wrap ((p0_l.length : Int) * s120.2.2)) - (IntKind.i64.wrap (s120.1 * r104)))) (IntKind.i64.wrap ((IntKind.i64.wrap ((p0_l.length : Int) * s120.2.1)) - (IntKind.i64.wrap (s120.1 * s120.1))))).bind fun r131 => (m_large_Frac r104 (p0_l.length : Int)).bind fun r140 => (m_large_Frac s120.1 (p0_l.length : Int)).bind fun r148 => (m_large_Rat_Mul r131 r148).bind fun r156 => (m_large_Rat_Sub r140 r156).bind fun r164 => some (r131, r164, 0)) (k106 + 1) zs125 = nx121 at hm
   unfold m_forecast_line_b1 at hm
   refine C_skip (E_then (C_seq (C_block (C_seq (C_region ?_)))))
   refine W_move rfl rfl rfl ?_
   obtain ⟨_, rfl, hc130⟩ := (h0).elem hy126
   refine W_indexS rfl rfl runUnderlying22 sizeOf3 rfl (h0.mono hle119) rfl (Int.natCast_nonneg _) hy126 ?_
   refine W_load rfl rfl isAgg3 rfl (HCells.one (hc130.mono hle119) 0 rfl).at ?_
   refine W_assign rfl rfl rfl ?_
   refine W_assign rfl rfl rfl ?_
   refine W_end (E_then (C_seq (C_region ?_)))
   refine W_move rfl rfl rfl ?_
   refine W_move rfl rfl rfl ?_
   refine W_bin rfl rfl rfl rfl rfl ?_
   refine W_assign rfl rfl rfl ?_
   refine W_end (E_then (C_seq (C_region ?_)))
   refine W_move rfl rfl rfl ?_
   refine W_move rfl rfl rfl ?_
   refine W_move rfl rfl rfl ?_
   refine W_bin rfl rfl rfl rfl rfl ?_
   refine W_bin rfl rfl rfl rfl rfl ?_
   refine W_assign rfl rfl rfl ?_
   refine W_end (E_then (C_region ?_))
   refine W_move rfl rfl rfl ?_
   refine W_move rfl rfl rfl ?_
   refine W_move rfl rfl rfl ?_
   refine W_bin rfl rfl rfl rfl rfl ?_
   refine W_bin rfl rfl rfl rfl rfl ?_
   refine W_assign rfl rfl rfl ?_
   refine W_end (E_normal_block (E_then (C_region ?_)))
   refine W_bin rfl rfl rfl rfl rfl ?_
   refine W_move rfl rfl rfl ?_
   refine W_end ?_
   exact E_keepJ (E_back (Nat.lt_succ_self _) ⟨k106 + 1, zs125, IntKind.i64.wrap (n115 + (k106 : Int)), IntKind.i64.wrap (n116 + (IntKind.i64.wrap ((k106 : Int) * (k106 : Int)))), IntKind.i64.wrap (n117 + (IntKind.i64.wrap ((k106 : Int) * y124))), hd128, rfl, (by rw [hn122]; exact hm), hle119, rfl, rfl⟩) (List.Perm.refl _) ⟨rfl, rfl, rfl, rfl, rfl, rfl, rfl, rfl, rfl, (congrArg (fun z => some (Value.int .i64 z)) (i64_succ hy126 ((h0.mono hle119)).lenMax)), trivial⟩
  ·obtain rfl := rng_f hd127 hb129
   have hm : ((m_large_Frac (IntKind.i64.wrap ((IntKind.i64.wrap ((p0_l.length : Int) * n117)) - (IntKind.i64.wrap (n115 * r104)))) (IntKind.i64.wrap ((IntKind.i64.wrap ((p0_l.length : Int) * n116)) - (IntKind.i64.wrap (n115 * n115))))).bind fun r131 => (m_large_Frac r104 (p0_l.length : Int)).bind fun r140 => (m_large_Frac n115 (p0_l.length : Int)).bind fun r148 => (m_large_Rat_Mul r131 r148).bind fun r156 => (m_large_Rat_Sub r140 r156).bind fun r164 => some (r131, r164, 0)) = some r := hm
   refine C_exit (E_exit_then (E_exit_then (E_exit_hit (E_then (C_seq (C_region ?_))))))
   refine W_move rfl rfl rfl ?_
   refine W_move rfl rfl rfl ?_
   refine W_bin rfl rfl rfl rfl rfl ?_
   refine W_move rfl rfl rfl ?_
   refine W_move rfl rfl rfl ?_
   refine W_bin rfl rfl rfl rfl rfl ?_
   refine W_bin rfl rfl rfl rfl rfl ?_
   refine W_move rfl rfl rfl ?_
   refine W_move rfl rfl rfl ?_
   refine W_bin rfl rfl rfl rfl rfl ?_
   refine W_move rfl rfl rfl ?_
   refine W_move rfl rfl rfl ?_
   refine W_bin rfl rfl rfl rfl rfl ?_
   refine W_bin rfl rfl rfl rfl rfl ?_
   obtain ⟨r131, hc132, hm⟩ := bind_some hm
   refine W_call call24 rfl rfl rfl (fun w ht => by have h := m_large_Frac_c (hm := hc132)  ht; exact h) ?_
   rintro _ H137 _ ⟨hle138, v133, v135, rfl, rfl, h134, h136⟩
   refine W_alloc (cs := [.bool (false), .slice none 0 0, .bool (false), .slice none 0 0]) rfl rfl zeroValue50 rfl (fun b139 => ?_)
   refine W_store (cs := [.bool (r131.N.minus), v133, .bool (r131.D.minus), v135]) (out := [.bool (r131.N.minus), v133, .bool (r131.D.minus), v135]) rfl sizeOf50 rfl rfl rfl rfl rfl (all_cons rfl (all_cons (RdS.one1 h134) (all_cons rfl (all_cons (RdS.one1 h136) all_nil)))) (over_all rfl) ?_
   refine W_end (E_then (C_seq ?_))
   obtain ⟨r140, hc141, hm⟩ := bind_some hm
   obtain ⟨r148, hc149, hm⟩ := bind_some hm
   obtain ⟨r156, hc157, hm⟩ := bind_some hm
   obtain ⟨r164, hc165, hm⟩ := bind_some hm
   refine C_region_tok0 10 (phiT [(fun H rs v => [] = rs ∧ .agg [.bool (r131.N.minus), v133, .bool (r131.D.minus), v135].toArray = v), (fun H rs v => [] = rs ∧ .int .i64 (r104) = v), (fun H rs v => [] = rs ∧ .int .i64 ((p0_l.length : Int)) = v), (fun H rs v => ∃ v172 : Value, ∃ v174 : Value, [] = rs ∧ .agg [.bool (r140.N.minus), v172, .bool (r140.D.minus), v174].toArray = v ∧ RdS H v172 r140.N.words ∧ RdS H v174 r140.D.words), (fun H rs v => [] = rs ∧ .agg [.bool (r131.N.minus), v133, .bool (r131.D.minus), v135].toArray = v), (fun H rs v => [] = rs ∧ .int .i64 (n115) = v), (fun H rs v => [] = rs ∧ .int .i64 ((p0_l.length : Int)) = v), (fun H rs v => ∃ v178 : Value, ∃ v180 : Value, [] = rs ∧ .agg [.bool (r148.N.minus), v178, .bool (r148.D.minus), v180].toArray = v ∧ RdS H v178 r148.N.words ∧ RdS H v180 r148.D.words), (fun H rs v => ∃ v184 : Value, ∃ v186 : Value, [] = rs ∧ .agg [.bool (r156.N.minus), v184, .bool (r156.D.minus), v186].toArray = v ∧ RdS H v184 r156.N.words ∧ RdS H v186 r156.D.words), (fun H rs v => ∃ v190 : Value, ∃ v192 : Value, [] = rs ∧ .agg [.bool (r164.N.minus), v190, .bool (r164.D.minus), v192].toArray = v ∧ RdS H v190 r164.N.words ∧ RdS H v192 r164.D.words)]) [[], [], [], [], [], [], [], [], [], []] [[], [], [], [], [], [], [], [], [], []] [] [0, 1, 2, 3, 4, 5, 6, 7, 8, 9] Facts.mixed (by kernel_rfl) (by rfl) (by rfl) (by rfl) (by kernel_rfl) (phiT_mono ⟨eq_monoT _ _, eq_monoT _ _, eq_monoT _ _, (by rintro H1 H2 rs v hle ⟨v172, v174, rfl, rfl, h173, h175⟩; exact ⟨v172, v174, rfl, rfl, (h173.mono hle), (h175.mono hle)⟩), eq_monoT _ _, eq_monoT _ _, eq_monoT _ _, (by rintro H1 H2 rs v hle ⟨v178, v180, rfl, rfl, h179, h181⟩; exact ⟨v178, v180, rfl, rfl, (h179.mono hle), (h181.mono hle)⟩), (by rintro H1 H2 rs v hle ⟨v184, v186, rfl, rfl, h185, h187⟩; exact ⟨v184, v186, rfl, rfl, (h185.mono hle), (h187.mono hle)⟩), (by rintro H1 H2 rs v hle ⟨v190, v192, rfl, rfl, h191, h193⟩; exact ⟨v190, v192, rfl, rfl, (h191.mono hle), (h193.mono hle)⟩), trivial⟩) ⟨?_, ?_, ?_, ?_, ?_, ?_, ?_, ?_, ?_, ?_, trivial⟩ ?_
   ·intro HX hX X Rest hR
    intro hU hUp
    refine W_loadAgg rfl rfl isAgg50 sizeOf50 rfl (own_all (hR _ (List.mem_cons_self ..))) rfl ?_
    exact W_end (OneT_end [] (Hp.le_refl _) ⟨rfl, rfl⟩)
   ·intro HX hX X Rest hR
    intro hU hUp
    refine W_move rfl rfl rfl ?_
    exact W_end (OneT_end [] (Hp.le_refl _) ⟨rfl, rfl⟩)
   ·intro HX hX X Rest hR
    intro hU hUp
    refine W_move rfl rfl rfl ?_
    exact W_end (OneT_end [] (Hp.le_refl _) ⟨rfl, rfl⟩)
   ·intro HX hX X Rest hR
    rintro _ _ ⟨rfl, rfl⟩
    rintro _ _ ⟨rfl, rfl⟩
    intro hU hUp
    refine W_call call24 rfl rfl rfl (fun w ht => by have h := m_large_Frac_c (hm := hc141)  ht; exact h) ?_
    rintro _ H176 _ ⟨hle177, v172, v174, rfl, rfl, h173, h175⟩
    exact W_end (OneT_end [] hle177 ⟨v172, v174, rfl, rfl, (h173), (h175)⟩)
   ·intro HX hX X Rest hR
    intro hU hUp
    refine W_loadAgg rfl rfl isAgg50 sizeOf50 rfl (own_all (hR _ (List.mem_cons_self ..))) rfl ?_
    exact W_end (OneT_end [] (Hp.le_refl _) ⟨rfl, rfl⟩)
   ·intro HX hX X Rest hR
    intro hU hUp
    refine W_move rfl rfl rfl ?_
    exact W_end (OneT_end [] (Hp.le_refl _) ⟨rfl, rfl⟩)
   ·intro HX hX X Rest hR
    intro hU hUp
    refine W_move rfl rfl rfl ?_
    exact W_end (OneT_end [] (Hp.le_refl _) ⟨rfl, rfl⟩)
   ·intro HX hX X Rest hR
    rintro _ _ ⟨rfl, rfl⟩
    rintro _ _ ⟨rfl, rfl⟩
    rintro _ _ ⟨v172, v174, rfl, rfl, h173, h175⟩
    intro hU hUp
    refine W_call call24 rfl rfl rfl (fun w ht => by have h := m_large_Frac_c (hm := hc149)  ht; exact h) ?_
    rintro _ H182 _ ⟨hle183, v178, v180, rfl, rfl, h179, h181⟩
    exact W_end (OneT_end [] hle183 ⟨v178, v180, rfl, rfl, (h179), (h181)⟩)
   ·intro HX hX X Rest hR
    rintro _ _ ⟨rfl, rfl⟩
    rintro _ _ ⟨v178, v180, rfl, rfl, h179, h181⟩
    rintro _ _ ⟨v178, v180, rfl, rfl, h179, h181⟩
    intro hU hUp
    refine W_call call29 rfl rfl rfl (fun w ht => by have h := m_large_Rat_Mul_c (hm := hc157) (h134.mono hX) (h136.mono hX) h179 h181 ht; exact h) ?_
    rintro _ H188 _ ⟨hle189, v184, v186, rfl, rfl, h185, h187⟩
    exact W_end (OneT_end [] hle189 ⟨v184, v186, rfl, rfl, (h185), (h187)⟩)
   ·intro HX hX X Rest hR
    rintro _ _ ⟨v172, v174, rfl, rfl, h173, h175⟩
    rintro _ _ ⟨v184, v186, rfl, rfl, h185, h187⟩
    rintro _ _ ⟨v184, v186, rfl, rfl, h185, h187⟩
    intro hU hUp
    refine W_call call34 rfl rfl rfl (fun w ht => by have h := m_large_Rat_Sub_c (hm := hc165) h173 h175 h185 h187 ht; exact h) ?_
    rintro _ H194 _ ⟨hle195, v190, v192, rfl, rfl, h191, h193⟩
    exact W_end (OneT_end [] hle195 ⟨v190, v192, rfl, rfl, (h191), (h193)⟩)
   intro H196 hle197
   rintro _ _ ⟨rfl, rfl⟩
   rintro _ _ ⟨rfl, rfl⟩
   rintro _ _ ⟨rfl, rfl⟩
   rintro _ _ ⟨v172, v174, rfl, rfl, h173, h175⟩
   rintro _ _ ⟨rfl, rfl⟩
   rintro _ _ ⟨rfl, rfl⟩
   rintro _ _ ⟨rfl, rfl⟩
   rintro _ _ ⟨v178, v180, rfl, rfl, h179, h181⟩
   rintro _ _ ⟨v184, v186, rfl, rfl, h185, h187⟩
   rintro _ _ ⟨v190, v192, rfl, rfl, h191, h193⟩
   refine W_perm (List.Perm.trans (List.Perm.cons _ (List.Perm.swap _ _ _)) (List.Perm.swap _ _ _)) ?_
   refine W_store (cs := [.bool (r131.N.minus), v133, .bool (r131.D.minus), v135]) (out := [.bool (r131.N.minus), v133, .bool (r131.D.minus), v135]) rfl sizeOf50 rfl rfl rfl rfl rfl (all_cons rfl (all_cons (RdS.one1 (h134.mono hle197)) (all_cons rfl (all_cons (RdS.one1 (h136.mono hle197)) all_nil)))) (over_all rfl) ?_
   refine W_perm (List.Perm.trans (List.Perm.cons _ (List.Perm.swap _ _ _)) (List.Perm.swap _ _ _)) ?_
   refine W_store (cs := [.bool (r164.N.minus), v190, .bool (r164.D.minus), v192]) (out := [.bool (r164.N.minus), v190, .bool (r164.D.minus), v192]) rfl sizeOf50 rfl rfl rfl rfl rfl (all_cons rfl (all_cons (RdS.one1 h191) (all_cons rfl (all_cons (RdS.one1 h193) all_nil)))) (over_all rfl) ?_
   refine W_assign rfl rfl rfl ?_
   refine W_end (E_then (C_ret ?_))
   obtain rfl := Option.some.inj hm
   exact endC3 (Hp.le_refl _) rfl (ResV.agg rfl isAgg50 sizeOf50 (List.mem_cons_of_mem _ (List.mem_cons_self ..)) rfl) (ResV.agg rfl isAgg50 sizeOf50 (List.mem_cons_self ..) rfl) (ResV.tmp rfl) (List.Sublist.cons _ (List.Sublist.cons _ (List.Sublist.cons _ (List.Sublist.refl _)))) (List.Perm.refl _) ⟨(Hp.le_trans (Hp.le_trans hle119 hle138) hle197), v133, v135, v190, v192, rfl, rfl, (h134.mono hle197), (h136.mono hle197), h191, h193⟩

theorem m_large_Whole_c {B : Nat} {w0 w : World} [Tabs B w0] {H : Hp} {M : List Res} {p0_n : Int} {r : S_large_Rat} (hm : m_large_Whole p0_n = some r) (ht : St B w0 H (M) w) :
  Calls prog 30 [.int .i64 (p0_n)].toArray w (Ret B w0 fun H' M' v => H.le H' ∧ ∃ qv0 : Value, ∃ qv1 : Value, M = M' ∧ .agg [.bool (r.N.minus), qv0, .bool (r.D.minus), qv1].toArray = v ∧ RdS H' qv0 r.N.words ∧ RdS H' qv1 r.D.words) := by
 unfold m_large_Whole at hm
 refine enter func30 rfl rfl rfl ht ?_
 refine C_seq (C_region ?_)
 refine W_alloc (cs := [.bool (false), .slice none 0 0, .bool (false), .slice none 0 0]) rfl rfl zeroValue50 rfl (fun b101 => ?_)
 refine W_end (E_then (C_seq (C_region ?_)))
 refine W_move rfl rfl rfl ?_
 obtain ⟨r102, hc103, hm⟩ := bind_some hm
 refine W_call call41 rfl rfl rfl (fun w ht => by have h := m_large_Of_c (hm := hc103)  ht; exact h) ?_
 rintro _ H106 _ ⟨hle107, v104, rfl, rfl, h105⟩
 obtain ⟨r108, hc109, hm⟩ := bind_some hm
 refine W_call call41 rfl rfl rfl (fun w ht => by have h := m_large_Of_c (hm := hc109)  ht; exact h) ?_
 rintro _ H112 _ ⟨hle113, v110, rfl, rfl, h111⟩
 refine W_build (css := [[.bool (r102.minus), v104], [.bool (r108.minus), v110]]) (zs := [.bool (false), .slice none 0 0, .bool (false), .slice none 0 0]) (out := [.bool (r102.minus), v104, .bool (r108.minus), v110]) (places := [(0, 2), (2, 2)]) rfl rfl rfl ⟨rfl, rfl, trivial⟩ zeroValue50 rfl runUnderlying50 (fun w => by kernel_rfl) rfl ?_
 refine W_store (cs := [.bool (r102.minus), v104, .bool (r108.minus), v110]) (out := [.bool (r102.minus), v104, .bool (r108.minus), v110]) rfl sizeOf50 rfl rfl rfl rfl rfl (all_cons rfl (all_cons (RdS.one1 (h105.mono hle113)) (all_cons rfl (all_cons (RdS.one1 h111) all_nil)))) (over_all rfl) ?_
 refine W_end (E_then (C_ret ?_))
 obtain rfl := Option.some.inj hm
 exact endC1 (Hp.le_refl _) rfl (ResV.agg rfl isAgg50 sizeOf50 (List.mem_cons_self ..) rfl) (List.Sublist.cons _ (List.Sublist.refl _)) (List.Perm.refl _) ⟨(Hp.le_trans hle107 hle113), v104, v110, rfl, rfl, (h105.mono hle113), h111⟩

theorem m_forecast_Ahead_c {B : Nat} {w0 w : World} [Tabs B w0] {H : Hp} {M : List Res} {p0_l : (List Int)} {p1_k : Int} {v0 : Value} {r : ByteArray × Int} (hm : m_forecast_Ahead p0_l p1_k = some r) (h0 : RdS H v0 p0_l) (ht : St B w0 H (M) w) :
  Calls prog 11 [v0, .int .i64 (p1_k)].toArray w (Ret B w0 fun H' M' v => H = H' ∧ M = M' ∧ .tuple #[.string (r.1), .int .i64 (r.2)] = v) := by
 unfold m_forecast_Ahead at hm
 refine enter func11 rfl rfl rfl ht ?_
 refine C_seq (C_region ?_)
 refine W_assign rfl rfl rfl ?_
 refine W_assign rfl rfl rfl ?_
 refine W_end (E_then (C_seq (C_seq (C_region ?_))))
 refine W_move rfl rfl rfl ?_
 obtain ⟨r101, hc102, hm⟩ := bind_some hm
 refine W_call call25 rfl rfl rfl (fun w ht => by have h := m_forecast_Check_c (hm := hc102) h0 ht; exact h) ?_
 rintro _ _ _ ⟨rfl, rfl, rfl⟩
 refine W_assign rfl rfl rfl ?_
 refine W_end (E_then (C_seq (C_region ?_)))
 refine W_move rfl rfl rfl ?_
 refine W_bin rfl rfl rfl rfl rfl ?_
 refine W_end (E_then ?_)
 refine C_cond (b := !decide (r101 = 0)) rfl (fun hb103 => ?_) (fun hb103 => ?_)
 ·have hm := ite_t' hb103 hm
  refine C_seq (C_region ?_)
  refine W_move rfl rfl rfl ?_
  refine W_assign rfl rfl rfl ?_
  refine W_assign rfl rfl rfl ?_
  refine W_end (E_then (C_ret (E_ret_then ?_)))
  obtain rfl := Option.some.inj hm
  refine E_weak (Hp.le_refl _) ?_
  exact end2 rfl rfl rfl ⟨rfl, rfl, rfl⟩
 ·have hm := ite_f' hb103 hm
  refine C_skip (E_then (C_seq (C_region ?_)))
  refine W_move rfl rfl rfl ?_
  obtain ⟨r104, hc105, hm⟩ := bind_some hm
  refine W_call call28 rfl rfl rfl (fun w ht => by have h := m_forecast_line_c (hm := hc105) h0 ht; exact h) ?_
  rintro _ H114 _ ⟨hle115, v106, v108, v110, v112, rfl, rfl, h107, h109, h111, h113⟩
  refine W_move rfl rfl rfl ?_
  refine W_extract rfl rfl rfl rfl ?_
  refine W_extract rfl rfl rfl rfl ?_
  refine W_extract rfl rfl rfl rfl ?_
  refine W_alloc (cs := [.bool (false), .slice none 0 0, .bool (false), .slice none 0 0]) rfl rfl zeroValue50 rfl (fun b116 => ?_)
  refine W_alloc (cs := [.bool (false), .slice none 0 0, .bool (false), .slice none 0 0]) rfl rfl zeroValue50 rfl (fun b117 => ?_)
  refine W_perm (List.Perm.swap _ _ _) ?_
  refine W_store (cs := [.bool (r104.1.N.minus), v106, .bool (r104.1.D.minus), v108]) (out := [.bool (r104.1.N.minus), v106, .bool (r104.1.D.minus), v108]) rfl sizeOf50 rfl rfl rfl rfl rfl (all_cons rfl (all_cons (RdS.one1 h107) (all_cons rfl (all_cons (RdS.one1 h109) all_nil)))) (over_all rfl) ?_
  refine W_perm (List.Perm.swap _ _ _) ?_
  refine W_store (cs := [.bool (r104.2.1.N.minus), v110, .bool (r104.2.1.D.minus), v112]) (out := [.bool (r104.2.1.N.minus), v110, .bool (r104.2.1.D.minus), v112]) rfl sizeOf50 rfl rfl rfl rfl rfl (all_cons rfl (all_cons (RdS.one1 h111) (all_cons rfl (all_cons (RdS.one1 h113) all_nil)))) (over_all rfl) ?_
  refine W_assign rfl rfl rfl ?_
  refine W_end (E_then (C_seq (C_block (C_seq (C_region ?_)))))
  refine W_move rfl rfl rfl ?_
  refine W_bin rfl rfl rfl rfl rfl ?_
  refine W_assign rfl rfl rfl ?_
  refine W_end (E_then ?_)
  refine C_cond (b := !decide (r104.2.2 = 0)) rfl (fun hb118 => ?_) (fun hb118 => ?_)
  ·have hm := ite_t' hb118 hm
   refine C_seq (C_region ?_)
   refine W_move rfl rfl rfl ?_
   refine W_assign rfl rfl rfl ?_
   refine W_assign rfl rfl rfl ?_
   refine W_end (E_then (C_ret (E_ret_block (E_ret_then ?_))))
   obtain rfl := Option.some.inj hm
   refine E_drop (List.Sublist.cons _ (List.Sublist.cons _ (List.Sublist.refl _))) ?_
   refine E_weak hle115 ?_
   exact end2 rfl rfl rfl ⟨rfl, rfl, rfl⟩
  ·have hm := ite_f' hb118 hm
   refine C_seq_join (fun H' M' L' => H114 = H' ∧ .obj b117 (.cells [.bool (r104.2.1.N.minus), v110, .bool (r104.2.1.D.minus), v112].toArray 50 (0, 0)) :: .obj b116 (.cells [.bool (r104.1.N.minus), v106, .bool (r104.1.D.minus), v108].toArray 50 (0, 0)) :: M = M' ∧ [(0, v0), (1, .int .i64 (p1_k)), (7, .pointer (some ⟨b116, 0, none⟩)), (8, .pointer (some ⟨b117, 0, none⟩)), (25, .bool ((decide (p1_k < 0)) || (decide (48 < p1_k))))] = L') ?_ (fun J120 => ?_)
   ·rintro _ _ _ ⟨rfl, rfl, rfl⟩
    refine C_cond (b := (decide (p1_k < 0)) || (decide (48 < p1_k))) rfl (fun hb121 => ?_) (fun hb121 => ?_)
    ·have hm := ite_t' hb121 hm
     refine C_seq (C_region ?_)
     refine W_assign rfl rfl rfl ?_
     refine W_assign rfl rfl rfl ?_
     refine W_end (E_then (C_ret (E_ret_block (E_ret_then ?_))))
     obtain rfl := Option.some.inj hm
     refine E_drop (List.Sublist.cons _ (List.Sublist.cons _ (List.Sublist.refl _))) ?_
     refine E_weak hle115 ?_
     exact end2 rfl rfl rfl ⟨rfl, rfl, rfl⟩
    ·have hm := ite_f' hb121 hm
     refine C_skip (E_normal_block (E_then (C_seq ?_)))
     obtain ⟨r122, hc123, hm⟩ := bind_some hm
     obtain ⟨r130, hc131, hm⟩ := bind_some hm
     obtain ⟨r138, hc139, hm⟩ := bind_some hm
     obtain ⟨r146, hc147, hm⟩ := bind_some hm
     refine C_region_tok0 13 (phiT [(fun H rs v => [] = rs ∧ .agg [.bool (r104.1.N.minus), v106, .bool (r104.1.D.minus), v108].toArray = v), (fun H rs v => [] = rs ∧ v0 = v), (fun H rs v => [] = rs ∧ .int .i64 ((p0_l.length : Int)) = v), (fun H rs v => [] = rs ∧ .int .i64 (IntKind.i64.wrap ((p0_l.length : Int) - 1)) = v), (fun H rs v => [] = rs ∧ .int .i64 (p1_k) = v), (fun H rs v => [] = rs ∧ .int .i64 (IntKind.i64.wrap ((IntKind.i64.wrap ((p0_l.length : Int) - 1)) + p1_k)) = v), (fun H rs v => ∃ v148 : Value, ∃ v150 : Value, [] = rs ∧ .agg [.bool (r122.N.minus), v148, .bool (r122.D.minus), v150].toArray = v ∧ RdS H v148 r122.N.words ∧ RdS H v150 r122.D.words), (fun H rs v => ∃ v154 : Value, ∃ v156 : Value, [] = rs ∧ .agg [.bool (r130.N.minus), v154, .bool (r130.D.minus), v156].toArray = v ∧ RdS H v154 r130.N.words ∧ RdS H v156 r130.D.words), (fun H rs v => [] = rs ∧ .agg [.bool (r104.2.1.N.minus), v110, .bool (r104.2.1.D.minus), v112].toArray = v), (fun H rs v => ∃ v160 : Value, ∃ v162 : Value, [] = rs ∧ .agg [.bool (r138.N.minus), v160, .bool (r138.D.minus), v162].toArray = v ∧ RdS H v160 r138.N.words ∧ RdS H v162 r138.D.words), (fun H rs v => [] = rs ∧ .tuple #[.string (r146.1), .int .i64 (r146.2)] = v), (fun H rs v => [] = rs ∧ .string (r146.1) = v), (fun H rs v => [] = rs ∧ .int .i64 (r146.2) = v)]) [[], [], [], [], [], [], [], [], [], [], [], [], []] [[], [], [], [], [], [], [], [], [], [], [], [], []] [] [0, 1, 2, 3, 4, 5, 6, 7, 8, 9, 10, 11, 12] Facts.mixed (by kernel_rfl) (by rfl) (by rfl) (by rfl) (by kernel_rfl) (phiT_mono ⟨eq_monoT _ _, eq_monoT _ _, eq_monoT _ _, eq_monoT _ _, eq_monoT _ _, eq_monoT _ _, (by rintro H1 H2 rs v hle ⟨v148, v150, rfl, rfl, h149, h151⟩; exact ⟨v148, v150, rfl, rfl, (h149.mono hle), (h151.mono hle)⟩), (by rintro H1 H2 rs v hle ⟨v154, v156, rfl, rfl, h155, h157⟩; exact ⟨v154, v156, rfl, rfl, (h155.mono hle), (h157.mono hle)⟩), eq_monoT _ _, (by rintro H1 H2 rs v hle ⟨v160, v162, rfl, rfl, h161, h163⟩; exact ⟨v160, v162, rfl, rfl, (h161.mono hle), (h163.mono hle)⟩), eq_monoT _ _, eq_monoT _ _, eq_monoT _ _, trivial⟩) ⟨?_, ?_, ?_, ?_, ?_, ?_, ?_, ?_, ?_, ?_, ?_, ?_, ?_, trivial⟩ ?_
     ·intro HX hX X Rest hR
      intro hU hUp
      refine W_loadAgg rfl rfl isAgg50 sizeOf50 rfl (own_all (hR _ (List.mem_cons_of_mem _ (List.mem_cons_self ..)))) rfl ?_
      exact W_end (OneT_end [] (Hp.le_refl _) ⟨rfl, rfl⟩)
     ·intro HX hX X Rest hR
      intro hU hUp
      refine W_move rfl rfl rfl ?_
      exact W_end (OneT_end [] (Hp.le_refl _) ⟨rfl, rfl⟩)
     ·intro HX hX X Rest hR
      rintro _ _ ⟨rfl, rfl⟩
      intro hU hUp
      refine W_lenR rfl rfl runUnderlying22 rfl ((h0.mono hle115).mono hX) ?_
      exact W_end (OneT_end [] (Hp.le_refl _) ⟨rfl, rfl⟩)
     ·intro HX hX X Rest hR
      rintro _ _ ⟨rfl, rfl⟩
      intro hU hUp
      refine W_bin rfl rfl rfl rfl rfl ?_
      exact W_end (OneT_end [] (Hp.le_refl _) ⟨rfl, rfl⟩)
     ·intro HX hX X Rest hR
      intro hU hUp
      refine W_move rfl rfl rfl ?_
      exact W_end (OneT_end [] (Hp.le_refl _) ⟨rfl, rfl⟩)
     ·intro HX hX X Rest hR
      rintro _ _ ⟨rfl, rfl⟩
      rintro _ _ ⟨rfl, rfl⟩
      intro hU hUp
      refine W_bin rfl rfl rfl rfl rfl ?_
      exact W_end (OneT_end [] (Hp.le_refl _) ⟨rfl, rfl⟩)
     ·intro HX hX X Rest hR
      rintro _ _ ⟨rfl, rfl⟩
      intro hU hUp
      refine W_call call30 rfl rfl rfl (fun w ht => by have h := m_large_Whole_c (hm := hc123)  ht; exact h) ?_
      rintro _ H152 _ ⟨hle153, v148, v150, rfl, rfl, h149, h151⟩
      exact W_end (OneT_end [] hle153 ⟨v148, v150, rfl, rfl, (h149), (h151)⟩)
     ·intro HX hX X Rest hR
      rintro _ _ ⟨rfl, rfl⟩
      rintro _ _ ⟨v148, v150, rfl, rfl, h149, h151⟩
      rintro _ _ ⟨v148, v150, rfl, rfl, h149, h151⟩
      intro hU hUp
      refine W_call call29 rfl rfl rfl (fun w ht => by have h := m_large_Rat_Mul_c (hm := hc131) (h107.mono hX) (h109.mono hX) h149 h151 ht; exact h) ?_
      rintro _ H158 _ ⟨hle159, v154, v156, rfl, rfl, h155, h157⟩
      exact W_end (OneT_end [] hle159 ⟨v154, v156, rfl, rfl, (h155), (h157)⟩)
     ·intro HX hX X Rest hR
      intro hU hUp
      refine W_loadAgg rfl rfl isAgg50 sizeOf50 rfl (own_all (hR _ (List.mem_cons_self ..))) rfl ?_
      exact W_end (OneT_end [] (Hp.le_refl _) ⟨rfl, rfl⟩)
     ·intro HX hX X Rest hR
      rintro _ _ ⟨v154, v156, rfl, rfl, h155, h157⟩
      rintro _ _ ⟨rfl, rfl⟩
      rintro _ _ ⟨v154, v156, rfl, rfl, h155, h157⟩
      intro hU hUp
      refine W_call call31 rfl rfl rfl (fun w ht => by have h := m_large_Rat_Add_c (hm := hc139) h155 h157 (h111.mono hX) (h113.mono hX) ht; exact h) ?_
      rintro _ H164 _ ⟨hle165, v160, v162, rfl, rfl, h161, h163⟩
      exact W_end (OneT_end [] hle165 ⟨v160, v162, rfl, rfl, (h161), (h163)⟩)
     ·intro HX hX X Rest hR
      rintro _ _ ⟨v160, v162, rfl, rfl, h161, h163⟩
      rintro _ _ ⟨v160, v162, rfl, rfl, h161, h163⟩
      intro hU hUp
      refine W_call call26 rfl rfl rfl (fun w ht => by have h := m_forecast_text_c (hm := hc147) h161 h163 ht; exact h) ?_
      rintro _ _ _ ⟨rfl, rfl, rfl⟩
      exact W_end (OneT_end [] (Hp.le_refl _) ⟨rfl, rfl⟩)
     ·intro HX hX X Rest hR
      rintro _ _ ⟨rfl, rfl⟩
      intro hU hUp
      refine W_extract rfl rfl rfl rfl ?_
      exact W_end (OneT_end [] (Hp.le_refl _) ⟨rfl, rfl⟩)
     ·intro HX hX X Rest hR
      rintro _ _ ⟨rfl, rfl⟩
      intro hU hUp
      refine W_extract rfl rfl rfl rfl ?_
      exact W_end (OneT_end [] (Hp.le_refl _) ⟨rfl, rfl⟩)
     intro H166 hle167
     rintro _ _ ⟨rfl, rfl⟩
     rintro _ _ ⟨rfl, rfl⟩
     rintro _ _ ⟨rfl, rfl⟩
     rintro _ _ ⟨rfl, rfl⟩
     rintro _ _ ⟨rfl, rfl⟩
     rintro _ _ ⟨rfl, rfl⟩
     rintro _ _ ⟨v148, v150, rfl, rfl, h149, h151⟩
     rintro _ _ ⟨v154, v156, rfl, rfl, h155, h157⟩
     rintro _ _ ⟨rfl, rfl⟩
     rintro _ _ ⟨v160, v162, rfl, rfl, h161, h163⟩
     rintro _ _ ⟨rfl, rfl⟩
     rintro _ _ ⟨rfl, rfl⟩
     rintro _ _ ⟨rfl, rfl⟩
     refine W_assign rfl rfl rfl ?_
     refine W_assign rfl rfl rfl ?_
     refine W_end (E_then (C_ret ?_))
     obtain rfl := Option.some.inj hm
     refine E_drop (List.Sublist.cons _ (List.Sublist.cons _ (List.Sublist.refl _))) ?_
     refine E_weak (Hp.le_trans hle115 hle167) ?_
     exact end2 rfl rfl rfl ⟨rfl, rfl, rfl⟩
   ·refine C_region ?_
    refine W_move rfl rfl rfl ?_
    refine W_bin rfl rfl rfl rfl rfl ?_
    refine W_move rfl rfl rfl ?_
    cases hb168 : (decide (p1_k < 0))
    ·refine W_move rfl rfl rfl ?_
     refine W_bin rfl rfl rfl rfl rfl ?_
     refine W_pick rfl rfl rfl rfl ?_
     refine W_assign rfl rfl rfl ?_
     refine W_end ?_
     exact E_keepJ (J120 _ _ _ ⟨rfl, rfl, rfl⟩) (List.Perm.refl _) ⟨rfl, rfl, rfl, rfl, (by show some (Value.bool (decide (48 < p1_k))) = some (Value.bool ((decide (p1_k < 0)) || (decide (48 < p1_k)))); first | (simp only [hb103, hb118, hb168, Bool.and_true, Bool.true_and, Bool.false_and, Bool.and_false, Bool.or_true, Bool.true_or, Bool.or_false, Bool.false_or, Bool.not_true, Bool.not_false]; done) | (simp only [hb103, hb118, hb168]; first | done | simp only [Bool.and_true, Bool.true_and, Bool.false_and, Bool.and_false, Bool.or_true, Bool.true_or, Bool.or_false, Bool.false_or, Bool.not_true, Bool.not_false])), trivial⟩
    ·refine W_no rfl rfl rfl ?_
     refine W_no rfl rfl rfl ?_
     refine W_pick rfl rfl rfl rfl ?_
     refine W_assign rfl rfl rfl ?_
     refine W_end ?_
     exact E_keepJ (J120 _ _ _ ⟨rfl, rfl, rfl⟩) (List.Perm.refl _) ⟨rfl, rfl, rfl, rfl, (by show some (Value.bool (true)) = some (Value.bool ((decide (p1_k < 0)) || (decide (48 < p1_k)))); first | (simp only [hb103, hb118, hb168, Bool.and_true, Bool.true_and, Bool.false_and, Bool.and_false, Bool.or_true, Bool.true_or, Bool.or_false, Bool.false_or, Bool.not_true, Bool.not_false]; done) | (simp only [hb103, hb118, hb168]; first | done | simp only [Bool.and_true, Bool.true_and, Bool.false_and, Bool.and_false, Bool.or_true, Bool.true_or, Bool.or_false, Bool.false_or, Bool.not_true, Bool.not_false])), trivial⟩

theorem m_internal_stringslite_HasPrefix_c {B : Nat} {w0 w : World} [Tabs B w0] {H : Hp} {M : List Res} {p0_s : ByteArray} {p1_prefix : ByteArray} {r : Bool} (hm : m_internal_stringslite_HasPrefix p0_s p1_prefix = some r) (ht : St B w0 H (M) w) :
  Calls prog 78 [.string (p0_s), .string (p1_prefix)].toArray w (Ret B w0 fun H' M' v => H = H' ∧ M = M' ∧ .bool (r) = v) := by
 unfold m_internal_stringslite_HasPrefix at hm
 refine enter func78 rfl rfl rfl ht ?_
 refine C_seq (C_region ?_)
 refine W_assign rfl rfl rfl ?_
 refine W_end (E_then (C_seq (C_region ?_)))
 refine W_move rfl rfl rfl ?_
 refine W_lenStr rfl rfl runUnderlying9 rfl ?_
 refine W_move rfl rfl rfl ?_
 refine W_lenStr rfl rfl runUnderlying9 rfl ?_
 refine W_bin rfl rfl rfl rfl rfl ?_
 refine W_move rfl rfl rfl ?_
 cases hb101 : (decide ((p1_prefix.size : Int) ≤ (p0_s.size : Int)))
 ·have hm := ite_f' hb101 hm
  refine W_no rfl rfl rfl ?_
  refine W_no rfl rfl rfl ?_
  refine W_no rfl rfl rfl ?_
  refine W_no rfl rfl rfl ?_
  refine W_no rfl rfl rfl ?_
  refine W_no rfl rfl rfl ?_
  refine W_pick rfl rfl rfl rfl ?_
  refine W_assign rfl rfl rfl ?_
  refine W_end (E_then (C_ret ?_))
  obtain rfl := Option.some.inj hm
  refine E_weak (Hp.le_refl _) ?_
  exact end1 rfl rfl ⟨rfl, rfl, rfl⟩
 ·have hm := ite_t' hb101 hm
  refine W_move rfl rfl rfl ?_
  refine W_move rfl rfl rfl ?_
  refine W_lenStr rfl rfl runUnderlying9 rfl ?_
  obtain ⟨hz102, hm⟩ := need_some hm
  refine W_sliceStr (l := 0) (h := ((p1_prefix.size : Int) : Int).toNat) rfl rfl runUnderlying9 rfl (.inr ⟨_, _, _, rfl, rfl, by omega, by omega, rfl⟩) (.inl ⟨rfl, rfl⟩) ?_
  refine W_move rfl rfl rfl ?_
  refine W_bin rfl rfl rfl rfl rfl ?_
  refine W_pick rfl rfl rfl rfl ?_
  refine W_assign rfl rfl rfl ?_
  refine W_end (E_then (C_ret ?_))
  obtain rfl := Option.some.inj hm
  refine E_weak (Hp.le_refl _) ?_
  exact end1 rfl rfl ⟨rfl, rfl, rfl⟩
end Go.Sim
