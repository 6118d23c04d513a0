/-
  Printed by a program: each Go function computes its model.
-/
import Derived.Test.YtldmgakhhhjhoaaDoorConP1
namespace Go.Sim
open Go
set_option linter.unusedVariables false
set_option linter.unusedSimpArgs false
set_option maxRecDepth 100000
theorem m_gridhallkeep4_ArchiveParts_c {B : Nat} {w0 w : World} [Tabs B w0] {H : Hp} {M : List Res} {p0_l : (List S_api_Event)} {p1_t : Int} {v0 : Value} {r : Bool} (hm : m_gridhallkeep4_ArchiveParts p0_l p1_t = some r) (h0 : RdS H v0 p0_l) (ht : St B w0 H (M) w) :
    Calls Proofs.Tryd.prog 3 [v0, .int .i64 (p1_t)].toArray w (Ret B w0 fun H' M' v => H = H' ∧ M = M' ∧ .bool (r) = v) := by
  unfold m_gridhallkeep4_ArchiveParts at hm
  refine enter Proofs.Tryd.func3 rfl rfl rfl ht ?_
  refine C_seq ?_
  refine C_region ?_
  refine W_box (cs := [.int .i64 (p1_t)]) rfl rfl rfl rfl (fun b101 => ?_)
  refine W_assign rfl rfl rfl ?_
  refine W_end ?_
  refine E_then ?_
  refine C_seq ?_
  refine C_region ?_
  refine W_move rfl rfl rfl ?_
  obtain ⟨r102, hc103, hm⟩ := bind_some hm
  refine W_call Proofs.Tryd.call7 rfl rfl rfl (fun w ht => by have h := m_gridhallkeep4_archiveOf_c (hm := hc103) h0 ht; exact h) ?_
  rintro _ H115 _ (⟨hn109, hle111, rfl, rfl⟩ | ⟨sp104, hn112, hle114, b105, v106, xs107, rfl, rfl, h108⟩)
  · have hm := optC_n hn109 hm
    refine W_assign rfl rfl rfl ?_
    refine W_end ?_
    refine E_then ?_
    refine C_seq ?_
    refine C_seq ?_
    refine C_region ?_
    refine W_move rfl rfl rfl ?_
    refine W_ptrNil rfl rfl Proofs.Tryd.runUnderlying23 rfl rfl ?_
    refine W_move rfl rfl rfl ?_
    refine W_no rfl rfl rfl ?_
    refine W_no rfl rfl rfl ?_
    refine W_pick rfl rfl rfl rfl ?_
    refine W_end ?_
    refine E_then ?_
    refine C_cond (b := true) rfl (fun _ => ?_) (fun hb => Bool.noConfusion hb)
    refine C_seq ?_
    refine C_region ?_
    refine W_assign rfl rfl rfl ?_
    refine W_end ?_
    refine E_then ?_
    refine C_ret ?_
    refine E_ret_then ?_
    obtain rfl := Option.some.inj hm
    refine E_drop (List.Sublist.cons _ (List.Sublist.refl _)) ?_
    refine E_weak hle111 ?_
    exact end1 rfl rfl ⟨rfl, rfl, rfl⟩
  · have hm := optC_s hn112 hm
    refine W_assign rfl rfl rfl ?_
    refine W_end ?_
    refine E_then ?_
    refine C_seq ?_
    refine C_seq ?_
    refine C_region ?_
    refine W_move rfl rfl rfl ?_
    refine W_ptrNil rfl rfl Proofs.Tryd.runUnderlying23 rfl rfl ?_
    refine W_move rfl rfl rfl ?_
    obtain ⟨r116, hc117, hm⟩ := bind_some hm
    refine W_call Proofs.Tryd.call8 rfl rfl rfl (fun w ht => by have h := m_gridhallkeep4_archiveFact_c (hm := hc117)  ht; exact h) ?_
    rintro _ _ _ ⟨rfl, rfl, rfl⟩
    refine W_un rfl rfl rfl rfl ?_
    refine W_pick rfl rfl rfl rfl ?_
    refine W_end ?_
    refine E_then ?_
    refine C_cond (b := !r116) rfl (fun hb118 => ?_) (fun hb118 => ?_)
    · have hm := ite_t' hb118 hm
      refine C_seq ?_
      refine C_region ?_
      refine W_assign rfl rfl rfl ?_
      refine W_end ?_
      refine E_then ?_
      refine C_ret ?_
      refine E_ret_then ?_
      obtain rfl := Option.some.inj hm
      refine E_drop (List.Sublist.cons _ (List.Sublist.cons _ (List.Sublist.cons _ (List.Sublist.refl _)))) ?_
      refine E_weak hle114 ?_
      exact end1 rfl rfl ⟨rfl, rfl, rfl⟩
    · have hm := ite_f' hb118 hm
      refine C_skip ?_
      refine E_then ?_
      refine C_seq ?_
      refine C_region ?_
      refine W_load rfl rfl Proofs.Tryd.isAgg3 rfl (own_at (List.mem_cons_of_mem _ (List.mem_cons_of_mem _ (List.mem_cons_self ..))) rfl) ?_
      obtain ⟨r119, hc120, hm⟩ := bind_some hm
      refine W_call Proofs.Tryd.call9 rfl rfl rfl (fun w ht => by have h := m_gridhallref4_Cut_c (hm := hc120)  ht; exact h) ?_
      rintro _ _ _ ⟨rfl, rfl, rfl⟩
      refine W_perm (List.Perm.trans (List.Perm.cons _ (List.Perm.swap _ _ _)) (List.Perm.swap _ _ _)) ?_
      refine W_store (cs := [.int .i64 (r119)]) (out := [.int .i64 (r119)]) rfl Proofs.Tryd.sizeOf3 rfl rfl rfl rfl rfl (all_cons rfl all_nil) (over_all rfl) ?_
      refine W_end ?_
      refine E_then ?_
      refine C_seq ?_
      obtain ⟨r121, hc122, hm⟩ := bind_some hm
      refine C_perm (List.Perm.trans (List.Perm.swap _ _ _) (List.Perm.cons _ (List.Perm.swap _ _ _))) ?_
      refine C_as (M' := [[.obj b105 (.cells [v106].toArray 51 (0, 0))], [.row v106 30 (Rep.sz S_api_Event) sp104.all_.length xs107]].flatten ++ (.obj b101 (.cells [.int .i64 (r119)].toArray 3 (0, 0)) :: M)) rfl ?_
      refine C_region_tok0 5 (phiT [(fun H rs v => [] = rs ∧ .pointer (some ⟨b105, 0, none⟩) = v), (fun H rs v => [] = rs ∧ .int .i64 (r119) = v), (fun H rs v => ∃ v126 : Value, ∃ xs127 : List Value, [.row v126 30 (Rep.sz S_api_Event) r121.length xs127, .obj b105 (.cells [v106].toArray 51 (0, 0)), .row v106 30 (Rep.sz S_api_Event) sp104.all_.length xs107] = rs ∧ v126 = v ∧ Rw H v126 xs127 r121), (fun H rs v => [] = rs ∧ .pointer (some ⟨b105, 0, none⟩) = v), (fun H rs v => [] = rs ∧ .int .i64 (r119) = v)]) [[], [], [5, 6], [], []] [[], [], [], [], []] [[.obj b105 (.cells [v106].toArray 51 (0, 0))], [.row v106 30 (Rep.sz S_api_Event) sp104.all_.length xs107]] [0, 1, 2, 3, 4] Facts.mixed (by kernel_rfl) rfl rfl rfl (by kernel_rfl) (phiT_mono ⟨eq_monoT _ _, eq_monoT _ _, (by rintro H1 H2 rs v hle ⟨v126, xs127, rfl, rfl, h128⟩; exact ⟨v126, xs127, rfl, rfl, (h128.mono hle)⟩), eq_monoT _ _, eq_monoT _ _, trivial⟩) ⟨?_, ?_, ?_, ?_, ?_, trivial⟩ ?_
      · intro HX hX X Rest hR
        intro hU hUp
        refine W_move rfl rfl rfl ?_
        exact W_end (OneT_end [] (Hp.le_refl _) ⟨rfl, rfl⟩)
      · intro HX hX X Rest hR
        intro hU hUp
        refine W_load rfl rfl Proofs.Tryd.isAgg3 rfl (own_at (hR _ (List.mem_cons_self ..)) rfl) ?_
        exact W_end (OneT_end [] (Hp.le_refl _) ⟨rfl, rfl⟩)
      · intro HX hX X Rest hR
        rintro _ _ ⟨rfl, rfl⟩
        rintro _ _ ⟨rfl, rfl⟩
        intro hU hUp
        refine W_as (M' := .obj b105 (.cells [v106].toArray 51 (0, 0)) :: .row v106 30 (Rep.sz S_api_Event) sp104.all_.length xs107 :: Rest) rfl ?_
        refine W_call Proofs.Tryd.call10 rfl rfl rfl (fun w ht => by have h := m_archive_Archive_Between_c (hm := hc122) (h108.mono hX) ht; exact h) ?_
        rintro _ _ _ ⟨rfl, v126, xs127, rfl, rfl, h128⟩
        have h128 := h128 HX
        exact W_end (OneT_end [.row v126 30 (Rep.sz S_api_Event) r121.length xs127, .obj b105 (.cells [v106].toArray 51 (0, 0)), .row v106 30 (Rep.sz S_api_Event) sp104.all_.length xs107] (Hp.le_refl _) ⟨v126, xs127, rfl, rfl, (h128)⟩)
      · intro HX hX X Rest hR
        intro hU hUp
        refine W_move rfl rfl rfl ?_
        exact W_end (OneT_end [] (Hp.le_refl _) ⟨rfl, rfl⟩)
      · intro HX hX X Rest hR
        intro hU hUp
        refine W_load rfl rfl Proofs.Tryd.isAgg3 rfl (own_at (hR _ (List.mem_cons_self ..)) rfl) ?_
        exact W_end (OneT_end [] (Hp.le_refl _) ⟨rfl, rfl⟩)
      intro H129 hle130
      rintro _ _ ⟨rfl, rfl⟩
      rintro _ _ ⟨rfl, rfl⟩
      rintro _ _ ⟨v126, xs127, rfl, rfl, h128⟩
      rintro _ _ ⟨rfl, rfl⟩
      rintro _ _ ⟨rfl, rfl⟩
      refine W_as (M' := .row v126 30 (Rep.sz S_api_Event) r121.length xs127 :: .obj b105 (.cells [v106].toArray 51 (0, 0)) :: .row v106 30 (Rep.sz S_api_Event) sp104.all_.length xs107 :: .obj b101 (.cells [.int .i64 (r119)].toArray 3 (0, 0)) :: M) rfl ?_
      refine W_perm (List.Perm.trans (List.Perm.swap _ _ _) (List.Perm.cons _ (List.Perm.swap _ _ _))) ?_
      obtain ⟨r131, hc132, hm⟩ := bind_some hm
      refine W_call Proofs.Tryd.call10 rfl rfl rfl (fun w ht => by have h := m_archive_Archive_Between_c (hm := hc132) (h108.mono hle130) ht; exact h) ?_
      rintro _ _ _ ⟨rfl, v133, xs134, rfl, rfl, h135⟩
      have h135 := h135 H129
      refine W_assign rfl rfl rfl ?_
      refine W_assign rfl rfl rfl ?_
      refine W_end ?_
      refine E_then ?_
      refine C_seq ?_
      refine C_region ?_
      refine W_move rfl rfl rfl ?_
      refine W_move rfl rfl rfl ?_
      refine W_perm (List.Perm.trans (List.Perm.cons _ (List.Perm.cons _ (List.Perm.swap _ _ _))) (List.Perm.trans (List.Perm.cons _ (List.Perm.swap _ _ _)) (List.Perm.swap _ _ _))) ?_
      refine W_freeze (h128).rd rfl (fun H136 hle137 h138 => ?_)
      refine W_freeze ((h135.mono hle137)).rd rfl (fun H139 hle140 h141 => ?_)
      refine W_buildSliceO (α := (List S_api_Event)) (css := [[v126], [v133]]) (zs := [.slice none 0 0, .slice none 0 0]) (out := [v126, v133]) (ys := [r121, r131]) rfl rfl rfl ⟨(RdS.cells (h138.mono hle140)), (RdS.cells h141), trivial⟩ Proofs.Tryd.runUnderlying52 Proofs.Tryd.sizeOf22 rfl Proofs.Tryd.zeroValue22 (by kernel_rfl) rfl rfl rfl rfl ⟨[v126], [v133], rfl, ⟨v126, rfl, (h138.mono hle140)⟩, ⟨[v133], [], rfl, ⟨v133, rfl, h141⟩, rfl⟩⟩ rfl ?_
      intro v142 xs143 hr144
      obtain ⟨r145, hc146, hm⟩ := bind_some hm
      refine W_call Proofs.Tryd.call12 rfl rfl rfl (fun w ht => by obtain ⟨H0_, hl0_, ht0_, hr0_, bk0_⟩ := ht.lendRow hr144 rfl; have h := m_slices_Concat_api_Event_api_Event_c (hm := hc146) hr0_ ht0_; exact lend_back bk0_ (h)) ?_
      rintro _ _ _ ⟨rfl, ⟨_, rfl, v147, xs148, rfl, rfl, h149⟩⟩
      have h149 := h149 H139
      refine W_move rfl rfl rfl ?_
      refine W_perm (List.Perm.trans (List.Perm.cons _ (List.Perm.swap _ _ _)) (List.Perm.trans (List.Perm.swap _ _ _) (List.Perm.trans (List.Perm.cons _ (List.Perm.cons _ (List.Perm.swap _ _ _))) (List.Perm.cons _ (List.Perm.swap _ _ _))))) ?_
      obtain ⟨r150, hc151, hm⟩ := bind_some hm
      refine W_call Proofs.Tryd.call13 rfl rfl rfl (fun w ht => by have h := m_archive_Archive_All_c (hm := hc151) (((h108.mono hle130).mono hle137).mono hle140) ht; exact h) ?_
      rintro _ _ _ ⟨rfl, v152, xs153, rfl, rfl, h154⟩
      have h154 := h154 H139
      refine W_perm (List.Perm.trans (List.Perm.cons _ (List.Perm.cons _ (List.Perm.cons _ (List.Perm.swap _ _ _)))) (List.Perm.trans (List.Perm.cons _ (List.Perm.cons _ (List.Perm.swap _ _ _))) (List.Perm.trans (List.Perm.cons _ (List.Perm.swap _ _ _)) (List.Perm.swap _ _ _)))) ?_
      obtain ⟨r155, hc156, hm⟩ := bind_some hm
      refine W_call Proofs.Tryd.call11 rfl rfl rfl (fun w ht => by obtain ⟨H0_, hl0_, ht0_, hr0_, bk0_⟩ := ht.lendRow h149 rfl; obtain ⟨H1_, hl1_, ht1_, hr1_, bk1_⟩ := ht0_.lendRow (h154.mono hl0_) rfl; have h := m_slices_Equal_api_Event_api_Event_c (hm := hc156) (hr0_.mono hl1_) hr1_ ht1_; exact lend_back bk0_ (lend_back bk1_ (h))) ?_
      rintro _ _ _ ⟨rfl, ⟨_, rfl, ⟨_, rfl, rfl, rfl⟩⟩⟩
      refine W_move rfl rfl rfl ?_
      cases hb157 : (r155)
      · have hm := ite_f' hb157 hm
        refine W_no rfl rfl rfl ?_
        refine W_no rfl rfl rfl ?_
        refine W_no rfl rfl rfl ?_
        refine W_no rfl rfl rfl ?_
        refine W_pick rfl rfl rfl rfl ?_
        refine W_assign rfl rfl rfl ?_
        refine W_end ?_
        refine E_then ?_
        refine C_ret ?_
        obtain rfl := Option.some.inj hm
        refine E_drop (List.Sublist.cons _ (List.Sublist.cons _ (List.Sublist.cons _ (List.Sublist.cons _ (List.Sublist.cons _ (List.Sublist.cons _ (List.Sublist.refl _))))))) ?_
        refine E_weak (Hp.le_trans (Hp.le_trans (Hp.le_trans hle114 hle130) hle137) hle140) ?_
        exact end1 rfl rfl ⟨rfl, rfl, rfl⟩
      · have hm := ite_t' hb157 hm
        refine W_move rfl rfl rfl ?_
        refine W_makeFunc rfl rfl rfl rfl ?_
        refine W_perm (List.Perm.trans (List.Perm.cons _ (List.Perm.cons _ (List.Perm.cons _ (List.Perm.cons _ (List.Perm.swap _ _ _))))) (List.Perm.trans (List.Perm.cons _ (List.Perm.cons _ (List.Perm.cons _ (List.Perm.swap _ _ _)))) (List.Perm.trans (List.Perm.cons _ (List.Perm.cons _ (List.Perm.swap _ _ _))) (List.Perm.trans (List.Perm.cons _ (List.Perm.swap _ _ _)) (List.Perm.swap _ _ _))))) ?_
        obtain ⟨r158, hc159, hm⟩ := bind_some hm
        refine W_call Proofs.Tryd.call14 rfl rfl rfl (fun w ht => by have h := m_slices_ContainsFunc_api_Event_api_Event__gridhallkeep4_ArchiveParts_1_c (hm := hc159) h141 ht; exact h) ?_
        rintro _ _ _ ⟨rfl, rfl, rfl⟩
        refine W_un rfl rfl rfl rfl ?_
        refine W_pick rfl rfl rfl rfl ?_
        refine W_assign rfl rfl rfl ?_
        refine W_end ?_
        refine E_then ?_
        refine C_ret ?_
        obtain rfl := Option.some.inj hm
        refine E_drop (List.Sublist.cons _ (List.Sublist.cons _ (List.Sublist.cons _ (List.Sublist.cons _ (List.Sublist.cons _ (List.Sublist.cons _ (List.Sublist.refl _))))))) ?_
        refine E_weak (Hp.le_trans (Hp.le_trans (Hp.le_trans hle114 hle130) hle137) hle140) ?_
        exact end1 rfl rfl ⟨rfl, rfl, rfl⟩
end Go.Sim
