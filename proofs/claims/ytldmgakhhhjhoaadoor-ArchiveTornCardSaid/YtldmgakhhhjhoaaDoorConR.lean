/-
  Printed by a program: each Go function computes its model.
-/
import Derived.Test.YtldmgakhhhjhoaaDoorConR2
namespace Go.Sim
open Go
set_option linter.unusedVariables false
set_option linter.unusedSimpArgs false
set_option maxRecDepth 100000
theorem m_gridhallkeep4_ArchiveTorn_c {B : Nat} {w0 w : World} [Tabs B w0] {H : Hp} {M : List Res} {p0_l : (List S_api_Event)} {p1_n : Int} {v0 : Value} {r : Bool} (hm : m_gridhallkeep4_ArchiveTorn p0_l p1_n = some r) (h0 : RdS H v0 p0_l) (ht : St B w0 H (M) w) :
    Calls Proofs.Tryd.prog 6 [v0, .int .i64 (p1_n)].toArray w (Ret B w0 fun H' M' v => H = H' ∧ M = M' ∧ .bool (r) = v) := by
  unfold m_gridhallkeep4_ArchiveTorn at hm
  refine enter Proofs.Tryd.func6 rfl rfl rfl ht ?_
  refine C_seq ?_
  refine C_region ?_
  refine W_assign rfl rfl rfl ?_
  refine W_end ?_
  refine E_then ?_
  refine C_seq ?_
  refine C_region ?_
  refine W_move rfl rfl rfl ?_
  obtain ⟨r101, hc102, hm⟩ := bind_some hm
  refine W_call Proofs.Tryd.call7 rfl rfl rfl (fun w ht => by have h := m_gridhallkeep4_archiveOf_c (hm := hc102) h0 ht; exact h) ?_
  rintro _ H114 _ (⟨hn108, hle110, rfl, rfl⟩ | ⟨sp103, hn111, hle113, b104, v105, xs106, rfl, rfl, h107⟩)
  · have hm := optC_n hn108 hm
    refine W_assign rfl rfl rfl ?_
    refine W_end ?_
    refine E_then ?_
    refine C_seq ?_
    refine C_seq ?_
    refine C_region ?_
    refine W_move rfl rfl rfl ?_
    refine W_ptrNil rfl rfl Proofs.Tryd.runUnderlying23 rfl rfl ?_
    refine W_move rfl rfl rfl ?_
    refine W_no rfl rfl rfl ?_
    refine W_no rfl rfl rfl ?_
    refine W_pick rfl rfl rfl rfl ?_
    refine W_end ?_
    refine E_then ?_
    refine C_cond (b := true) rfl (fun _ => ?_) (fun hb => Bool.noConfusion hb)
    refine C_seq ?_
    refine C_region ?_
    refine W_assign rfl rfl rfl ?_
    refine W_end ?_
    refine E_then ?_
    refine C_ret ?_
    refine E_ret_then ?_
    obtain rfl := Option.some.inj hm
    refine E_weak hle110 ?_
    exact end1 rfl rfl ⟨rfl, rfl, rfl⟩
  · have hm := optC_s hn111 hm
    refine W_assign rfl rfl rfl ?_
    refine W_end ?_
    refine E_then ?_
    refine C_seq ?_
    refine C_seq ?_
    refine C_region ?_
    refine W_move rfl rfl rfl ?_
    refine W_ptrNil rfl rfl Proofs.Tryd.runUnderlying23 rfl rfl ?_
    refine W_move rfl rfl rfl ?_
    obtain ⟨r115, hc116, hm⟩ := bind_some hm
    refine W_call Proofs.Tryd.call8 rfl rfl rfl (fun w ht => by have h := m_gridhallkeep4_archiveFact_c (hm := hc116)  ht; exact h) ?_
    rintro _ _ _ ⟨rfl, rfl, rfl⟩
    refine W_un rfl rfl rfl rfl ?_
    refine W_pick rfl rfl rfl rfl ?_
    refine W_end ?_
    refine E_then ?_
    refine C_cond (b := !r115) rfl (fun hb117 => ?_) (fun hb117 => ?_)
    · have hm := ite_t' hb117 hm
      refine C_seq ?_
      refine C_region ?_
      refine W_assign rfl rfl rfl ?_
      refine W_end ?_
      refine E_then ?_
      refine C_ret ?_
      refine E_ret_then ?_
      obtain rfl := Option.some.inj hm
      refine E_drop (List.Sublist.cons _ (List.Sublist.cons _ (List.Sublist.refl _))) ?_
      refine E_weak hle113 ?_
      exact end1 rfl rfl ⟨rfl, rfl, rfl⟩
    · have hm := ite_f' hb117 hm
      refine C_skip ?_
      refine E_then ?_
      refine C_seq ?_
      refine C_region ?_
      refine W_move rfl rfl rfl ?_
      obtain ⟨r118, hc119, hm⟩ := bind_some hm
      refine W_call Proofs.Tryd.call17 rfl rfl rfl (fun w ht => by have h := m_archive_Archive_Text_c (hm := hc119) h107 ht; exact h) ?_
      rintro _ _ _ ⟨rfl, rfl, rfl⟩
      refine W_assign rfl rfl rfl ?_
      refine W_end ?_
      refine E_then ?_
      refine C_seq ?_
      refine C_region ?_
      refine W_move rfl rfl rfl ?_
      refine W_move rfl rfl rfl ?_
      refine W_lenStr rfl rfl Proofs.Tryd.runUnderlying9 rfl ?_
      obtain ⟨r120, hc121, hm⟩ := bind_some hm
      refine W_call Proofs.Tryd.call9 rfl rfl rfl (fun w ht => by have h := m_gridhallref4_Cut_c (hm := hc121)  ht; exact h) ?_
      rintro _ _ _ ⟨rfl, rfl, rfl⟩
      refine W_assign rfl rfl rfl ?_
      refine W_end ?_
      refine E_then ?_
      refine C_seq ?_
      refine C_region ?_
      refine W_move rfl rfl rfl ?_
      refine W_move rfl rfl rfl ?_
      obtain ⟨hz122, hm⟩ := need_some hm
      refine W_sliceStr (l := 0) (h := (r120 : Int).toNat) rfl rfl Proofs.Tryd.runUnderlying9 rfl (.inr ⟨_, _, _, rfl, rfl, by omega, by omega, rfl⟩) (.inl ⟨rfl, rfl⟩) ?_
      obtain ⟨r123, hc124, hm⟩ := bind_some hm
      refine W_call Proofs.Tryd.call16 rfl rfl rfl (fun w ht => by have h := m_archive_Recover_c (hm := hc124)  ht; exact h) ?_
      rintro _ H136 _ (⟨hn130, hle132, rfl, rfl⟩ | ⟨sp125, hn133, hle135, b126, v127, xs128, rfl, rfl, h129⟩)
      · have hm := optC_n hn130 hm
        refine W_move rfl rfl rfl ?_
        refine W_extract rfl rfl rfl rfl ?_
        refine W_extract rfl rfl rfl rfl ?_
        refine W_extract rfl rfl rfl rfl ?_
        refine W_assign rfl rfl rfl ?_
        refine W_assign rfl rfl rfl ?_
        refine W_assign rfl rfl rfl ?_
        refine W_end ?_
        refine E_then ?_
        refine C_seq ?_
        refine C_seq_join (fun H' M' L' => H136 = H' ∧ .obj b104 (.cells [v105].toArray 51 (0, 0)) :: .row v105 30 (Rep.sz S_api_Event) sp103.all_.length xs106 :: M = M' ∧ [(1, .int .i64 (r120)), (5, .pointer (some ⟨b104, 0, none⟩)), (6, .string (r118)), (7, .pointer none), (8, .int .i64 (r123.2.1)), (43, .bool (true))] = L') ?_ (fun J138 => ?_)
        · rintro _ _ _ ⟨rfl, rfl, rfl⟩
          refine C_cond (b := true) rfl (fun _ => ?_) (fun hb => Bool.noConfusion hb)
          refine C_seq ?_
          refine C_region ?_
          refine W_assign rfl rfl rfl ?_
          refine W_end ?_
          refine E_then ?_
          refine C_ret ?_
          refine E_ret_then ?_
          obtain rfl := Option.some.inj hm
          refine E_drop (List.Sublist.cons _ (List.Sublist.cons _ (List.Sublist.refl _))) ?_
          refine E_weak (Hp.le_trans hle113 hle132) ?_
          exact end1 rfl rfl ⟨rfl, rfl, rfl⟩
        · refine C_region ?_
          refine W_move rfl rfl rfl ?_
          refine W_bin rfl rfl rfl rfl rfl ?_
          refine W_move rfl rfl rfl ?_
          cases hb139 : (decide (r123.2.2 = 0))
          · refine W_no rfl rfl rfl ?_
            refine W_no rfl rfl rfl ?_
            refine W_pick rfl rfl rfl rfl ?_
            refine W_move rfl rfl rfl ?_
            refine W_no rfl rfl rfl ?_
            refine W_no rfl rfl rfl ?_
            refine W_no rfl rfl rfl ?_
            refine W_pick rfl rfl rfl rfl ?_
            refine W_end ?_
            exact E_keepJ (J138 _ _ _ ⟨rfl, rfl, rfl⟩) (List.Perm.refl _) ⟨rfl, rfl, rfl, rfl, rfl, rfl, trivial⟩
          · refine W_move rfl rfl rfl ?_
            refine W_ptrNil rfl rfl Proofs.Tryd.runUnderlying23 rfl rfl ?_
            refine W_pick rfl rfl rfl rfl ?_
            refine W_move rfl rfl rfl ?_
            refine W_no rfl rfl rfl ?_
            refine W_no rfl rfl rfl ?_
            refine W_no rfl rfl rfl ?_
            refine W_pick rfl rfl rfl rfl ?_
            refine W_end ?_
            exact E_keepJ (J138 _ _ _ ⟨rfl, rfl, rfl⟩) (List.Perm.refl _) ⟨rfl, rfl, rfl, rfl, rfl, rfl, trivial⟩
      · have hm := optC_s hn133 hm
        refine W_move rfl rfl rfl ?_
        refine W_extract rfl rfl rfl rfl ?_
        refine W_extract rfl rfl rfl rfl ?_
        refine W_extract rfl rfl rfl rfl ?_
        refine W_assign rfl rfl rfl ?_
        refine W_assign rfl rfl rfl ?_
        refine W_assign rfl rfl rfl ?_
        refine W_end ?_
        refine E_then ?_
        refine C_seq ?_
        refine C_seq_join (fun H' M' L' => H136 = H' ∧ .obj b126 (.cells [v127].toArray 51 (0, 0)) :: .row v127 30 (Rep.sz S_api_Event) sp125.all_.length xs128 :: .obj b104 (.cells [v105].toArray 51 (0, 0)) :: .row v105 30 (Rep.sz S_api_Event) sp103.all_.length xs106 :: M = M' ∧ [(1, .int .i64 (r120)), (5, .pointer (some ⟨b104, 0, none⟩)), (6, .string (r118)), (7, .pointer (some ⟨b126, 0, none⟩)), (8, .int .i64 (r123.2.1)), (43, .bool ((!decide (r123.2.2 = 0)) || (decide (r120 < r123.2.1))))] = L') ?_ (fun J141 => ?_)
        · rintro _ _ _ ⟨rfl, rfl, rfl⟩
          refine C_cond (b := (!decide (r123.2.2 = 0)) || (decide (r120 < r123.2.1))) rfl (fun hb142 => ?_) (fun hb142 => ?_)
          · have hm := ite_t' hb142 hm
            refine C_seq ?_
            refine C_region ?_
            refine W_assign rfl rfl rfl ?_
            refine W_end ?_
            refine E_then ?_
            refine C_ret ?_
            refine E_ret_then ?_
            obtain rfl := Option.some.inj hm
            refine E_drop (List.Sublist.cons _ (List.Sublist.cons _ (List.Sublist.cons _ (List.Sublist.cons _ (List.Sublist.refl _))))) ?_
            refine E_weak (Hp.le_trans hle113 hle135) ?_
            exact end1 rfl rfl ⟨rfl, rfl, rfl⟩
          · have hm := ite_f' hb142 hm
            refine C_skip ?_
            refine E_then ?_
            refine C_seq ?_
            refine C_region ?_
            refine W_move rfl rfl rfl ?_
            refine W_move rfl rfl rfl ?_
            obtain ⟨hz143, hm⟩ := need_some hm
            refine W_sliceStr (l := 0) (h := (r120 : Int).toNat) rfl rfl Proofs.Tryd.runUnderlying9 rfl (.inr ⟨_, _, _, rfl, rfl, by omega, by omega, rfl⟩) (.inl ⟨rfl, rfl⟩) ?_
            obtain ⟨r144, hc145, hm⟩ := bind_some hm
            refine W_call Proofs.Tryd.call20 rfl rfl rfl (fun w ht => by have h := m_strings_Count_c (hm := hc145)  ht; exact h) ?_
            rintro _ _ _ ⟨rfl, rfl, rfl⟩
            refine W_assign rfl rfl rfl ?_
            refine W_end ?_
            refine E_then ?_
            refine C_seq ?_
            obtain ⟨r146, hc147, hm⟩ := bind_some hm
            obtain ⟨r151, hc152, hm⟩ := bind_some hm
            obtain ⟨hz156, hm⟩ := need_some hm
            obtain ⟨r160, hc161, hm⟩ := bind_some hm
            rcases (Bool.eq_false_or_eq_true (r160)).symm with hb162 | hb162
            · have hm := ite_f' hb162 hm
              refine C_perm (List.Perm.refl _) ?_
              refine C_as (M' := [[.obj b126 (.cells [v127].toArray 51 (0, 0))], [.row v127 30 (Rep.sz S_api_Event) sp125.all_.length xs128], [.obj b104 (.cells [v105].toArray 51 (0, 0))], [.row v105 30 (Rep.sz S_api_Event) sp103.all_.length xs106]].flatten ++ (M)) rfl ?_
              refine C_region_tok0 34 (phiT [(fun H rs v => [] = rs ∧ .pointer (some ⟨b126, 0, none⟩) = v), (fun H rs v => ∃ v172 : Value, ∃ xs173 : List Value, [.row v172 30 (Rep.sz S_api_Event) r146.length xs173, .obj b126 (.cells [v127].toArray 51 (0, 0)), .row v127 30 (Rep.sz S_api_Event) sp125.all_.length xs128] = rs ∧ v172 = v ∧ Rw H v172 xs173 r146), (fun H rs v => [] = rs ∧ .pointer (some ⟨b104, 0, none⟩) = v), (fun H rs v => ∃ v175 : Value, ∃ xs176 : List Value, [.row v175 30 (Rep.sz S_api_Event) r151.length xs176, .obj b104 (.cells [v105].toArray 51 (0, 0)), .row v105 30 (Rep.sz S_api_Event) sp103.all_.length xs106] = rs ∧ v175 = v ∧ Rw H v175 xs176 r151), (fun H rs v => [] = rs ∧ .int .i64 (r144) = v), (fun H rs v => ∃ v178 : Value, ∃ xs179 : List Value, [.row v178 30 (Rep.sz S_api_Event) (slc r151 0 ((r144 : Int).toNat)).length xs179, .obj b104 (.cells [v105].toArray 51 (0, 0)), .row v105 30 (Rep.sz S_api_Event) sp103.all_.length xs106] = rs ∧ v178 = v ∧ Rw H v178 xs179 (slc r151 0 ((r144 : Int).toNat))), (fun H rs v => ∃ v172 : Value, ∃ xs173 : List Value, ∃ v178 : Value, ∃ xs179 : List Value, [.row v172 30 (Rep.sz S_api_Event) r146.length xs173, .row v178 30 (Rep.sz S_api_Event) (slc r151 0 ((r144 : Int).toNat)).length xs179, .obj b126 (.cells [v127].toArray 51 (0, 0)), .row v127 30 (Rep.sz S_api_Event) sp125.all_.length xs128, .obj b104 (.cells [v105].toArray 51 (0, 0)), .row v105 30 (Rep.sz S_api_Event) sp103.all_.length xs106] = rs ∧ .bool (false) = v ∧ Rw H v172 xs173 r146 ∧ Rw H v178 xs179 (slc r151 0 ((r144 : Int).toNat))), (fun H rs v => [] = rs ∧ .bool (false) = v), (fun H rs v => [] = rs ∧ undef = v), (fun H rs v => [] = rs ∧ undef = v), (fun H rs v => [] = rs ∧ undef = v), (fun H rs v => [] = rs ∧ undef = v), (fun H rs v => [] = rs ∧ undef = v), (fun H rs v => [] = rs ∧ undef = v), (fun H rs v => [] = rs ∧ .bool (false) = v), (fun H rs v => [] = rs ∧ .bool (false) = v), (fun H rs v => [] = rs ∧ undef = v), (fun H rs v => [] = rs ∧ undef = v), (fun H rs v => [] = rs ∧ undef = v), (fun H rs v => [] = rs ∧ undef = v), (fun H rs v => [] = rs ∧ undef = v), (fun H rs v => [] = rs ∧ undef = v), (fun H rs v => [] = rs ∧ undef = v), (fun H rs v => [] = rs ∧ .bool (false) = v), (fun H rs v => [] = rs ∧ .bool (false) = v), (fun H rs v => [] = rs ∧ undef = v), (fun H rs v => [] = rs ∧ undef = v), (fun H rs v => [] = rs ∧ undef = v), (fun H rs v => [] = rs ∧ undef = v), (fun H rs v => [] = rs ∧ undef = v), (fun H rs v => [] = rs ∧ undef = v), (fun H rs v => [] = rs ∧ undef = v), (fun H rs v => [] = rs ∧ undef = v), (fun H rs v => [] = rs ∧ undef = v)]) [[], [34, 35], [], [36, 37], [], [3], [1, 5], [], [], [], [], [], [], [], [], [], [], [], [], [], [], [], [], [], [], [], [], [], [], [], [], [], [], []] [[], [], [], [], [], [], [], [], [], [], [], [], [], [], [], [], [], [], [], [], [], [], [], [], [], [], [], [], [], [], [], [], [], []] [[.obj b126 (.cells [v127].toArray 51 (0, 0))], [.row v127 30 (Rep.sz S_api_Event) sp125.all_.length xs128], [.obj b104 (.cells [v105].toArray 51 (0, 0))], [.row v105 30 (Rep.sz S_api_Event) sp103.all_.length xs106]] [0, 2, 4, 6, 7, 8, 9, 10, 11, 12, 13, 14, 15, 16, 17, 18, 19, 20, 21, 22, 23, 24, 25, 26, 27, 28, 29, 30, 31, 32, 33] Facts.mixed (by kernel_rfl) rfl rfl rfl (by kernel_rfl) (phiT_mono ⟨eq_monoT _ _, (by rintro H1 H2 rs v hle ⟨v172, xs173, rfl, rfl, h174⟩; exact ⟨v172, xs173, rfl, rfl, (h174.mono hle)⟩), eq_monoT _ _, (by rintro H1 H2 rs v hle ⟨v175, xs176, rfl, rfl, h177⟩; exact ⟨v175, xs176, rfl, rfl, (h177.mono hle)⟩), eq_monoT _ _, (by rintro H1 H2 rs v hle ⟨v178, xs179, rfl, rfl, hr180⟩; exact ⟨v178, xs179, rfl, rfl, (hr180.mono hle)⟩), (by rintro H1 H2 rs v hle ⟨v172, xs173, v178, xs179, rfl, rfl, h174, hr180⟩; exact ⟨v172, xs173, v178, xs179, rfl, rfl, (h174.mono hle), (hr180.mono hle)⟩), eq_monoT _ _, eq_monoT _ _, eq_monoT _ _, eq_monoT _ _, eq_monoT _ _, eq_monoT _ _, eq_monoT _ _, eq_monoT _ _, eq_monoT _ _, eq_monoT _ _, eq_monoT _ _, eq_monoT _ _, eq_monoT _ _, eq_monoT _ _, eq_monoT _ _, eq_monoT _ _, eq_monoT _ _, eq_monoT _ _, eq_monoT _ _, eq_monoT _ _, eq_monoT _ _, eq_monoT _ _, eq_monoT _ _, eq_monoT _ _, eq_monoT _ _, eq_monoT _ _, eq_monoT _ _, trivial⟩) ⟨?_, ?_, ?_, ?_, ?_, ?_, ?_, ?_, ?_, ?_, ?_, ?_, ?_, ?_, ?_, ?_, ?_, ?_, ?_, ?_, ?_, ?_, ?_, ?_, ?_, ?_, ?_, ?_, ?_, ?_, ?_, ?_, ?_, ?_, trivial⟩ ?_
              · intro HX hX X Rest hR
                intro hU hUp
                refine W_move rfl rfl rfl ?_
                exact W_end (OneT_end [] (Hp.le_refl _) ⟨rfl, rfl⟩)
              · intro HX hX X Rest hR
                rintro _ _ ⟨rfl, rfl⟩
                intro hU hUp
                refine W_as (M' := .obj b126 (.cells [v127].toArray 51 (0, 0)) :: .row v127 30 (Rep.sz S_api_Event) sp125.all_.length xs128 :: Rest) rfl ?_
                refine W_call Proofs.Tryd.call13 rfl rfl rfl (fun w ht => by have h := m_archive_Archive_All_c (hm := hc147) (h129.mono hX) ht; exact h) ?_
                rintro _ _ _ ⟨rfl, v172, xs173, rfl, rfl, h174⟩
                have h174 := h174 HX
                exact W_end (OneT_end [.row v172 30 (Rep.sz S_api_Event) r146.length xs173, .obj b126 (.cells [v127].toArray 51 (0, 0)), .row v127 30 (Rep.sz S_api_Event) sp125.all_.length xs128] (Hp.le_refl _) ⟨v172, xs173, rfl, rfl, (h174)⟩)
              · intro HX hX X Rest hR
                intro hU hUp
                refine W_move rfl rfl rfl ?_
                exact W_end (OneT_end [] (Hp.le_refl _) ⟨rfl, rfl⟩)
              · intro HX hX X Rest hR
                rintro _ _ ⟨rfl, rfl⟩
                rintro _ _ ⟨v172, xs173, rfl, rfl, h174⟩
                intro hU hUp
                refine W_as (M' := .obj b104 (.cells [v105].toArray 51 (0, 0)) :: .row v105 30 (Rep.sz S_api_Event) sp103.all_.length xs106 :: Rest) rfl ?_
                refine W_call Proofs.Tryd.call13 rfl rfl rfl (fun w ht => by have h := m_archive_Archive_All_c (hm := hc152) ((h107.mono hle135).mono hX) ht; exact h) ?_
                rintro _ _ _ ⟨rfl, v175, xs176, rfl, rfl, h177⟩
                have h177 := h177 HX
                exact W_end (OneT_end [.row v175 30 (Rep.sz S_api_Event) r151.length xs176, .obj b104 (.cells [v105].toArray 51 (0, 0)), .row v105 30 (Rep.sz S_api_Event) sp103.all_.length xs106] (Hp.le_refl _) ⟨v175, xs176, rfl, rfl, (h177)⟩)
              · intro HX hX X Rest hR
                intro hU hUp
                refine W_move rfl rfl rfl ?_
                exact W_end (OneT_end [] (Hp.le_refl _) ⟨rfl, rfl⟩)
              · intro HX hX X Rest hR
                rintro _ _ ⟨v175, xs176, rfl, rfl, h177⟩
                rintro _ _ ⟨rfl, rfl⟩
                intro hU hUp
                refine W_as (M' := .row v175 30 (Rep.sz S_api_Event) r151.length xs176 :: .obj b104 (.cells [v105].toArray 51 (0, 0)) :: .row v105 30 (Rep.sz S_api_Event) sp103.all_.length xs106 :: Rest) rfl ?_
                refine W_sliceO (α := S_api_Event) (l := 0) (h := (r144 : Int).toNat) rfl rfl Proofs.Tryd.runUnderlying22 Proofs.Tryd.sizeOf30 rfl rfl h177 (by omega) (by omega) (fun m hmm => (.inr ⟨_, _, _, rfl, rfl, by omega, by omega, rfl⟩)) (.inl ⟨rfl, rfl⟩) ?_
                intro v178 xs179 hr180
                exact W_end (OneT_end [.row v178 30 (Rep.sz S_api_Event) (slc r151 0 ((r144 : Int).toNat)).length xs179, .obj b104 (.cells [v105].toArray 51 (0, 0)), .row v105 30 (Rep.sz S_api_Event) sp103.all_.length xs106] (Hp.le_refl _) ⟨v178, xs179, rfl, rfl, (hr180)⟩)
              · intro HX hX X Rest hR
                rintro _ _ ⟨v172, xs173, rfl, rfl, h174⟩
                rintro _ _ ⟨v178, xs179, rfl, rfl, hr180⟩
                rintro _ _ ⟨v175, xs176, rfl, rfl, h177⟩
                intro hU hUp
                refine W_as (M' := .row v172 30 (Rep.sz S_api_Event) r146.length xs173 :: .obj b126 (.cells [v127].toArray 51 (0, 0)) :: .row v127 30 (Rep.sz S_api_Event) sp125.all_.length xs128 :: .row v178 30 (Rep.sz S_api_Event) (slc r151 0 ((r144 : Int).toNat)).length xs179 :: .obj b104 (.cells [v105].toArray 51 (0, 0)) :: .row v105 30 (Rep.sz S_api_Event) sp103.all_.length xs106 :: Rest) rfl ?_
                refine W_perm (List.Perm.trans (List.Perm.cons _ (List.Perm.cons _ (List.Perm.swap _ _ _))) (List.Perm.cons _ (List.Perm.swap _ _ _))) ?_
                refine W_call Proofs.Tryd.call11 rfl rfl rfl (fun w ht => by obtain ⟨H0_, hl0_, ht0_, hr0_, bk0_⟩ := ht.lendRow h174 rfl; obtain ⟨H1_, hl1_, ht1_, hr1_, bk1_⟩ := ht0_.lendRow (hr180.mono hl0_) rfl; have h := m_slices_Equal_api_Event_api_Event_c (hm := hc161) (hr0_.mono hl1_) hr1_ ht1_; exact lend_back bk0_ (lend_back bk1_ (h))) ?_
                rintro _ _ _ ⟨rfl, ⟨_, rfl, ⟨_, rfl, rfl, rfl⟩⟩⟩
                exact W_end (OneT_end [.row v172 30 (Rep.sz S_api_Event) r146.length xs173, .row v178 30 (Rep.sz S_api_Event) (slc r151 0 ((r144 : Int).toNat)).length xs179, .obj b126 (.cells [v127].toArray 51 (0, 0)), .row v127 30 (Rep.sz S_api_Event) sp125.all_.length xs128, .obj b104 (.cells [v105].toArray 51 (0, 0)), .row v105 30 (Rep.sz S_api_Event) sp103.all_.length xs106] (Hp.le_refl _) ⟨v172, xs173, v178, xs179, rfl, (by first | rfl | (rw [hb162]; try rfl)), (h174), (hr180)⟩)
              · intro HX hX X Rest hR
                rintro _ _ ⟨v172, xs173, v178, xs179, rfl, rfl, h174, hr180⟩
                rintro _ _ ⟨v172, xs173, v178, xs179, rfl, rfl, h174, hr180⟩
                intro hU hUp
                refine W_move rfl rfl rfl ?_
                exact W_end (OneT_end [] (Hp.le_refl _) ⟨rfl, rfl⟩)
              · intro HX hX X Rest hR
                rintro _ _ ⟨rfl, rfl⟩
                intro hU hUp
                refine W_no rfl rfl rfl ?_
                exact W_end (OneT_end [] (Hp.le_refl _) ⟨rfl, rfl⟩)
              · intro HX hX X Rest hR
                rintro _ _ ⟨rfl, rfl⟩
                rintro _ _ ⟨rfl, rfl⟩
                rintro _ _ ⟨rfl, rfl⟩
                intro hU hUp
                refine W_no rfl rfl rfl ?_
                exact W_end (OneT_end [] (Hp.le_refl _) ⟨rfl, rfl⟩)
              · intro HX hX X Rest hR
                rintro _ _ ⟨rfl, rfl⟩
                intro hU hUp
                refine W_no rfl rfl rfl ?_
                exact W_end (OneT_end [] (Hp.le_refl _) ⟨rfl, rfl⟩)
              · intro HX hX X Rest hR
                rintro _ _ ⟨rfl, rfl⟩
                intro hU hUp
                refine W_no rfl rfl rfl ?_
                exact W_end (OneT_end [] (Hp.le_refl _) ⟨rfl, rfl⟩)
              · intro HX hX X Rest hR
                rintro _ _ ⟨rfl, rfl⟩
                rintro _ _ ⟨rfl, rfl⟩
                rintro _ _ ⟨rfl, rfl⟩
                intro hU hUp
                refine W_no rfl rfl rfl ?_
                exact W_end (OneT_end [] (Hp.le_refl _) ⟨rfl, rfl⟩)
              · intro HX hX X Rest hR
                rintro _ _ ⟨rfl, rfl⟩
                rintro _ _ ⟨rfl, rfl⟩
                rintro _ _ ⟨rfl, rfl⟩
                intro hU hUp
                refine W_no rfl rfl rfl ?_
                exact W_end (OneT_end [] (Hp.le_refl _) ⟨rfl, rfl⟩)
              · intro HX hX X Rest hR
                rintro _ _ ⟨rfl, rfl⟩
                rintro _ _ ⟨rfl, rfl⟩
                intro hU hUp
                refine W_pick rfl rfl rfl rfl ?_
                exact W_end (OneT_end [] (Hp.le_refl _) ⟨rfl, rfl⟩)
              · intro HX hX X Rest hR
                rintro _ _ ⟨rfl, rfl⟩
                rintro _ _ ⟨rfl, rfl⟩
                intro hU hUp
                refine W_move rfl rfl rfl ?_
                exact W_end (OneT_end [] (Hp.le_refl _) ⟨rfl, rfl⟩)
              · intro HX hX X Rest hR
                rintro _ _ ⟨rfl, rfl⟩
                intro hU hUp
                refine W_no rfl rfl rfl ?_
                exact W_end (OneT_end [] (Hp.le_refl _) ⟨rfl, rfl⟩)
              · intro HX hX X Rest hR
                rintro _ _ ⟨rfl, rfl⟩
                intro hU hUp
                refine W_no rfl rfl rfl ?_
                exact W_end (OneT_end [] (Hp.le_refl _) ⟨rfl, rfl⟩)
              · intro HX hX X Rest hR
                rintro _ _ ⟨rfl, rfl⟩
                intro hU hUp
                refine W_no rfl rfl rfl ?_
                exact W_end (OneT_end [] (Hp.le_refl _) ⟨rfl, rfl⟩)
              · intro HX hX X Rest hR
                rintro _ _ ⟨rfl, rfl⟩
                rintro _ _ ⟨rfl, rfl⟩
                rintro _ _ ⟨rfl, rfl⟩
                intro hU hUp
                refine W_no rfl rfl rfl ?_
                exact W_end (OneT_end [] (Hp.le_refl _) ⟨rfl, rfl⟩)
              · intro HX hX X Rest hR
                rintro _ _ ⟨rfl, rfl⟩
                rintro _ _ ⟨rfl, rfl⟩
                rintro _ _ ⟨rfl, rfl⟩
                intro hU hUp
                refine W_no rfl rfl rfl ?_
                exact W_end (OneT_end [] (Hp.le_refl _) ⟨rfl, rfl⟩)
              · intro HX hX X Rest hR
                rintro _ _ ⟨rfl, rfl⟩
                rintro _ _ ⟨rfl, rfl⟩
                intro hU hUp
                refine W_no rfl rfl rfl ?_
                exact W_end (OneT_end [] (Hp.le_refl _) ⟨rfl, rfl⟩)
              · intro HX hX X Rest hR
                rintro _ _ ⟨rfl, rfl⟩
                rintro _ _ ⟨rfl, rfl⟩
                rintro _ _ ⟨rfl, rfl⟩
                intro hU hUp
                refine W_no rfl rfl rfl ?_
                exact W_end (OneT_end [] (Hp.le_refl _) ⟨rfl, rfl⟩)
              · intro HX hX X Rest hR
                rintro _ _ ⟨rfl, rfl⟩
                rintro _ _ ⟨rfl, rfl⟩
                intro hU hUp
                refine W_pick rfl rfl rfl rfl ?_
                exact W_end (OneT_end [] (Hp.le_refl _) ⟨rfl, rfl⟩)
              · intro HX hX X Rest hR
                rintro _ _ ⟨rfl, rfl⟩
                rintro _ _ ⟨rfl, rfl⟩
                intro hU hUp
                refine W_move rfl rfl rfl ?_
                exact W_end (OneT_end [] (Hp.le_refl _) ⟨rfl, rfl⟩)
              · intro HX hX X Rest hR
                rintro _ _ ⟨rfl, rfl⟩
                intro hU hUp
                refine W_no rfl rfl rfl ?_
                exact W_end (OneT_end [] (Hp.le_refl _) ⟨rfl, rfl⟩)
              · intro HX hX X Rest hR
                rintro _ _ ⟨rfl, rfl⟩
                intro hU hUp
                refine W_no rfl rfl rfl ?_
                exact W_end (OneT_end [] (Hp.le_refl _) ⟨rfl, rfl⟩)
              · intro HX hX X Rest hR
                rintro _ _ ⟨rfl, rfl⟩
                rintro _ _ ⟨rfl, rfl⟩
                rintro _ _ ⟨rfl, rfl⟩
                intro hU hUp
                refine W_no rfl rfl rfl ?_
                exact W_end (OneT_end [] (Hp.le_refl _) ⟨rfl, rfl⟩)
              · intro HX hX X Rest hR
                rintro _ _ ⟨rfl, rfl⟩
                rintro _ _ ⟨rfl, rfl⟩
                intro hU hUp
                refine W_no rfl rfl rfl ?_
                exact W_end (OneT_end [] (Hp.le_refl _) ⟨rfl, rfl⟩)
              · intro HX hX X Rest hR
                rintro _ _ ⟨rfl, rfl⟩
                rintro _ _ ⟨rfl, rfl⟩
                rintro _ _ ⟨rfl, rfl⟩
                intro hU hUp
                refine W_no rfl rfl rfl ?_
                exact W_end (OneT_end [] (Hp.le_refl _) ⟨rfl, rfl⟩)
              · intro HX hX X Rest hR
                rintro _ _ ⟨rfl, rfl⟩
                rintro _ _ ⟨rfl, rfl⟩
                rintro _ _ ⟨rfl, rfl⟩
                intro hU hUp
                refine W_no rfl rfl rfl ?_
                exact W_end (OneT_end [] (Hp.le_refl _) ⟨rfl, rfl⟩)
              · intro HX hX X Rest hR
                rintro _ _ ⟨rfl, rfl⟩
                intro hU hUp
                refine W_no rfl rfl rfl ?_
                exact W_end (OneT_end [] (Hp.le_refl _) ⟨rfl, rfl⟩)
              · intro HX hX X Rest hR
                rintro _ _ ⟨rfl, rfl⟩
                rintro _ _ ⟨rfl, rfl⟩
                rintro _ _ ⟨rfl, rfl⟩
                intro hU hUp
                refine W_no rfl rfl rfl ?_
                exact W_end (OneT_end [] (Hp.le_refl _) ⟨rfl, rfl⟩)
              · intro HX hX X Rest hR
                rintro _ _ ⟨rfl, rfl⟩
                intro hU hUp
                refine W_no rfl rfl rfl ?_
                exact W_end (OneT_end [] (Hp.le_refl _) ⟨rfl, rfl⟩)
              intro H181 hle182
              rintro _ _ ⟨rfl, rfl⟩
              rintro _ _ ⟨v172, xs173, rfl, rfl, h174⟩
              rintro _ _ ⟨rfl, rfl⟩
              rintro _ _ ⟨v175, xs176, rfl, rfl, h177⟩
              rintro _ _ ⟨rfl, rfl⟩
              rintro _ _ ⟨v178, xs179, rfl, rfl, hr180⟩
              rintro _ _ ⟨v172, xs173, v178, xs179, rfl, rfl, h174, hr180⟩
              rintro _ _ ⟨rfl, rfl⟩
              rintro _ _ ⟨rfl, rfl⟩
              rintro _ _ ⟨rfl, rfl⟩
              rintro _ _ ⟨rfl, rfl⟩
              rintro _ _ ⟨rfl, rfl⟩
              rintro _ _ ⟨rfl, rfl⟩
              rintro _ _ ⟨rfl, rfl⟩
              rintro _ _ ⟨rfl, rfl⟩
              rintro _ _ ⟨rfl, rfl⟩
              rintro _ _ ⟨rfl, rfl⟩
              rintro _ _ ⟨rfl, rfl⟩
              rintro _ _ ⟨rfl, rfl⟩
              rintro _ _ ⟨rfl, rfl⟩
              rintro _ _ ⟨rfl, rfl⟩
              rintro _ _ ⟨rfl, rfl⟩
              rintro _ _ ⟨rfl, rfl⟩
              rintro _ _ ⟨rfl, rfl⟩
              rintro _ _ ⟨rfl, rfl⟩
              rintro _ _ ⟨rfl, rfl⟩
              rintro _ _ ⟨rfl, rfl⟩
              rintro _ _ ⟨rfl, rfl⟩
              rintro _ _ ⟨rfl, rfl⟩
              rintro _ _ ⟨rfl, rfl⟩
              rintro _ _ ⟨rfl, rfl⟩
              rintro _ _ ⟨rfl, rfl⟩
              rintro _ _ ⟨rfl, rfl⟩
              rintro _ _ ⟨rfl, rfl⟩
              refine W_as (M' := .row v172 30 (Rep.sz S_api_Event) r146.length xs173 :: .row v178 30 (Rep.sz S_api_Event) (slc r151 0 ((r144 : Int).toNat)).length xs179 :: .obj b126 (.cells [v127].toArray 51 (0, 0)) :: .row v127 30 (Rep.sz S_api_Event) sp125.all_.length xs128 :: .obj b104 (.cells [v105].toArray 51 (0, 0)) :: .row v105 30 (Rep.sz S_api_Event) sp103.all_.length xs106 :: M) rfl ?_
              refine W_no rfl rfl rfl ?_
              refine W_no rfl rfl rfl ?_
              refine W_no rfl rfl rfl ?_
              refine W_pick rfl rfl rfl rfl ?_
              refine W_assign rfl rfl rfl ?_
              refine W_end ?_
              refine E_then ?_
              refine C_ret ?_
              obtain rfl := Option.some.inj hm
              refine E_drop (List.Sublist.cons _ (List.Sublist.cons _ (List.Sublist.cons _ (List.Sublist.cons _ (List.Sublist.cons _ (List.Sublist.cons _ (List.Sublist.refl _))))))) ?_
              refine E_weak (Hp.le_trans (Hp.le_trans hle113 hle135) hle182) ?_
              exact end1 rfl rfl ⟨rfl, rfl, rfl⟩
            · have hm := ite_t' hb162 hm
              obtain ⟨r192, hc193, hm⟩ := bind_some hm
              obtain ⟨hz194, hm⟩ := need_some hm
              cases hb195 : (decide (r192 = (r118.extract 0 ((r123.2.1 : Int).toNat))))
              · have hm := ite_f' hb195 hm
                refine C_perm (List.Perm.refl _) ?_
                refine C_as (M' := [[.obj b126 (.cells [v127].toArray 51 (0, 0))], [.row v127 30 (Rep.sz S_api_Event) sp125.all_.length xs128], [.obj b104 (.cells [v105].toArray 51 (0, 0))], [.row v105 30 (Rep.sz S_api_Event) sp103.all_.length xs106]].flatten ++ (M)) rfl ?_
                refine C_region_tok0 34 (phiT [(fun H rs v => [] = rs ∧ .pointer (some ⟨b126, 0, none⟩) = v), (fun H rs v => ∃ v205 : Value, ∃ xs206 : List Value, [.row v205 30 (Rep.sz S_api_Event) r146.length xs206] = rs ∧ v205 = v ∧ Rw H v205 xs206 r146), (fun H rs v => [] = rs ∧ .pointer (some ⟨b104, 0, none⟩) = v), (fun H rs v => ∃ v208 : Value, ∃ xs209 : List Value, [.row v208 30 (Rep.sz S_api_Event) r151.length xs209] = rs ∧ v208 = v ∧ Rw H v208 xs209 r151), (fun H rs v => [] = rs ∧ .int .i64 (r144) = v), (fun H rs v => ∃ v211 : Value, ∃ xs212 : List Value, [.row v211 30 (Rep.sz S_api_Event) (slc r151 0 ((r144 : Int).toNat)).length xs212] = rs ∧ v211 = v ∧ Rw H v211 xs212 (slc r151 0 ((r144 : Int).toNat))), (fun H rs v => [] = rs ∧ .bool (true) = v), (fun H rs v => [] = rs ∧ .bool (true) = v), (fun H rs v => [] = rs ∧ .pointer (some ⟨b126, 0, none⟩) = v), (fun H rs v => [] = rs ∧ .string (r192) = v), (fun H rs v => [] = rs ∧ .string (r118) = v), (fun H rs v => [] = rs ∧ .int .i64 (r123.2.1) = v), (fun H rs v => [] = rs ∧ .string (r118.extract 0 ((r123.2.1 : Int).toNat)) = v), (fun H rs v => [] = rs ∧ .bool (false) = v), (fun H rs v => [] = rs ∧ .bool (false) = v), (fun H rs v => [] = rs ∧ .bool (false) = v), (fun H rs v => [] = rs ∧ undef = v), (fun H rs v => [] = rs ∧ undef = v), (fun H rs v => [] = rs ∧ undef = v), (fun H rs v => [] = rs ∧ undef = v), (fun H rs v => [] = rs ∧ undef = v), (fun H rs v => [] = rs ∧ undef = v), (fun H rs v => [] = rs ∧ undef = v), (fun H rs v => [] = rs ∧ .bool (false) = v), (fun H rs v => [] = rs ∧ .bool (false) = v), (fun H rs v => [] = rs ∧ undef = v), (fun H rs v => [] = rs ∧ undef = v), (fun H rs v => [] = rs ∧ undef = v), (fun H rs v => [] = rs ∧ undef = v), (fun H rs v => [] = rs ∧ undef = v), (fun H rs v => [] = rs ∧ undef = v), (fun H rs v => [] = rs ∧ undef = v), (fun H rs v => [] = rs ∧ undef = v), (fun H rs v => [] = rs ∧ undef = v)]) [[], [], [], [], [], [3], [], [], [], [], [], [], [], [], [], [], [], [], [], [], [], [], [], [], [], [], [], [], [], [], [], [], [], []] [[], [34, 35], [], [36, 37], [], [], [1, 5], [], [], [34, 35], [], [], [], [], [], [], [], [], [], [], [], [], [], [], [], [], [], [], [], [], [], [], [], []] [[.obj b126 (.cells [v127].toArray 51 (0, 0))], [.row v127 30 (Rep.sz S_api_Event) sp125.all_.length xs128], [.obj b104 (.cells [v105].toArray 51 (0, 0))], [.row v105 30 (Rep.sz S_api_Event) sp103.all_.length xs106]] [0, 1, 2, 4, 5, 6, 7, 8, 9, 10, 11, 12, 13, 14, 15, 16, 17, 18, 19, 20, 21, 22, 23, 24, 25, 26, 27, 28, 29, 30, 31, 32, 33, 34, 35, 36, 37] Facts.mixed (by kernel_rfl) rfl rfl rfl (by kernel_rfl) (phiT_mono ⟨eq_monoT _ _, (by rintro H1 H2 rs v hle ⟨v205, xs206, rfl, rfl, h207⟩; exact ⟨v205, xs206, rfl, rfl, (h207.mono hle)⟩), eq_monoT _ _, (by rintro H1 H2 rs v hle ⟨v208, xs209, rfl, rfl, h210⟩; exact ⟨v208, xs209, rfl, rfl, (h210.mono hle)⟩), eq_monoT _ _, (by rintro H1 H2 rs v hle ⟨v211, xs212, rfl, rfl, hr213⟩; exact ⟨v211, xs212, rfl, rfl, (hr213.mono hle)⟩), eq_monoT _ _, eq_monoT _ _, eq_monoT _ _, eq_monoT _ _, eq_monoT _ _, eq_monoT _ _, eq_monoT _ _, eq_monoT _ _, eq_monoT _ _, eq_monoT _ _, eq_monoT _ _, eq_monoT _ _, eq_monoT _ _, eq_monoT _ _, eq_monoT _ _, eq_monoT _ _, eq_monoT _ _, eq_monoT _ _, eq_monoT _ _, eq_monoT _ _, eq_monoT _ _, eq_monoT _ _, eq_monoT _ _, eq_monoT _ _, eq_monoT _ _, eq_monoT _ _, eq_monoT _ _, eq_monoT _ _, trivial⟩) ⟨?_, ?_, ?_, ?_, ?_, ?_, ?_, ?_, ?_, ?_, ?_, ?_, ?_, ?_, ?_, ?_, ?_, ?_, ?_, ?_, ?_, ?_, ?_, ?_, ?_, ?_, ?_, ?_, ?_, ?_, ?_, ?_, ?_, ?_, trivial⟩ ?_
                · intro HX hX X Rest hR
                  intro hU hUp
                  refine W_move rfl rfl rfl ?_
                  exact W_end (OneT_end [] (Hp.le_refl _) ⟨rfl, rfl⟩)
                · intro HX hX X Rest hR
                  rintro _ _ ⟨rfl, rfl⟩
                  rintro hU ⟨Rr, hUp⟩
                  have hUq : (.obj b126 (.cells [v127].toArray 51 (0, 0)) :: .row v127 30 (Rep.sz S_api_Event) sp125.all_.length xs128 :: Rr).Perm Rest := hUp
                  have hR2 : ∀ s ∈ _, s ∈ .obj b126 (.cells [v127].toArray 51 (0, 0)) :: .row v127 30 (Rep.sz S_api_Event) sp125.all_.length xs128 :: Rr := fun s hs => hUq.mem_iff.2 (hR s hs)
                  refine W_perm (M' := .obj b126 (.cells [v127].toArray 51 (0, 0)) :: .row v127 30 (Rep.sz S_api_Event) sp125.all_.length xs128 :: Rr) (List.Perm.append_left [] hUq.symm) ?_
                  refine W_call Proofs.Tryd.call13 rfl rfl rfl (fun w ht => by have h := m_archive_Archive_All_c (hm := hc147) (h129.mono hX) ht; exact h) ?_
                  rintro _ _ _ ⟨rfl, v205, xs206, rfl, rfl, h207⟩
                  have h207 := h207 HX
                  refine W_perm (List.Perm.cons _ hUq) ?_
                  exact W_end (OneT_end [.row v205 30 (Rep.sz S_api_Event) r146.length xs206] (Hp.le_refl _) ⟨v205, xs206, rfl, rfl, (h207)⟩)
                · intro HX hX X Rest hR
                  intro hU hUp
                  refine W_move rfl rfl rfl ?_
                  exact W_end (OneT_end [] (Hp.le_refl _) ⟨rfl, rfl⟩)
                · intro HX hX X Rest hR
                  rintro _ _ ⟨rfl, rfl⟩
                  rintro _ _ ⟨v205, xs206, rfl, rfl, h207⟩
                  rintro hU ⟨Rr, hUp⟩
                  have hUq : (.obj b104 (.cells [v105].toArray 51 (0, 0)) :: .row v105 30 (Rep.sz S_api_Event) sp103.all_.length xs106 :: Rr).Perm Rest := hUp
                  have hR2 : ∀ s ∈ _, s ∈ .obj b104 (.cells [v105].toArray 51 (0, 0)) :: .row v105 30 (Rep.sz S_api_Event) sp103.all_.length xs106 :: Rr := fun s hs => hUq.mem_iff.2 (hR s hs)
                  refine W_perm (M' := .obj b104 (.cells [v105].toArray 51 (0, 0)) :: .row v105 30 (Rep.sz S_api_Event) sp103.all_.length xs106 :: Rr) (List.Perm.append_left [] hUq.symm) ?_
                  refine W_call Proofs.Tryd.call13 rfl rfl rfl (fun w ht => by have h := m_archive_Archive_All_c (hm := hc152) ((h107.mono hle135).mono hX) ht; exact h) ?_
                  rintro _ _ _ ⟨rfl, v208, xs209, rfl, rfl, h210⟩
                  have h210 := h210 HX
                  refine W_perm (List.Perm.cons _ hUq) ?_
                  exact W_end (OneT_end [.row v208 30 (Rep.sz S_api_Event) r151.length xs209] (Hp.le_refl _) ⟨v208, xs209, rfl, rfl, (h210)⟩)
                · intro HX hX X Rest hR
                  intro hU hUp
                  refine W_move rfl rfl rfl ?_
                  exact W_end (OneT_end [] (Hp.le_refl _) ⟨rfl, rfl⟩)
                · intro HX hX X Rest hR
                  rintro _ _ ⟨v208, xs209, rfl, rfl, h210⟩
                  rintro _ _ ⟨rfl, rfl⟩
                  intro hU hUp
                  refine W_as (M' := .row v208 30 (Rep.sz S_api_Event) r151.length xs209 :: Rest) rfl ?_
                  refine W_sliceO (α := S_api_Event) (l := 0) (h := (r144 : Int).toNat) rfl rfl Proofs.Tryd.runUnderlying22 Proofs.Tryd.sizeOf30 rfl rfl h210 (by omega) (by omega) (fun m hmm => (.inr ⟨_, _, _, rfl, rfl, by omega, by omega, rfl⟩)) (.inl ⟨rfl, rfl⟩) ?_
                  intro v211 xs212 hr213
                  exact W_end (OneT_end [.row v211 30 (Rep.sz S_api_Event) (slc r151 0 ((r144 : Int).toNat)).length xs212] (Hp.le_refl _) ⟨v211, xs212, rfl, rfl, (hr213)⟩)
                · intro HX hX X Rest hR
                  rintro _ _ ⟨v205, xs206, rfl, rfl, h207⟩
                  rintro _ _ ⟨v211, xs212, rfl, rfl, hr213⟩
                  rintro _ _ ⟨v208, xs209, rfl, rfl, h210⟩
                  rintro hU ⟨Rr, hUp⟩
                  have hUq : (.row v205 30 (Rep.sz S_api_Event) r146.length xs206 :: .row v211 30 (Rep.sz S_api_Event) (slc r151 0 ((r144 : Int).toNat)).length xs212 :: Rr).Perm Rest := hUp
                  have hR2 : ∀ s ∈ _, s ∈ .row v205 30 (Rep.sz S_api_Event) r146.length xs206 :: .row v211 30 (Rep.sz S_api_Event) (slc r151 0 ((r144 : Int).toNat)).length xs212 :: Rr := fun s hs => hUq.mem_iff.2 (hR s hs)
                  refine W_perm (M' := .row v205 30 (Rep.sz S_api_Event) r146.length xs206 :: .row v211 30 (Rep.sz S_api_Event) (slc r151 0 ((r144 : Int).toNat)).length xs212 :: Rr) (List.Perm.append_left [] hUq.symm) ?_
                  refine W_call Proofs.Tryd.call11 rfl rfl rfl (fun w ht => by obtain ⟨H0_, hl0_, ht0_, hr0_, bk0_⟩ := ht.lendRow h207 rfl; obtain ⟨H1_, hl1_, ht1_, hr1_, bk1_⟩ := ht0_.lendRow (hr213.mono hl0_) rfl; have h := m_slices_Equal_api_Event_api_Event_c (hm := hc161) (hr0_.mono hl1_) hr1_ ht1_; exact lend_back bk0_ (lend_back bk1_ (h))) ?_
                  rintro _ _ _ ⟨rfl, ⟨_, rfl, ⟨_, rfl, rfl, rfl⟩⟩⟩
                  refine W_perm hUq ?_
                  exact W_end (OneT_end [] (Hp.le_refl _) ⟨rfl, (by first | rfl | (rw [hb162]; try rfl))⟩)
                · intro HX hX X Rest hR
                  rintro _ _ ⟨rfl, rfl⟩
                  rintro _ _ ⟨rfl, rfl⟩
                  intro hU hUp
                  refine W_move rfl rfl rfl ?_
                  exact W_end (OneT_end [] (Hp.le_refl _) ⟨rfl, rfl⟩)
                · intro HX hX X Rest hR
                  rintro _ _ ⟨rfl, rfl⟩
                  intro hU hUp
                  refine W_move rfl rfl rfl ?_
                  exact W_end (OneT_end [] (Hp.le_refl _) ⟨rfl, rfl⟩)
                · intro HX hX X Rest hR
                  rintro _ _ ⟨rfl, rfl⟩
                  rintro _ _ ⟨rfl, rfl⟩
                  rintro _ _ ⟨rfl, rfl⟩
                  rintro hU ⟨Rr, hUp⟩
                  have hUq : (.obj b126 (.cells [v127].toArray 51 (0, 0)) :: .row v127 30 (Rep.sz S_api_Event) sp125.all_.length xs128 :: Rr).Perm Rest := hUp
                  have hR2 : ∀ s ∈ _, s ∈ .obj b126 (.cells [v127].toArray 51 (0, 0)) :: .row v127 30 (Rep.sz S_api_Event) sp125.all_.length xs128 :: Rr := fun s hs => hUq.mem_iff.2 (hR s hs)
                  refine W_perm (M' := .obj b126 (.cells [v127].toArray 51 (0, 0)) :: .row v127 30 (Rep.sz S_api_Event) sp125.all_.length xs128 :: Rr) (List.Perm.append_left [] hUq.symm) ?_
                  refine W_call Proofs.Tryd.call17 rfl rfl rfl (fun w ht => by have h := m_archive_Archive_Text_c (hm := hc193) (h129.mono hX) ht; exact h) ?_
                  rintro _ _ _ ⟨rfl, rfl, rfl⟩
                  refine W_perm hUq ?_
                  exact W_end (OneT_end [] (Hp.le_refl _) ⟨rfl, rfl⟩)
                · intro HX hX X Rest hR
                  rintro _ _ ⟨rfl, rfl⟩
                  intro hU hUp
                  refine W_move rfl rfl rfl ?_
                  exact W_end (OneT_end [] (Hp.le_refl _) ⟨rfl, rfl⟩)
                · intro HX hX X Rest hR
                  rintro _ _ ⟨rfl, rfl⟩
                  intro hU hUp
                  refine W_move rfl rfl rfl ?_
                  exact W_end (OneT_end [] (Hp.le_refl _) ⟨rfl, rfl⟩)
                · intro HX hX X Rest hR
                  rintro _ _ ⟨rfl, rfl⟩
                  rintro _ _ ⟨rfl, rfl⟩
                  rintro _ _ ⟨rfl, rfl⟩
                  intro hU hUp
                  refine W_sliceStr (l := 0) (h := (r123.2.1 : Int).toNat) rfl rfl Proofs.Tryd.runUnderlying9 rfl (.inr ⟨_, _, _, rfl, rfl, by omega, by omega, rfl⟩) (.inl ⟨rfl, rfl⟩) ?_
                  exact W_end (OneT_end [] (Hp.le_refl _) ⟨rfl, rfl⟩)
                · intro HX hX X Rest hR
                  rintro _ _ ⟨rfl, rfl⟩
                  rintro _ _ ⟨rfl, rfl⟩
                  rintro _ _ ⟨rfl, rfl⟩
                  intro hU hUp
                  refine W_bin rfl rfl rfl rfl rfl ?_
                  exact W_end (OneT_end [] (Hp.le_refl _) ⟨rfl, (by first | rfl | (rw [hb195]; try rfl))⟩)
                · intro HX hX X Rest hR
                  rintro _ _ ⟨rfl, rfl⟩
                  rintro _ _ ⟨rfl, rfl⟩
                  intro hU hUp
                  refine W_pick rfl rfl rfl rfl ?_
                  exact W_end (OneT_end [] (Hp.le_refl _) ⟨rfl, rfl⟩)
                · intro HX hX X Rest hR
                  rintro _ _ ⟨rfl, rfl⟩
                  rintro _ _ ⟨rfl, rfl⟩
                  intro hU hUp
                  refine W_move rfl rfl rfl ?_
                  exact W_end (OneT_end [] (Hp.le_refl _) ⟨rfl, rfl⟩)
                · intro HX hX X Rest hR
                  rintro _ _ ⟨rfl, rfl⟩
                  intro hU hUp
                  refine W_no rfl rfl rfl ?_
                  exact W_end (OneT_end [] (Hp.le_refl _) ⟨rfl, rfl⟩)
                · intro HX hX X Rest hR
                  rintro _ _ ⟨rfl, rfl⟩
                  intro hU hUp
                  refine W_no rfl rfl rfl ?_
                  exact W_end (OneT_end [] (Hp.le_refl _) ⟨rfl, rfl⟩)
                · intro HX hX X Rest hR
                  rintro _ _ ⟨rfl, rfl⟩
                  intro hU hUp
                  refine W_no rfl rfl rfl ?_
                  exact W_end (OneT_end [] (Hp.le_refl _) ⟨rfl, rfl⟩)
                · intro HX hX X Rest hR
                  rintro _ _ ⟨rfl, rfl⟩
                  rintro _ _ ⟨rfl, rfl⟩
                  rintro _ _ ⟨rfl, rfl⟩
                  intro hU hUp
                  refine W_no rfl rfl rfl ?_
                  exact W_end (OneT_end [] (Hp.le_refl _) ⟨rfl, rfl⟩)
                · intro HX hX X Rest hR
                  rintro _ _ ⟨rfl, rfl⟩
                  rintro _ _ ⟨rfl, rfl⟩
                  rintro _ _ ⟨rfl, rfl⟩
                  intro hU hUp
                  refine W_no rfl rfl rfl ?_
                  exact W_end (OneT_end [] (Hp.le_refl _) ⟨rfl, rfl⟩)
                · intro HX hX X Rest hR
                  rintro _ _ ⟨rfl, rfl⟩
                  rintro _ _ ⟨rfl, rfl⟩
                  intro hU hUp
                  refine W_no rfl rfl rfl ?_
                  exact W_end (OneT_end [] (Hp.le_refl _) ⟨rfl, rfl⟩)
                · intro HX hX X Rest hR
                  rintro _ _ ⟨rfl, rfl⟩
                  rintro _ _ ⟨rfl, rfl⟩
                  rintro _ _ ⟨rfl, rfl⟩
                  intro hU hUp
                  refine W_no rfl rfl rfl ?_
                  exact W_end (OneT_end [] (Hp.le_refl _) ⟨rfl, rfl⟩)
                · intro HX hX X Rest hR
                  rintro _ _ ⟨rfl, rfl⟩
                  rintro _ _ ⟨rfl, rfl⟩
                  intro hU hUp
                  refine W_pick rfl rfl rfl rfl ?_
                  exact W_end (OneT_end [] (Hp.le_refl _) ⟨rfl, rfl⟩)
                · intro HX hX X Rest hR
                  rintro _ _ ⟨rfl, rfl⟩
                  rintro _ _ ⟨rfl, rfl⟩
                  intro hU hUp
                  refine W_move rfl rfl rfl ?_
                  exact W_end (OneT_end [] (Hp.le_refl _) ⟨rfl, rfl⟩)
                · intro HX hX X Rest hR
                  rintro _ _ ⟨rfl, rfl⟩
                  intro hU hUp
                  refine W_no rfl rfl rfl ?_
                  exact W_end (OneT_end [] (Hp.le_refl _) ⟨rfl, rfl⟩)
                · intro HX hX X Rest hR
                  rintro _ _ ⟨rfl, rfl⟩
                  intro hU hUp
                  refine W_no rfl rfl rfl ?_
                  exact W_end (OneT_end [] (Hp.le_refl _) ⟨rfl, rfl⟩)
                · intro HX hX X Rest hR
                  rintro _ _ ⟨rfl, rfl⟩
                  rintro _ _ ⟨rfl, rfl⟩
                  rintro _ _ ⟨rfl, rfl⟩
                  intro hU hUp
                  refine W_no rfl rfl rfl ?_
                  exact W_end (OneT_end [] (Hp.le_refl _) ⟨rfl, rfl⟩)
                · intro HX hX X Rest hR
                  rintro _ _ ⟨rfl, rfl⟩
                  rintro _ _ ⟨rfl, rfl⟩
                  intro hU hUp
                  refine W_no rfl rfl rfl ?_
                  exact W_end (OneT_end [] (Hp.le_refl _) ⟨rfl, rfl⟩)
                · intro HX hX X Rest hR
                  rintro _ _ ⟨rfl, rfl⟩
                  rintro _ _ ⟨rfl, rfl⟩
                  rintro _ _ ⟨rfl, rfl⟩
                  intro hU hUp
                  refine W_no rfl rfl rfl ?_
                  exact W_end (OneT_end [] (Hp.le_refl _) ⟨rfl, rfl⟩)
                · intro HX hX X Rest hR
                  rintro _ _ ⟨rfl, rfl⟩
                  rintro _ _ ⟨rfl, rfl⟩
                  rintro _ _ ⟨rfl, rfl⟩
                  intro hU hUp
                  refine W_no rfl rfl rfl ?_
                  exact W_end (OneT_end [] (Hp.le_refl _) ⟨rfl, rfl⟩)
                · intro HX hX X Rest hR
                  rintro _ _ ⟨rfl, rfl⟩
                  intro hU hUp
                  refine W_no rfl rfl rfl ?_
                  exact W_end (OneT_end [] (Hp.le_refl _) ⟨rfl, rfl⟩)
                · intro HX hX X Rest hR
                  rintro _ _ ⟨rfl, rfl⟩
                  rintro _ _ ⟨rfl, rfl⟩
                  rintro _ _ ⟨rfl, rfl⟩
                  intro hU hUp
                  refine W_no rfl rfl rfl ?_
                  exact W_end (OneT_end [] (Hp.le_refl _) ⟨rfl, rfl⟩)
                · intro HX hX X Rest hR
                  rintro _ _ ⟨rfl, rfl⟩
                  intro hU hUp
                  refine W_no rfl rfl rfl ?_
                  exact W_end (OneT_end [] (Hp.le_refl _) ⟨rfl, rfl⟩)
                intro H214 hle215
                rintro _ _ ⟨rfl, rfl⟩
                rintro _ _ ⟨v205, xs206, rfl, rfl, h207⟩
                rintro _ _ ⟨rfl, rfl⟩
                rintro _ _ ⟨v208, xs209, rfl, rfl, h210⟩
                rintro _ _ ⟨rfl, rfl⟩
                rintro _ _ ⟨v211, xs212, rfl, rfl, hr213⟩
                rintro _ _ ⟨rfl, rfl⟩
                rintro _ _ ⟨rfl, rfl⟩
                rintro _ _ ⟨rfl, rfl⟩
                rintro _ _ ⟨rfl, rfl⟩
                rintro _ _ ⟨rfl, rfl⟩
                rintro _ _ ⟨rfl, rfl⟩
                rintro _ _ ⟨rfl, rfl⟩
                rintro _ _ ⟨rfl, rfl⟩
                rintro _ _ ⟨rfl, rfl⟩
                rintro _ _ ⟨rfl, rfl⟩
                rintro _ _ ⟨rfl, rfl⟩
                rintro _ _ ⟨rfl, rfl⟩
                rintro _ _ ⟨rfl, rfl⟩
                rintro _ _ ⟨rfl, rfl⟩
                rintro _ _ ⟨rfl, rfl⟩
                rintro _ _ ⟨rfl, rfl⟩
                rintro _ _ ⟨rfl, rfl⟩
                rintro _ _ ⟨rfl, rfl⟩
                rintro _ _ ⟨rfl, rfl⟩
                rintro _ _ ⟨rfl, rfl⟩
                rintro _ _ ⟨rfl, rfl⟩
                rintro _ _ ⟨rfl, rfl⟩
                rintro _ _ ⟨rfl, rfl⟩
                rintro _ _ ⟨rfl, rfl⟩
                rintro _ _ ⟨rfl, rfl⟩
                rintro _ _ ⟨rfl, rfl⟩
                rintro _ _ ⟨rfl, rfl⟩
                rintro _ _ ⟨rfl, rfl⟩
                refine W_as (M' := .row v205 30 (Rep.sz S_api_Event) r146.length xs206 :: .row v211 30 (Rep.sz S_api_Event) (slc r151 0 ((r144 : Int).toNat)).length xs212 :: .obj b126 (.cells [v127].toArray 51 (0, 0)) :: .row v127 30 (Rep.sz S_api_Event) sp125.all_.length xs128 :: .obj b104 (.cells [v105].toArray 51 (0, 0)) :: .row v105 30 (Rep.sz S_api_Event) sp103.all_.length xs106 :: M) rfl ?_
                refine W_no rfl rfl rfl ?_
                refine W_no rfl rfl rfl ?_
                refine W_no rfl rfl rfl ?_
                refine W_pick rfl rfl rfl rfl ?_
                refine W_assign rfl rfl rfl ?_
                refine W_end ?_
                refine E_then ?_
                refine C_ret ?_
                obtain rfl := Option.some.inj hm
                refine E_drop (List.Sublist.cons _ (List.Sublist.cons _ (List.Sublist.cons _ (List.Sublist.cons _ (List.Sublist.cons _ (List.Sublist.cons _ (List.Sublist.refl _))))))) ?_
                refine E_weak (Hp.le_trans (Hp.le_trans hle113 hle135) hle215) ?_
                exact end1 rfl rfl ⟨rfl, rfl, rfl⟩
              · have hm := ite_t' hb195 hm
                obtain ⟨hz225, hm⟩ := need_some hm
                obtain ⟨r226, hc227, hm⟩ := bind_some hm
                cases hb228 : (decide (r123.2.1 = (IntKind.i64.wrap (r226 + 1))))
                · have hm := ite_f' hb228 hm
                  refine C_perm (List.Perm.refl _) ?_
                  refine C_as (M' := [[.obj b126 (.cells [v127].toArray 51 (0, 0))], [.row v127 30 (Rep.sz S_api_Event) sp125.all_.length xs128], [.obj b104 (.cells [v105].toArray 51 (0, 0))], [.row v105 30 (Rep.sz S_api_Event) sp103.all_.length xs106]].flatten ++ (M)) rfl ?_
                  refine C_region_tok0 34 (phiT [(fun H rs v => [] = rs ∧ .pointer (some ⟨b126, 0, none⟩) = v), (fun H rs v => ∃ v238 : Value, ∃ xs239 : List Value, [.row v238 30 (Rep.sz S_api_Event) r146.length xs239] = rs ∧ v238 = v ∧ Rw H v238 xs239 r146), (fun H rs v => [] = rs ∧ .pointer (some ⟨b104, 0, none⟩) = v), (fun H rs v => ∃ v241 : Value, ∃ xs242 : List Value, [.row v241 30 (Rep.sz S_api_Event) r151.length xs242] = rs ∧ v241 = v ∧ Rw H v241 xs242 r151), (fun H rs v => [] = rs ∧ .int .i64 (r144) = v), (fun H rs v => ∃ v244 : Value, ∃ xs245 : List Value, [.row v244 30 (Rep.sz S_api_Event) (slc r151 0 ((r144 : Int).toNat)).length xs245] = rs ∧ v244 = v ∧ Rw H v244 xs245 (slc r151 0 ((r144 : Int).toNat))), (fun H rs v => [] = rs ∧ .bool (true) = v), (fun H rs v => [] = rs ∧ .bool (true) = v), (fun H rs v => [] = rs ∧ .pointer (some ⟨b126, 0, none⟩) = v), (fun H rs v => [] = rs ∧ .string (r192) = v), (fun H rs v => [] = rs ∧ .string (r118) = v), (fun H rs v => [] = rs ∧ .int .i64 (r123.2.1) = v), (fun H rs v => [] = rs ∧ .string (r118.extract 0 ((r123.2.1 : Int).toNat)) = v), (fun H rs v => [] = rs ∧ .bool (true) = v), (fun H rs v => [] = rs ∧ .bool (true) = v), (fun H rs v => [] = rs ∧ .bool (true) = v), (fun H rs v => [] = rs ∧ .int .i64 (r123.2.1) = v), (fun H rs v => [] = rs ∧ .string (r118) = v), (fun H rs v => [] = rs ∧ .int .i64 (r120) = v), (fun H rs v => [] = rs ∧ .string (r118.extract 0 ((r120 : Int).toNat)) = v), (fun H rs v => [] = rs ∧ .int .i64 (r226) = v), (fun H rs v => [] = rs ∧ .int .i64 (IntKind.i64.wrap (r226 + 1)) = v), (fun H rs v => [] = rs ∧ .bool (false) = v), (fun H rs v => [] = rs ∧ .bool (false) = v), (fun H rs v => [] = rs ∧ .bool (false) = v), (fun H rs v => [] = rs ∧ undef = v), (fun H rs v => [] = rs ∧ undef = v), (fun H rs v => [] = rs ∧ undef = v), (fun H rs v => [] = rs ∧ undef = v), (fun H rs v => [] = rs ∧ undef = v), (fun H rs v => [] = rs ∧ undef = v), (fun H rs v => [] = rs ∧ undef = v), (fun H rs v => [] = rs ∧ undef = v), (fun H rs v => [] = rs ∧ undef = v)]) [[], [], [], [], [], [3], [], [], [], [], [], [], [], [], [], [], [], [], [], [], [], [], [], [], [], [], [], [], [], [], [], [], [], []] [[], [34, 35], [], [36, 37], [], [], [1, 5], [], [], [34, 35], [], [], [], [], [], [], [], [], [], [], [], [], [], [], [], [], [], [], [], [], [], [], [], []] [[.obj b126 (.cells [v127].toArray 51 (0, 0))], [.row v127 30 (Rep.sz S_api_Event) sp125.all_.length xs128], [.obj b104 (.cells [v105].toArray 51 (0, 0))], [.row v105 30 (Rep.sz S_api_Event) sp103.all_.length xs106]] [0, 1, 2, 4, 5, 6, 7, 8, 9, 10, 11, 12, 13, 14, 15, 16, 17, 18, 19, 20, 21, 22, 23, 24, 25, 26, 27, 28, 29, 30, 31, 32, 33, 34, 35, 36, 37] Facts.mixed (by kernel_rfl) rfl rfl rfl (by kernel_rfl) (phiT_mono ⟨eq_monoT _ _, (by rintro H1 H2 rs v hle ⟨v238, xs239, rfl, rfl, h240⟩; exact ⟨v238, xs239, rfl, rfl, (h240.mono hle)⟩), eq_monoT _ _, (by rintro H1 H2 rs v hle ⟨v241, xs242, rfl, rfl, h243⟩; exact ⟨v241, xs242, rfl, rfl, (h243.mono hle)⟩), eq_monoT _ _, (by rintro H1 H2 rs v hle ⟨v244, xs245, rfl, rfl, hr246⟩; exact ⟨v244, xs245, rfl, rfl, (hr246.mono hle)⟩), eq_monoT _ _, eq_monoT _ _, eq_monoT _ _, eq_monoT _ _, eq_monoT _ _, eq_monoT _ _, eq_monoT _ _, eq_monoT _ _, eq_monoT _ _, eq_monoT _ _, eq_monoT _ _, eq_monoT _ _, eq_monoT _ _, eq_monoT _ _, eq_monoT _ _, eq_monoT _ _, eq_monoT _ _, eq_monoT _ _, eq_monoT _ _, eq_monoT _ _, eq_monoT _ _, eq_monoT _ _, eq_monoT _ _, eq_monoT _ _, eq_monoT _ _, eq_monoT _ _, eq_monoT _ _, eq_monoT _ _, trivial⟩) ⟨?_, ?_, ?_, ?_, ?_, ?_, ?_, ?_, ?_, ?_, ?_, ?_, ?_, ?_, ?_, ?_, ?_, ?_, ?_, ?_, ?_, ?_, ?_, ?_, ?_, ?_, ?_, ?_, ?_, ?_, ?_, ?_, ?_, ?_, trivial⟩ ?_
                  · intro HX hX X Rest hR
                    intro hU hUp
                    refine W_move rfl rfl rfl ?_
                    exact W_end (OneT_end [] (Hp.le_refl _) ⟨rfl, rfl⟩)
                  · intro HX hX X Rest hR
                    rintro _ _ ⟨rfl, rfl⟩
                    rintro hU ⟨Rr, hUp⟩
                    have hUq : (.obj b126 (.cells [v127].toArray 51 (0, 0)) :: .row v127 30 (Rep.sz S_api_Event) sp125.all_.length xs128 :: Rr).Perm Rest := hUp
                    have hR2 : ∀ s ∈ _, s ∈ .obj b126 (.cells [v127].toArray 51 (0, 0)) :: .row v127 30 (Rep.sz S_api_Event) sp125.all_.length xs128 :: Rr := fun s hs => hUq.mem_iff.2 (hR s hs)
                    refine W_perm (M' := .obj b126 (.cells [v127].toArray 51 (0, 0)) :: .row v127 30 (Rep.sz S_api_Event) sp125.all_.length xs128 :: Rr) (List.Perm.append_left [] hUq.symm) ?_
                    refine W_call Proofs.Tryd.call13 rfl rfl rfl (fun w ht => by have h := m_archive_Archive_All_c (hm := hc147) (h129.mono hX) ht; exact h) ?_
                    rintro _ _ _ ⟨rfl, v238, xs239, rfl, rfl, h240⟩
                    have h240 := h240 HX
                    refine W_perm (List.Perm.cons _ hUq) ?_
                    exact W_end (OneT_end [.row v238 30 (Rep.sz S_api_Event) r146.length xs239] (Hp.le_refl _) ⟨v238, xs239, rfl, rfl, (h240)⟩)
                  · intro HX hX X Rest hR
                    intro hU hUp
                    refine W_move rfl rfl rfl ?_
                    exact W_end (OneT_end [] (Hp.le_refl _) ⟨rfl, rfl⟩)
                  · intro HX hX X Rest hR
                    rintro _ _ ⟨rfl, rfl⟩
                    rintro _ _ ⟨v238, xs239, rfl, rfl, h240⟩
                    rintro hU ⟨Rr, hUp⟩
                    have hUq : (.obj b104 (.cells [v105].toArray 51 (0, 0)) :: .row v105 30 (Rep.sz S_api_Event) sp103.all_.length xs106 :: Rr).Perm Rest := hUp
                    have hR2 : ∀ s ∈ _, s ∈ .obj b104 (.cells [v105].toArray 51 (0, 0)) :: .row v105 30 (Rep.sz S_api_Event) sp103.all_.length xs106 :: Rr := fun s hs => hUq.mem_iff.2 (hR s hs)
                    refine W_perm (M' := .obj b104 (.cells [v105].toArray 51 (0, 0)) :: .row v105 30 (Rep.sz S_api_Event) sp103.all_.length xs106 :: Rr) (List.Perm.append_left [] hUq.symm) ?_
                    refine W_call Proofs.Tryd.call13 rfl rfl rfl (fun w ht => by have h := m_archive_Archive_All_c (hm := hc152) ((h107.mono hle135).mono hX) ht; exact h) ?_
                    rintro _ _ _ ⟨rfl, v241, xs242, rfl, rfl, h243⟩
                    have h243 := h243 HX
                    refine W_perm (List.Perm.cons _ hUq) ?_
                    exact W_end (OneT_end [.row v241 30 (Rep.sz S_api_Event) r151.length xs242] (Hp.le_refl _) ⟨v241, xs242, rfl, rfl, (h243)⟩)
                  · intro HX hX X Rest hR
                    intro hU hUp
                    refine W_move rfl rfl rfl ?_
                    exact W_end (OneT_end [] (Hp.le_refl _) ⟨rfl, rfl⟩)
                  · intro HX hX X Rest hR
                    rintro _ _ ⟨v241, xs242, rfl, rfl, h243⟩
                    rintro _ _ ⟨rfl, rfl⟩
                    intro hU hUp
                    refine W_as (M' := .row v241 30 (Rep.sz S_api_Event) r151.length xs242 :: Rest) rfl ?_
                    refine W_sliceO (α := S_api_Event) (l := 0) (h := (r144 : Int).toNat) rfl rfl Proofs.Tryd.runUnderlying22 Proofs.Tryd.sizeOf30 rfl rfl h243 (by omega) (by omega) (fun m hmm => (.inr ⟨_, _, _, rfl, rfl, by omega, by omega, rfl⟩)) (.inl ⟨rfl, rfl⟩) ?_
                    intro v244 xs245 hr246
                    exact W_end (OneT_end [.row v244 30 (Rep.sz S_api_Event) (slc r151 0 ((r144 : Int).toNat)).length xs245] (Hp.le_refl _) ⟨v244, xs245, rfl, rfl, (hr246)⟩)
                  · intro HX hX X Rest hR
                    rintro _ _ ⟨v238, xs239, rfl, rfl, h240⟩
                    rintro _ _ ⟨v244, xs245, rfl, rfl, hr246⟩
                    rintro _ _ ⟨v241, xs242, rfl, rfl, h243⟩
                    rintro hU ⟨Rr, hUp⟩
                    have hUq : (.row v238 30 (Rep.sz S_api_Event) r146.length xs239 :: .row v244 30 (Rep.sz S_api_Event) (slc r151 0 ((r144 : Int).toNat)).length xs245 :: Rr).Perm Rest := hUp
                    have hR2 : ∀ s ∈ _, s ∈ .row v238 30 (Rep.sz S_api_Event) r146.length xs239 :: .row v244 30 (Rep.sz S_api_Event) (slc r151 0 ((r144 : Int).toNat)).length xs245 :: Rr := fun s hs => hUq.mem_iff.2 (hR s hs)
                    refine W_perm (M' := .row v238 30 (Rep.sz S_api_Event) r146.length xs239 :: .row v244 30 (Rep.sz S_api_Event) (slc r151 0 ((r144 : Int).toNat)).length xs245 :: Rr) (List.Perm.append_left [] hUq.symm) ?_
                    refine W_call Proofs.Tryd.call11 rfl rfl rfl (fun w ht => by obtain ⟨H0_, hl0_, ht0_, hr0_, bk0_⟩ := ht.lendRow h240 rfl; obtain ⟨H1_, hl1_, ht1_, hr1_, bk1_⟩ := ht0_.lendRow (hr246.mono hl0_) rfl; have h := m_slices_Equal_api_Event_api_Event_c (hm := hc161) (hr0_.mono hl1_) hr1_ ht1_; exact lend_back bk0_ (lend_back bk1_ (h))) ?_
                    rintro _ _ _ ⟨rfl, ⟨_, rfl, ⟨_, rfl, rfl, rfl⟩⟩⟩
                    refine W_perm hUq ?_
                    exact W_end (OneT_end [] (Hp.le_refl _) ⟨rfl, (by first | rfl | (rw [hb162]; try rfl))⟩)
                  · intro HX hX X Rest hR
                    rintro _ _ ⟨rfl, rfl⟩
                    rintro _ _ ⟨rfl, rfl⟩
                    intro hU hUp
                    refine W_move rfl rfl rfl ?_
                    exact W_end (OneT_end [] (Hp.le_refl _) ⟨rfl, rfl⟩)
                  · intro HX hX X Rest hR
                    rintro _ _ ⟨rfl, rfl⟩
                    intro hU hUp
                    refine W_move rfl rfl rfl ?_
                    exact W_end (OneT_end [] (Hp.le_refl _) ⟨rfl, rfl⟩)
                  · intro HX hX X Rest hR
                    rintro _ _ ⟨rfl, rfl⟩
                    rintro _ _ ⟨rfl, rfl⟩
                    rintro _ _ ⟨rfl, rfl⟩
                    rintro hU ⟨Rr, hUp⟩
                    have hUq : (.obj b126 (.cells [v127].toArray 51 (0, 0)) :: .row v127 30 (Rep.sz S_api_Event) sp125.all_.length xs128 :: Rr).Perm Rest := hUp
                    have hR2 : ∀ s ∈ _, s ∈ .obj b126 (.cells [v127].toArray 51 (0, 0)) :: .row v127 30 (Rep.sz S_api_Event) sp125.all_.length xs128 :: Rr := fun s hs => hUq.mem_iff.2 (hR s hs)
                    refine W_perm (M' := .obj b126 (.cells [v127].toArray 51 (0, 0)) :: .row v127 30 (Rep.sz S_api_Event) sp125.all_.length xs128 :: Rr) (List.Perm.append_left [] hUq.symm) ?_
                    refine W_call Proofs.Tryd.call17 rfl rfl rfl (fun w ht => by have h := m_archive_Archive_Text_c (hm := hc193) (h129.mono hX) ht; exact h) ?_
                    rintro _ _ _ ⟨rfl, rfl, rfl⟩
                    refine W_perm hUq ?_
                    exact W_end (OneT_end [] (Hp.le_refl _) ⟨rfl, rfl⟩)
                  · intro HX hX X Rest hR
                    rintro _ _ ⟨rfl, rfl⟩
                    intro hU hUp
                    refine W_move rfl rfl rfl ?_
                    exact W_end (OneT_end [] (Hp.le_refl _) ⟨rfl, rfl⟩)
                  · intro HX hX X Rest hR
                    rintro _ _ ⟨rfl, rfl⟩
                    intro hU hUp
                    refine W_move rfl rfl rfl ?_
                    exact W_end (OneT_end [] (Hp.le_refl _) ⟨rfl, rfl⟩)
                  · intro HX hX X Rest hR
                    rintro _ _ ⟨rfl, rfl⟩
                    rintro _ _ ⟨rfl, rfl⟩
                    rintro _ _ ⟨rfl, rfl⟩
                    intro hU hUp
                    refine W_sliceStr (l := 0) (h := (r123.2.1 : Int).toNat) rfl rfl Proofs.Tryd.runUnderlying9 rfl (.inr ⟨_, _, _, rfl, rfl, by omega, by omega, rfl⟩) (.inl ⟨rfl, rfl⟩) ?_
                    exact W_end (OneT_end [] (Hp.le_refl _) ⟨rfl, rfl⟩)
                  · intro HX hX X Rest hR
                    rintro _ _ ⟨rfl, rfl⟩
                    rintro _ _ ⟨rfl, rfl⟩
                    rintro _ _ ⟨rfl, rfl⟩
                    intro hU hUp
                    refine W_bin rfl rfl rfl rfl rfl ?_
                    exact W_end (OneT_end [] (Hp.le_refl _) ⟨rfl, (by first | rfl | (rw [hb195]; try rfl))⟩)
                  · intro HX hX X Rest hR
                    rintro _ _ ⟨rfl, rfl⟩
                    rintro _ _ ⟨rfl, rfl⟩
                    intro hU hUp
                    refine W_pick rfl rfl rfl rfl ?_
                    exact W_end (OneT_end [] (Hp.le_refl _) ⟨rfl, rfl⟩)
                  · intro HX hX X Rest hR
                    rintro _ _ ⟨rfl, rfl⟩
                    rintro _ _ ⟨rfl, rfl⟩
                    intro hU hUp
                    refine W_move rfl rfl rfl ?_
                    exact W_end (OneT_end [] (Hp.le_refl _) ⟨rfl, rfl⟩)
                  · intro HX hX X Rest hR
                    rintro _ _ ⟨rfl, rfl⟩
                    intro hU hUp
                    refine W_move rfl rfl rfl ?_
                    exact W_end (OneT_end [] (Hp.le_refl _) ⟨rfl, rfl⟩)
                  · intro HX hX X Rest hR
                    rintro _ _ ⟨rfl, rfl⟩
                    intro hU hUp
                    refine W_move rfl rfl rfl ?_
                    exact W_end (OneT_end [] (Hp.le_refl _) ⟨rfl, rfl⟩)
                  · intro HX hX X Rest hR
                    rintro _ _ ⟨rfl, rfl⟩
                    intro hU hUp
                    refine W_move rfl rfl rfl ?_
                    exact W_end (OneT_end [] (Hp.le_refl _) ⟨rfl, rfl⟩)
                  · intro HX hX X Rest hR
                    rintro _ _ ⟨rfl, rfl⟩
                    rintro _ _ ⟨rfl, rfl⟩
                    rintro _ _ ⟨rfl, rfl⟩
                    intro hU hUp
                    refine W_sliceStr (l := 0) (h := (r120 : Int).toNat) rfl rfl Proofs.Tryd.runUnderlying9 rfl (.inr ⟨_, _, _, rfl, rfl, by omega, by omega, rfl⟩) (.inl ⟨rfl, rfl⟩) ?_
                    exact W_end (OneT_end [] (Hp.le_refl _) ⟨rfl, rfl⟩)
                  · intro HX hX X Rest hR
                    rintro _ _ ⟨rfl, rfl⟩
                    rintro _ _ ⟨rfl, rfl⟩
                    rintro _ _ ⟨rfl, rfl⟩
                    intro hU hUp
                    refine W_call Proofs.Tryd.call21 rfl rfl rfl (fun w ht => by have h := m_strings_LastIndex_c (hm := hc227)  ht; exact h) ?_
                    rintro _ _ _ ⟨rfl, rfl, rfl⟩
                    exact W_end (OneT_end [] (Hp.le_refl _) ⟨rfl, rfl⟩)
                  · intro HX hX X Rest hR
                    rintro _ _ ⟨rfl, rfl⟩
                    rintro _ _ ⟨rfl, rfl⟩
                    intro hU hUp
                    refine W_bin rfl rfl rfl rfl rfl ?_
                    exact W_end (OneT_end [] (Hp.le_refl _) ⟨rfl, rfl⟩)
                  · intro HX hX X Rest hR
                    rintro _ _ ⟨rfl, rfl⟩
                    rintro _ _ ⟨rfl, rfl⟩
                    rintro _ _ ⟨rfl, rfl⟩
                    intro hU hUp
                    refine W_bin rfl rfl rfl rfl rfl ?_
                    exact W_end (OneT_end [] (Hp.le_refl _) ⟨rfl, (by first | rfl | (rw [hb228]; try rfl))⟩)
                  · intro HX hX X Rest hR
                    rintro _ _ ⟨rfl, rfl⟩
                    rintro _ _ ⟨rfl, rfl⟩
                    intro hU hUp
                    refine W_pick rfl rfl rfl rfl ?_
                    exact W_end (OneT_end [] (Hp.le_refl _) ⟨rfl, rfl⟩)
                  · intro HX hX X Rest hR
                    rintro _ _ ⟨rfl, rfl⟩
                    rintro _ _ ⟨rfl, rfl⟩
                    intro hU hUp
                    refine W_move rfl rfl rfl ?_
                    exact W_end (OneT_end [] (Hp.le_refl _) ⟨rfl, rfl⟩)
                  · intro HX hX X Rest hR
                    rintro _ _ ⟨rfl, rfl⟩
                    intro hU hUp
                    refine W_no rfl rfl rfl ?_
                    exact W_end (OneT_end [] (Hp.le_refl _) ⟨rfl, rfl⟩)
                  · intro HX hX X Rest hR
                    rintro _ _ ⟨rfl, rfl⟩
                    intro hU hUp
                    refine W_no rfl rfl rfl ?_
                    exact W_end (OneT_end [] (Hp.le_refl _) ⟨rfl, rfl⟩)
                  · intro HX hX X Rest hR
                    rintro _ _ ⟨rfl, rfl⟩
                    rintro _ _ ⟨rfl, rfl⟩
                    rintro _ _ ⟨rfl, rfl⟩
                    intro hU hUp
                    refine W_no rfl rfl rfl ?_
                    exact W_end (OneT_end [] (Hp.le_refl _) ⟨rfl, rfl⟩)
                  · intro HX hX X Rest hR
                    rintro _ _ ⟨rfl, rfl⟩
                    rintro _ _ ⟨rfl, rfl⟩
                    intro hU hUp
                    refine W_no rfl rfl rfl ?_
                    exact W_end (OneT_end [] (Hp.le_refl _) ⟨rfl, rfl⟩)
                  · intro HX hX X Rest hR
                    rintro _ _ ⟨rfl, rfl⟩
                    rintro _ _ ⟨rfl, rfl⟩
                    rintro _ _ ⟨rfl, rfl⟩
                    intro hU hUp
                    refine W_no rfl rfl rfl ?_
                    exact W_end (OneT_end [] (Hp.le_refl _) ⟨rfl, rfl⟩)
                  · intro HX hX X Rest hR
                    rintro _ _ ⟨rfl, rfl⟩
                    rintro _ _ ⟨rfl, rfl⟩
                    rintro _ _ ⟨rfl, rfl⟩
                    intro hU hUp
                    refine W_no rfl rfl rfl ?_
                    exact W_end (OneT_end [] (Hp.le_refl _) ⟨rfl, rfl⟩)
                  · intro HX hX X Rest hR
                    rintro _ _ ⟨rfl, rfl⟩
                    intro hU hUp
                    refine W_no rfl rfl rfl ?_
                    exact W_end (OneT_end [] (Hp.le_refl _) ⟨rfl, rfl⟩)
                  · intro HX hX X Rest hR
                    rintro _ _ ⟨rfl, rfl⟩
                    rintro _ _ ⟨rfl, rfl⟩
                    rintro _ _ ⟨rfl, rfl⟩
                    intro hU hUp
                    refine W_no rfl rfl rfl ?_
                    exact W_end (OneT_end [] (Hp.le_refl _) ⟨rfl, rfl⟩)
                  · intro HX hX X Rest hR
                    rintro _ _ ⟨rfl, rfl⟩
                    intro hU hUp
                    refine W_no rfl rfl rfl ?_
                    exact W_end (OneT_end [] (Hp.le_refl _) ⟨rfl, rfl⟩)
                  intro H247 hle248
                  rintro _ _ ⟨rfl, rfl⟩
                  rintro _ _ ⟨v238, xs239, rfl, rfl, h240⟩
                  rintro _ _ ⟨rfl, rfl⟩
                  rintro _ _ ⟨v241, xs242, rfl, rfl, h243⟩
                  rintro _ _ ⟨rfl, rfl⟩
                  rintro _ _ ⟨v244, xs245, rfl, rfl, hr246⟩
                  rintro _ _ ⟨rfl, rfl⟩
                  rintro _ _ ⟨rfl, rfl⟩
                  rintro _ _ ⟨rfl, rfl⟩
                  rintro _ _ ⟨rfl, rfl⟩
                  rintro _ _ ⟨rfl, rfl⟩
                  rintro _ _ ⟨rfl, rfl⟩
                  rintro _ _ ⟨rfl, rfl⟩
                  rintro _ _ ⟨rfl, rfl⟩
                  rintro _ _ ⟨rfl, rfl⟩
                  rintro _ _ ⟨rfl, rfl⟩
                  rintro _ _ ⟨rfl, rfl⟩
                  rintro _ _ ⟨rfl, rfl⟩
                  rintro _ _ ⟨rfl, rfl⟩
                  rintro _ _ ⟨rfl, rfl⟩
                  rintro _ _ ⟨rfl, rfl⟩
                  rintro _ _ ⟨rfl, rfl⟩
                  rintro _ _ ⟨rfl, rfl⟩
                  rintro _ _ ⟨rfl, rfl⟩
                  rintro _ _ ⟨rfl, rfl⟩
                  rintro _ _ ⟨rfl, rfl⟩
                  rintro _ _ ⟨rfl, rfl⟩
                  rintro _ _ ⟨rfl, rfl⟩
                  rintro _ _ ⟨rfl, rfl⟩
                  rintro _ _ ⟨rfl, rfl⟩
                  rintro _ _ ⟨rfl, rfl⟩
                  rintro _ _ ⟨rfl, rfl⟩
                  rintro _ _ ⟨rfl, rfl⟩
                  rintro _ _ ⟨rfl, rfl⟩
                  refine W_as (M' := .row v238 30 (Rep.sz S_api_Event) r146.length xs239 :: .row v244 30 (Rep.sz S_api_Event) (slc r151 0 ((r144 : Int).toNat)).length xs245 :: .obj b126 (.cells [v127].toArray 51 (0, 0)) :: .row v127 30 (Rep.sz S_api_Event) sp125.all_.length xs128 :: .obj b104 (.cells [v105].toArray 51 (0, 0)) :: .row v105 30 (Rep.sz S_api_Event) sp103.all_.length xs106 :: M) rfl ?_
                  refine W_no rfl rfl rfl ?_
                  refine W_no rfl rfl rfl ?_
                  refine W_no rfl rfl rfl ?_
                  refine W_pick rfl rfl rfl rfl ?_
                  refine W_assign rfl rfl rfl ?_
                  refine W_end ?_
                  refine E_then ?_
                  refine C_ret ?_
                  obtain rfl := Option.some.inj hm
                  refine E_drop (List.Sublist.cons _ (List.Sublist.cons _ (List.Sublist.cons _ (List.Sublist.cons _ (List.Sublist.cons _ (List.Sublist.cons _ (List.Sublist.refl _))))))) ?_
                  refine E_weak (Hp.le_trans (Hp.le_trans hle113 hle135) hle248) ?_
                  exact end1 rfl rfl ⟨rfl, rfl, rfl⟩
                · have hm := ite_t' hb228 hm
                  obtain ⟨r258, hc259, hm⟩ := bind_some hm
                  cases hb263 : (decide (r144 < (r258.length : Int)))
                  · have hm := ite_f' hb263 hm
                    obtain ⟨r276, hc277, hm⟩ := bind_some hm
                    refine C_perm (List.Perm.refl _) ?_
                    refine C_as (M' := [[.obj b126 (.cells [v127].toArray 51 (0, 0))], [.row v127 30 (Rep.sz S_api_Event) sp125.all_.length xs128], [.obj b104 (.cells [v105].toArray 51 (0, 0))], [.row v105 30 (Rep.sz S_api_Event) sp103.all_.length xs106]].flatten ++ (M)) rfl ?_
                    refine C_region_tok0 34 (phiT [(fun H rs v => [] = rs ∧ .pointer (some ⟨b126, 0, none⟩) = v), (fun H rs v => ∃ v278 : Value, ∃ xs279 : List Value, [.row v278 30 (Rep.sz S_api_Event) r146.length xs279] = rs ∧ v278 = v ∧ Rw H v278 xs279 r146), (fun H rs v => [] = rs ∧ .pointer (some ⟨b104, 0, none⟩) = v), (fun H rs v => ∃ v281 : Value, ∃ xs282 : List Value, [.row v281 30 (Rep.sz S_api_Event) r151.length xs282] = rs ∧ v281 = v ∧ Rw H v281 xs282 r151), (fun H rs v => [] = rs ∧ .int .i64 (r144) = v), (fun H rs v => ∃ v284 : Value, ∃ xs285 : List Value, [.row v284 30 (Rep.sz S_api_Event) (slc r151 0 ((r144 : Int).toNat)).length xs285] = rs ∧ v284 = v ∧ Rw H v284 xs285 (slc r151 0 ((r144 : Int).toNat))), (fun H rs v => [] = rs ∧ .bool (true) = v), (fun H rs v => [] = rs ∧ .bool (true) = v), (fun H rs v => [] = rs ∧ .pointer (some ⟨b126, 0, none⟩) = v), (fun H rs v => [] = rs ∧ .string (r192) = v), (fun H rs v => [] = rs ∧ .string (r118) = v), (fun H rs v => [] = rs ∧ .int .i64 (r123.2.1) = v), (fun H rs v => [] = rs ∧ .string (r118.extract 0 ((r123.2.1 : Int).toNat)) = v), (fun H rs v => [] = rs ∧ .bool (true) = v), (fun H rs v => [] = rs ∧ .bool (true) = v), (fun H rs v => [] = rs ∧ .bool (true) = v), (fun H rs v => [] = rs ∧ .int .i64 (r123.2.1) = v), (fun H rs v => [] = rs ∧ .string (r118) = v), (fun H rs v => [] = rs ∧ .int .i64 (r120) = v), (fun H rs v => [] = rs ∧ .string (r118.extract 0 ((r120 : Int).toNat)) = v), (fun H rs v => [] = rs ∧ .int .i64 (r226) = v), (fun H rs v => [] = rs ∧ .int .i64 (IntKind.i64.wrap (r226 + 1)) = v), (fun H rs v => [] = rs ∧ .bool (true) = v), (fun H rs v => [] = rs ∧ .bool (true) = v), (fun H rs v => [] = rs ∧ .bool (true) = v), (fun H rs v => [] = rs ∧ .int .i64 (r144) = v), (fun H rs v => [] = rs ∧ .pointer (some ⟨b104, 0, none⟩) = v), (fun H rs v => ∃ v287 : Value, ∃ xs288 : List Value, [.row v287 30 (Rep.sz S_api_Event) r258.length xs288] = rs ∧ v287 = v ∧ Rw H v287 xs288 r258), (fun H rs v => [] = rs ∧ .int .i64 ((r258.length : Int)) = v), (fun H rs v => [] = rs ∧ .bool (false) = v), (fun H rs v => [] = rs ∧ .bool (false) = v), (fun H rs v => [] = rs ∧ .pointer (some ⟨b126, 0, none⟩) = v), (fun H rs v => [] = rs ∧ .int .u64 (r276) = v), (fun H rs v => [] = rs ∧ .pointer (some ⟨b104, 0, none⟩) = v)]) [[], [], [], [], [], [3], [], [], [], [], [], [], [], [], [], [], [], [], [], [], [], [], [], [], [], [], [], [], [], [], [], [], [], []] [[], [34, 35], [], [36, 37], [], [], [1, 5], [], [], [34, 35], [], [], [], [], [], [], [], [], [], [], [], [], [], [], [], [], [], [36, 37], [27], [], [], [], [34, 35], []] [[.obj b126 (.cells [v127].toArray 51 (0, 0))], [.row v127 30 (Rep.sz S_api_Event) sp125.all_.length xs128], [.obj b104 (.cells [v105].toArray 51 (0, 0))], [.row v105 30 (Rep.sz S_api_Event) sp103.all_.length xs106]] [0, 1, 2, 4, 5, 6, 7, 8, 9, 10, 11, 12, 13, 14, 15, 16, 17, 18, 19, 20, 21, 22, 23, 24, 25, 26, 27, 28, 29, 30, 31, 32, 33, 34, 35, 36, 37] Facts.mixed (by kernel_rfl) rfl rfl rfl (by kernel_rfl) (phiT_mono ⟨eq_monoT _ _, (by rintro H1 H2 rs v hle ⟨v278, xs279, rfl, rfl, h280⟩; exact ⟨v278, xs279, rfl, rfl, (h280.mono hle)⟩), eq_monoT _ _, (by rintro H1 H2 rs v hle ⟨v281, xs282, rfl, rfl, h283⟩; exact ⟨v281, xs282, rfl, rfl, (h283.mono hle)⟩), eq_monoT _ _, (by rintro H1 H2 rs v hle ⟨v284, xs285, rfl, rfl, hr286⟩; exact ⟨v284, xs285, rfl, rfl, (hr286.mono hle)⟩), eq_monoT _ _, eq_monoT _ _, eq_monoT _ _, eq_monoT _ _, eq_monoT _ _, eq_monoT _ _, eq_monoT _ _, eq_monoT _ _, eq_monoT _ _, eq_monoT _ _, eq_monoT _ _, eq_monoT _ _, eq_monoT _ _, eq_monoT _ _, eq_monoT _ _, eq_monoT _ _, eq_monoT _ _, eq_monoT _ _, eq_monoT _ _, eq_monoT _ _, eq_monoT _ _, (by rintro H1 H2 rs v hle ⟨v287, xs288, rfl, rfl, h289⟩; exact ⟨v287, xs288, rfl, rfl, (h289.mono hle)⟩), eq_monoT _ _, eq_monoT _ _, eq_monoT _ _, eq_monoT _ _, eq_monoT _ _, eq_monoT _ _, trivial⟩) ⟨?_, ?_, ?_, ?_, ?_, ?_, ?_, ?_, ?_, ?_, ?_, ?_, ?_, ?_, ?_, ?_, ?_, ?_, ?_, ?_, ?_, ?_, ?_, ?_, ?_, ?_, ?_, ?_, ?_, ?_, ?_, ?_, ?_, ?_, trivial⟩ ?_
                    · intro HX hX X Rest hR
                      intro hU hUp
                      refine W_move rfl rfl rfl ?_
                      exact W_end (OneT_end [] (Hp.le_refl _) ⟨rfl, rfl⟩)
                    · intro HX hX X Rest hR
                      rintro _ _ ⟨rfl, rfl⟩
                      rintro hU ⟨Rr, hUp⟩
                      have hUq : (.obj b126 (.cells [v127].toArray 51 (0, 0)) :: .row v127 30 (Rep.sz S_api_Event) sp125.all_.length xs128 :: Rr).Perm Rest := hUp
                      have hR2 : ∀ s ∈ _, s ∈ .obj b126 (.cells [v127].toArray 51 (0, 0)) :: .row v127 30 (Rep.sz S_api_Event) sp125.all_.length xs128 :: Rr := fun s hs => hUq.mem_iff.2 (hR s hs)
                      refine W_perm (M' := .obj b126 (.cells [v127].toArray 51 (0, 0)) :: .row v127 30 (Rep.sz S_api_Event) sp125.all_.length xs128 :: Rr) (List.Perm.append_left [] hUq.symm) ?_
                      refine W_call Proofs.Tryd.call13 rfl rfl rfl (fun w ht => by have h := m_archive_Archive_All_c (hm := hc147) (h129.mono hX) ht; exact h) ?_
                      rintro _ _ _ ⟨rfl, v278, xs279, rfl, rfl, h280⟩
                      have h280 := h280 HX
                      refine W_perm (List.Perm.cons _ hUq) ?_
                      exact W_end (OneT_end [.row v278 30 (Rep.sz S_api_Event) r146.length xs279] (Hp.le_refl _) ⟨v278, xs279, rfl, rfl, (h280)⟩)
                    · intro HX hX X Rest hR
                      intro hU hUp
                      refine W_move rfl rfl rfl ?_
                      exact W_end (OneT_end [] (Hp.le_refl _) ⟨rfl, rfl⟩)
                    · intro HX hX X Rest hR
                      rintro _ _ ⟨rfl, rfl⟩
                      rintro _ _ ⟨v278, xs279, rfl, rfl, h280⟩
                      rintro hU ⟨Rr, hUp⟩
                      have hUq : (.obj b104 (.cells [v105].toArray 51 (0, 0)) :: .row v105 30 (Rep.sz S_api_Event) sp103.all_.length xs106 :: Rr).Perm Rest := hUp
                      have hR2 : ∀ s ∈ _, s ∈ .obj b104 (.cells [v105].toArray 51 (0, 0)) :: .row v105 30 (Rep.sz S_api_Event) sp103.all_.length xs106 :: Rr := fun s hs => hUq.mem_iff.2 (hR s hs)
                      refine W_perm (M' := .obj b104 (.cells [v105].toArray 51 (0, 0)) :: .row v105 30 (Rep.sz S_api_Event) sp103.all_.length xs106 :: Rr) (List.Perm.append_left [] hUq.symm) ?_
                      refine W_call Proofs.Tryd.call13 rfl rfl rfl (fun w ht => by have h := m_archive_Archive_All_c (hm := hc152) ((h107.mono hle135).mono hX) ht; exact h) ?_
                      rintro _ _ _ ⟨rfl, v281, xs282, rfl, rfl, h283⟩
                      have h283 := h283 HX
                      refine W_perm (List.Perm.cons _ hUq) ?_
                      exact W_end (OneT_end [.row v281 30 (Rep.sz S_api_Event) r151.length xs282] (Hp.le_refl _) ⟨v281, xs282, rfl, rfl, (h283)⟩)
                    · intro HX hX X Rest hR
                      intro hU hUp
                      refine W_move rfl rfl rfl ?_
                      exact W_end (OneT_end [] (Hp.le_refl _) ⟨rfl, rfl⟩)
                    · intro HX hX X Rest hR
                      rintro _ _ ⟨v281, xs282, rfl, rfl, h283⟩
                      rintro _ _ ⟨rfl, rfl⟩
                      intro hU hUp
                      refine W_as (M' := .row v281 30 (Rep.sz S_api_Event) r151.length xs282 :: Rest) rfl ?_
                      refine W_sliceO (α := S_api_Event) (l := 0) (h := (r144 : Int).toNat) rfl rfl Proofs.Tryd.runUnderlying22 Proofs.Tryd.sizeOf30 rfl rfl h283 (by omega) (by omega) (fun m hmm => (.inr ⟨_, _, _, rfl, rfl, by omega, by omega, rfl⟩)) (.inl ⟨rfl, rfl⟩) ?_
                      intro v284 xs285 hr286
                      exact W_end (OneT_end [.row v284 30 (Rep.sz S_api_Event) (slc r151 0 ((r144 : Int).toNat)).length xs285] (Hp.le_refl _) ⟨v284, xs285, rfl, rfl, (hr286)⟩)
                    · intro HX hX X Rest hR
                      rintro _ _ ⟨v278, xs279, rfl, rfl, h280⟩
                      rintro _ _ ⟨v284, xs285, rfl, rfl, hr286⟩
                      rintro _ _ ⟨v281, xs282, rfl, rfl, h283⟩
                      rintro hU ⟨Rr, hUp⟩
                      have hUq : (.row v278 30 (Rep.sz S_api_Event) r146.length xs279 :: .row v284 30 (Rep.sz S_api_Event) (slc r151 0 ((r144 : Int).toNat)).length xs285 :: Rr).Perm Rest := hUp
                      have hR2 : ∀ s ∈ _, s ∈ .row v278 30 (Rep.sz S_api_Event) r146.length xs279 :: .row v284 30 (Rep.sz S_api_Event) (slc r151 0 ((r144 : Int).toNat)).length xs285 :: Rr := fun s hs => hUq.mem_iff.2 (hR s hs)
                      refine W_perm (M' := .row v278 30 (Rep.sz S_api_Event) r146.length xs279 :: .row v284 30 (Rep.sz S_api_Event) (slc r151 0 ((r144 : Int).toNat)).length xs285 :: Rr) (List.Perm.append_left [] hUq.symm) ?_
                      refine W_call Proofs.Tryd.call11 rfl rfl rfl (fun w ht => by obtain ⟨H0_, hl0_, ht0_, hr0_, bk0_⟩ := ht.lendRow h280 rfl; obtain ⟨H1_, hl1_, ht1_, hr1_, bk1_⟩ := ht0_.lendRow (hr286.mono hl0_) rfl; have h := m_slices_Equal_api_Event_api_Event_c (hm := hc161) (hr0_.mono hl1_) hr1_ ht1_; exact lend_back bk0_ (lend_back bk1_ (h))) ?_
                      rintro _ _ _ ⟨rfl, ⟨_, rfl, ⟨_, rfl, rfl, rfl⟩⟩⟩
                      refine W_perm hUq ?_
                      exact W_end (OneT_end [] (Hp.le_refl _) ⟨rfl, (by first | rfl | (rw [hb162]; try rfl))⟩)
                    · intro HX hX X Rest hR
                      rintro _ _ ⟨rfl, rfl⟩
                      rintro _ _ ⟨rfl, rfl⟩
                      intro hU hUp
                      refine W_move rfl rfl rfl ?_
                      exact W_end (OneT_end [] (Hp.le_refl _) ⟨rfl, rfl⟩)
                    · intro HX hX X Rest hR
                      rintro _ _ ⟨rfl, rfl⟩
                      intro hU hUp
                      refine W_move rfl rfl rfl ?_
                      exact W_end (OneT_end [] (Hp.le_refl _) ⟨rfl, rfl⟩)
                    · intro HX hX X Rest hR
                      rintro _ _ ⟨rfl, rfl⟩
                      rintro _ _ ⟨rfl, rfl⟩
                      rintro _ _ ⟨rfl, rfl⟩
                      rintro hU ⟨Rr, hUp⟩
                      have hUq : (.obj b126 (.cells [v127].toArray 51 (0, 0)) :: .row v127 30 (Rep.sz S_api_Event) sp125.all_.length xs128 :: Rr).Perm Rest := hUp
                      have hR2 : ∀ s ∈ _, s ∈ .obj b126 (.cells [v127].toArray 51 (0, 0)) :: .row v127 30 (Rep.sz S_api_Event) sp125.all_.length xs128 :: Rr := fun s hs => hUq.mem_iff.2 (hR s hs)
                      refine W_perm (M' := .obj b126 (.cells [v127].toArray 51 (0, 0)) :: .row v127 30 (Rep.sz S_api_Event) sp125.all_.length xs128 :: Rr) (List.Perm.append_left [] hUq.symm) ?_
                      refine W_call Proofs.Tryd.call17 rfl rfl rfl (fun w ht => by have h := m_archive_Archive_Text_c (hm := hc193) (h129.mono hX) ht; exact h) ?_
                      rintro _ _ _ ⟨rfl, rfl, rfl⟩
                      refine W_perm hUq ?_
                      exact W_end (OneT_end [] (Hp.le_refl _) ⟨rfl, rfl⟩)
                    · intro HX hX X Rest hR
                      rintro _ _ ⟨rfl, rfl⟩
                      intro hU hUp
                      refine W_move rfl rfl rfl ?_
                      exact W_end (OneT_end [] (Hp.le_refl _) ⟨rfl, rfl⟩)
                    · intro HX hX X Rest hR
                      rintro _ _ ⟨rfl, rfl⟩
                      intro hU hUp
                      refine W_move rfl rfl rfl ?_
                      exact W_end (OneT_end [] (Hp.le_refl _) ⟨rfl, rfl⟩)
                    · intro HX hX X Rest hR
                      rintro _ _ ⟨rfl, rfl⟩
                      rintro _ _ ⟨rfl, rfl⟩
                      rintro _ _ ⟨rfl, rfl⟩
                      intro hU hUp
                      refine W_sliceStr (l := 0) (h := (r123.2.1 : Int).toNat) rfl rfl Proofs.Tryd.runUnderlying9 rfl (.inr ⟨_, _, _, rfl, rfl, by omega, by omega, rfl⟩) (.inl ⟨rfl, rfl⟩) ?_
                      exact W_end (OneT_end [] (Hp.le_refl _) ⟨rfl, rfl⟩)
                    · intro HX hX X Rest hR
                      rintro _ _ ⟨rfl, rfl⟩
                      rintro _ _ ⟨rfl, rfl⟩
                      rintro _ _ ⟨rfl, rfl⟩
                      intro hU hUp
                      refine W_bin rfl rfl rfl rfl rfl ?_
                      exact W_end (OneT_end [] (Hp.le_refl _) ⟨rfl, (by first | rfl | (rw [hb195]; try rfl))⟩)
                    · intro HX hX X Rest hR
                      rintro _ _ ⟨rfl, rfl⟩
                      rintro _ _ ⟨rfl, rfl⟩
                      intro hU hUp
                      refine W_pick rfl rfl rfl rfl ?_
                      exact W_end (OneT_end [] (Hp.le_refl _) ⟨rfl, rfl⟩)
                    · intro HX hX X Rest hR
                      rintro _ _ ⟨rfl, rfl⟩
                      rintro _ _ ⟨rfl, rfl⟩
                      intro hU hUp
                      refine W_move rfl rfl rfl ?_
                      exact W_end (OneT_end [] (Hp.le_refl _) ⟨rfl, rfl⟩)
                    · intro HX hX X Rest hR
                      rintro _ _ ⟨rfl, rfl⟩
                      intro hU hUp
                      refine W_move rfl rfl rfl ?_
                      exact W_end (OneT_end [] (Hp.le_refl _) ⟨rfl, rfl⟩)
                    · intro HX hX X Rest hR
                      rintro _ _ ⟨rfl, rfl⟩
                      intro hU hUp
                      refine W_move rfl rfl rfl ?_
                      exact W_end (OneT_end [] (Hp.le_refl _) ⟨rfl, rfl⟩)
                    · intro HX hX X Rest hR
                      rintro _ _ ⟨rfl, rfl⟩
                      intro hU hUp
                      refine W_move rfl rfl rfl ?_
                      exact W_end (OneT_end [] (Hp.le_refl _) ⟨rfl, rfl⟩)
                    · intro HX hX X Rest hR
                      rintro _ _ ⟨rfl, rfl⟩
                      rintro _ _ ⟨rfl, rfl⟩
                      rintro _ _ ⟨rfl, rfl⟩
                      intro hU hUp
                      refine W_sliceStr (l := 0) (h := (r120 : Int).toNat) rfl rfl Proofs.Tryd.runUnderlying9 rfl (.inr ⟨_, _, _, rfl, rfl, by omega, by omega, rfl⟩) (.inl ⟨rfl, rfl⟩) ?_
                      exact W_end (OneT_end [] (Hp.le_refl _) ⟨rfl, rfl⟩)
                    · intro HX hX X Rest hR
                      rintro _ _ ⟨rfl, rfl⟩
                      rintro _ _ ⟨rfl, rfl⟩
                      rintro _ _ ⟨rfl, rfl⟩
                      intro hU hUp
                      refine W_call Proofs.Tryd.call21 rfl rfl rfl (fun w ht => by have h := m_strings_LastIndex_c (hm := hc227)  ht; exact h) ?_
                      rintro _ _ _ ⟨rfl, rfl, rfl⟩
                      exact W_end (OneT_end [] (Hp.le_refl _) ⟨rfl, rfl⟩)
                    · intro HX hX X Rest hR
                      rintro _ _ ⟨rfl, rfl⟩
                      rintro _ _ ⟨rfl, rfl⟩
                      intro hU hUp
                      refine W_bin rfl rfl rfl rfl rfl ?_
                      exact W_end (OneT_end [] (Hp.le_refl _) ⟨rfl, rfl⟩)
                    · intro HX hX X Rest hR
                      rintro _ _ ⟨rfl, rfl⟩
                      rintro _ _ ⟨rfl, rfl⟩
                      rintro _ _ ⟨rfl, rfl⟩
                      intro hU hUp
                      refine W_bin rfl rfl rfl rfl rfl ?_
                      exact W_end (OneT_end [] (Hp.le_refl _) ⟨rfl, (by first | rfl | (rw [hb228]; try rfl))⟩)
                    · intro HX hX X Rest hR
                      rintro _ _ ⟨rfl, rfl⟩
                      rintro _ _ ⟨rfl, rfl⟩
                      intro hU hUp
                      refine W_pick rfl rfl rfl rfl ?_
                      exact W_end (OneT_end [] (Hp.le_refl _) ⟨rfl, rfl⟩)
                    · intro HX hX X Rest hR
                      rintro _ _ ⟨rfl, rfl⟩
                      rintro _ _ ⟨rfl, rfl⟩
                      intro hU hUp
                      refine W_move rfl rfl rfl ?_
                      exact W_end (OneT_end [] (Hp.le_refl _) ⟨rfl, rfl⟩)
                    · intro HX hX X Rest hR
                      rintro _ _ ⟨rfl, rfl⟩
                      intro hU hUp
                      refine W_move rfl rfl rfl ?_
                      exact W_end (OneT_end [] (Hp.le_refl _) ⟨rfl, rfl⟩)
                    · intro HX hX X Rest hR
                      rintro _ _ ⟨rfl, rfl⟩
                      intro hU hUp
                      refine W_move rfl rfl rfl ?_
                      exact W_end (OneT_end [] (Hp.le_refl _) ⟨rfl, rfl⟩)
                    · intro HX hX X Rest hR
                      rintro _ _ ⟨rfl, rfl⟩
                      rintro _ _ ⟨rfl, rfl⟩
                      rintro _ _ ⟨rfl, rfl⟩
                      rintro hU ⟨Rr, hUp⟩
                      have hUq : (.obj b104 (.cells [v105].toArray 51 (0, 0)) :: .row v105 30 (Rep.sz S_api_Event) sp103.all_.length xs106 :: Rr).Perm Rest := hUp
                      have hR2 : ∀ s ∈ _, s ∈ .obj b104 (.cells [v105].toArray 51 (0, 0)) :: .row v105 30 (Rep.sz S_api_Event) sp103.all_.length xs106 :: Rr := fun s hs => hUq.mem_iff.2 (hR s hs)
                      refine W_perm (M' := .obj b104 (.cells [v105].toArray 51 (0, 0)) :: .row v105 30 (Rep.sz S_api_Event) sp103.all_.length xs106 :: Rr) (List.Perm.append_left [] hUq.symm) ?_
                      refine W_call Proofs.Tryd.call13 rfl rfl rfl (fun w ht => by have h := m_archive_Archive_All_c (hm := hc259) ((h107.mono hle135).mono hX) ht; exact h) ?_
                      rintro _ _ _ ⟨rfl, v287, xs288, rfl, rfl, h289⟩
                      have h289 := h289 HX
                      refine W_perm (List.Perm.cons _ hUq) ?_
                      exact W_end (OneT_end [.row v287 30 (Rep.sz S_api_Event) r258.length xs288] (Hp.le_refl _) ⟨v287, xs288, rfl, rfl, (h289)⟩)
                    · intro HX hX X Rest hR
                      rintro _ _ ⟨v287, xs288, rfl, rfl, h289⟩
                      rintro _ _ ⟨rfl, rfl⟩
                      intro hU hUp
                      have hU2 : ∀ s ∈ [.row v287 30 (Rep.sz S_api_Event) r258.length xs288], s ∈ Rest := hU
                      refine W_lenO (hU2 _ (List.mem_cons_self ..)) rfl rfl Proofs.Tryd.runUnderlying22 rfl ?_
                      exact W_end (OneT_end [] (Hp.le_refl _) ⟨rfl, rfl⟩)
                    · intro HX hX X Rest hR
                      rintro _ _ ⟨rfl, rfl⟩
                      rintro _ _ ⟨rfl, rfl⟩
                      rintro _ _ ⟨rfl, rfl⟩
                      intro hU hUp
                      refine W_bin rfl rfl rfl rfl rfl ?_
                      exact W_end (OneT_end [] (Hp.le_refl _) ⟨rfl, (by first | rfl | (rw [hb263]; try rfl))⟩)
                    · intro HX hX X Rest hR
                      rintro _ _ ⟨rfl, rfl⟩
                      rintro _ _ ⟨v287, xs288, rfl, rfl, h289⟩
                      rintro _ _ ⟨rfl, rfl⟩
                      intro hU hUp
                      refine W_move rfl rfl rfl ?_
                      exact W_end (OneT_end [] (Hp.le_refl _) ⟨rfl, rfl⟩)
                    · intro HX hX X Rest hR
                      rintro _ _ ⟨rfl, rfl⟩
                      intro hU hUp
                      refine W_move rfl rfl rfl ?_
                      exact W_end (OneT_end [] (Hp.le_refl _) ⟨rfl, rfl⟩)
                    · intro HX hX X Rest hR
                      rintro _ _ ⟨rfl, rfl⟩
                      rintro _ _ ⟨rfl, rfl⟩
                      rintro _ _ ⟨rfl, rfl⟩
                      rintro hU ⟨Rr, hUp⟩
                      have hUq : (.obj b126 (.cells [v127].toArray 51 (0, 0)) :: .row v127 30 (Rep.sz S_api_Event) sp125.all_.length xs128 :: Rr).Perm Rest := hUp
                      have hR2 : ∀ s ∈ _, s ∈ .obj b126 (.cells [v127].toArray 51 (0, 0)) :: .row v127 30 (Rep.sz S_api_Event) sp125.all_.length xs128 :: Rr := fun s hs => hUq.mem_iff.2 (hR s hs)
                      refine W_perm (M' := .obj b126 (.cells [v127].toArray 51 (0, 0)) :: .row v127 30 (Rep.sz S_api_Event) sp125.all_.length xs128 :: Rr) (List.Perm.append_left [] hUq.symm) ?_
                      refine W_call Proofs.Tryd.call19 rfl rfl rfl (fun w ht => by have h := m_archive_Archive_Digest_c (hm := hc277) (h129.mono hX) ht; exact h) ?_
                      rintro _ _ _ ⟨rfl, rfl, rfl⟩
                      refine W_perm hUq ?_
                      exact W_end (OneT_end [] (Hp.le_refl _) ⟨rfl, rfl⟩)
                    · intro HX hX X Rest hR
                      rintro _ _ ⟨rfl, rfl⟩
                      intro hU hUp
                      refine W_move rfl rfl rfl ?_
                      exact W_end (OneT_end [] (Hp.le_refl _) ⟨rfl, rfl⟩)
                    intro H290 hle291
                    rintro _ _ ⟨rfl, rfl⟩
                    rintro _ _ ⟨v278, xs279, rfl, rfl, h280⟩
                    rintro _ _ ⟨rfl, rfl⟩
                    rintro _ _ ⟨v281, xs282, rfl, rfl, h283⟩
                    rintro _ _ ⟨rfl, rfl⟩
                    rintro _ _ ⟨v284, xs285, rfl, rfl, hr286⟩
                    rintro _ _ ⟨rfl, rfl⟩
                    rintro _ _ ⟨rfl, rfl⟩
                    rintro _ _ ⟨rfl, rfl⟩
                    rintro _ _ ⟨rfl, rfl⟩
                    rintro _ _ ⟨rfl, rfl⟩
                    rintro _ _ ⟨rfl, rfl⟩
                    rintro _ _ ⟨rfl, rfl⟩
                    rintro _ _ ⟨rfl, rfl⟩
                    rintro _ _ ⟨rfl, rfl⟩
                    rintro _ _ ⟨rfl, rfl⟩
                    rintro _ _ ⟨rfl, rfl⟩
                    rintro _ _ ⟨rfl, rfl⟩
                    rintro _ _ ⟨rfl, rfl⟩
                    rintro _ _ ⟨rfl, rfl⟩
                    rintro _ _ ⟨rfl, rfl⟩
                    rintro _ _ ⟨rfl, rfl⟩
                    rintro _ _ ⟨rfl, rfl⟩
                    rintro _ _ ⟨rfl, rfl⟩
                    rintro _ _ ⟨rfl, rfl⟩
                    rintro _ _ ⟨rfl, rfl⟩
                    rintro _ _ ⟨rfl, rfl⟩
                    rintro _ _ ⟨v287, xs288, rfl, rfl, h289⟩
                    rintro _ _ ⟨rfl, rfl⟩
                    rintro _ _ ⟨rfl, rfl⟩
                    rintro _ _ ⟨rfl, rfl⟩
                    rintro _ _ ⟨rfl, rfl⟩
                    rintro _ _ ⟨rfl, rfl⟩
                    rintro _ _ ⟨rfl, rfl⟩
                    refine W_as (M' := .row v278 30 (Rep.sz S_api_Event) r146.length xs279 :: .row v284 30 (Rep.sz S_api_Event) (slc r151 0 ((r144 : Int).toNat)).length xs285 :: .row v287 30 (Rep.sz S_api_Event) r258.length xs288 :: .obj b126 (.cells [v127].toArray 51 (0, 0)) :: .row v127 30 (Rep.sz S_api_Event) sp125.all_.length xs128 :: .obj b104 (.cells [v105].toArray 51 (0, 0)) :: .row v105 30 (Rep.sz S_api_Event) sp103.all_.length xs106 :: M) rfl ?_
                    refine W_perm (List.Perm.trans (List.Perm.cons _ (List.Perm.cons _ (List.Perm.cons _ (List.Perm.cons _ (List.Perm.swap _ _ _))))) (List.Perm.trans (List.Perm.cons _ (List.Perm.cons _ (List.Perm.cons _ (List.Perm.swap _ _ _)))) (List.Perm.trans (List.Perm.cons _ (List.Perm.cons _ (List.Perm.swap _ _ _))) (List.Perm.trans (List.Perm.cons _ (List.Perm.swap _ _ _)) (List.Perm.trans (List.Perm.swap _ _ _) (List.Perm.trans (List.Perm.cons _ (List.Perm.cons _ (List.Perm.cons _ (List.Perm.cons _ (List.Perm.cons _ (List.Perm.swap _ _ _)))))) (List.Perm.trans (List.Perm.cons _ (List.Perm.cons _ (List.Perm.cons _ (List.Perm.cons _ (List.Perm.swap _ _ _))))) (List.Perm.trans (List.Perm.cons _ (List.Perm.cons _ (List.Perm.cons _ (List.Perm.swap _ _ _)))) (List.Perm.trans (List.Perm.cons _ (List.Perm.cons _ (List.Perm.swap _ _ _))) (List.Perm.cons _ (List.Perm.swap _ _ _))))))))))) ?_
                    obtain ⟨r292, hc293, hm⟩ := bind_some hm
                    refine W_call Proofs.Tryd.call19 rfl rfl rfl (fun w ht => by have h := m_archive_Archive_Digest_c (hm := hc293) ((h107.mono hle135).mono hle291) ht; exact h) ?_
                    rintro _ _ _ ⟨rfl, rfl, rfl⟩
                    refine W_bin rfl rfl rfl rfl rfl ?_
                    refine W_pick rfl rfl rfl rfl ?_
                    refine W_pick rfl rfl rfl rfl ?_
                    refine W_assign rfl rfl rfl ?_
                    refine W_end ?_
                    refine E_then ?_
                    refine C_ret ?_
                    obtain rfl := Option.some.inj hm
                    refine E_drop (List.Sublist.cons _ (List.Sublist.cons _ (List.Sublist.cons _ (List.Sublist.cons _ (List.Sublist.cons _ (List.Sublist.cons _ (List.Sublist.cons _ (List.Sublist.refl _)))))))) ?_
                    refine E_weak (Hp.le_trans (Hp.le_trans hle113 hle135) hle291) ?_
                    exact end1 rfl rfl ⟨rfl, rfl, rfl⟩
                  · have hm := ite_t' hb263 hm
                    refine C_perm (List.Perm.refl _) ?_
                    refine C_as (M' := [[.obj b126 (.cells [v127].toArray 51 (0, 0))], [.row v127 30 (Rep.sz S_api_Event) sp125.all_.length xs128], [.obj b104 (.cells [v105].toArray 51 (0, 0))], [.row v105 30 (Rep.sz S_api_Event) sp103.all_.length xs106]].flatten ++ (M)) rfl ?_
                    refine C_region_tok0 34 (phiT [(fun H rs v => [] = rs ∧ .pointer (some ⟨b126, 0, none⟩) = v), (fun H rs v => ∃ v306 : Value, ∃ xs307 : List Value, [.row v306 30 (Rep.sz S_api_Event) r146.length xs307] = rs ∧ v306 = v ∧ Rw H v306 xs307 r146), (fun H rs v => [] = rs ∧ .pointer (some ⟨b104, 0, none⟩) = v), (fun H rs v => ∃ v309 : Value, ∃ xs310 : List Value, [.row v309 30 (Rep.sz S_api_Event) r151.length xs310] = rs ∧ v309 = v ∧ Rw H v309 xs310 r151), (fun H rs v => [] = rs ∧ .int .i64 (r144) = v), (fun H rs v => ∃ v312 : Value, ∃ xs313 : List Value, [.row v312 30 (Rep.sz S_api_Event) (slc r151 0 ((r144 : Int).toNat)).length xs313] = rs ∧ v312 = v ∧ Rw H v312 xs313 (slc r151 0 ((r144 : Int).toNat))), (fun H rs v => [] = rs ∧ .bool (true) = v), (fun H rs v => [] = rs ∧ .bool (true) = v), (fun H rs v => [] = rs ∧ .pointer (some ⟨b126, 0, none⟩) = v), (fun H rs v => [] = rs ∧ .string (r192) = v), (fun H rs v => [] = rs ∧ .string (r118) = v), (fun H rs v => [] = rs ∧ .int .i64 (r123.2.1) = v), (fun H rs v => [] = rs ∧ .string (r118.extract 0 ((r123.2.1 : Int).toNat)) = v), (fun H rs v => [] = rs ∧ .bool (true) = v), (fun H rs v => [] = rs ∧ .bool (true) = v), (fun H rs v => [] = rs ∧ .bool (true) = v), (fun H rs v => [] = rs ∧ .int .i64 (r123.2.1) = v), (fun H rs v => [] = rs ∧ .string (r118) = v), (fun H rs v => [] = rs ∧ .int .i64 (r120) = v), (fun H rs v => [] = rs ∧ .string (r118.extract 0 ((r120 : Int).toNat)) = v), (fun H rs v => [] = rs ∧ .int .i64 (r226) = v), (fun H rs v => [] = rs ∧ .int .i64 (IntKind.i64.wrap (r226 + 1)) = v), (fun H rs v => [] = rs ∧ .bool (true) = v), (fun H rs v => [] = rs ∧ .bool (true) = v), (fun H rs v => [] = rs ∧ .bool (true) = v), (fun H rs v => [] = rs ∧ .int .i64 (r144) = v), (fun H rs v => [] = rs ∧ .pointer (some ⟨b104, 0, none⟩) = v), (fun H rs v => ∃ v315 : Value, ∃ xs316 : List Value, [.row v315 30 (Rep.sz S_api_Event) r258.length xs316] = rs ∧ v315 = v ∧ Rw H v315 xs316 r258), (fun H rs v => [] = rs ∧ .int .i64 ((r258.length : Int)) = v), (fun H rs v => [] = rs ∧ .bool (true) = v), (fun H rs v => [] = rs ∧ .bool (true) = v), (fun H rs v => [] = rs ∧ undef = v), (fun H rs v => [] = rs ∧ undef = v), (fun H rs v => [] = rs ∧ undef = v)]) [[], [], [], [], [], [3], [], [], [], [], [], [], [], [], [], [], [], [], [], [], [], [], [], [], [], [], [], [], [], [], [], [], [], []] [[], [34, 35], [], [36, 37], [], [], [1, 5], [], [], [34, 35], [], [], [], [], [], [], [], [], [], [], [], [], [], [], [], [], [], [36, 37], [27], [], [], [], [], []] [[.obj b126 (.cells [v127].toArray 51 (0, 0))], [.row v127 30 (Rep.sz S_api_Event) sp125.all_.length xs128], [.obj b104 (.cells [v105].toArray 51 (0, 0))], [.row v105 30 (Rep.sz S_api_Event) sp103.all_.length xs106]] [0, 1, 2, 4, 5, 6, 7, 8, 9, 10, 11, 12, 13, 14, 15, 16, 17, 18, 19, 20, 21, 22, 23, 24, 25, 26, 27, 28, 29, 30, 31, 32, 33, 34, 35, 36, 37] Facts.mixed (by kernel_rfl) rfl rfl rfl (by kernel_rfl) (phiT_mono ⟨eq_monoT _ _, (by rintro H1 H2 rs v hle ⟨v306, xs307, rfl, rfl, h308⟩; exact ⟨v306, xs307, rfl, rfl, (h308.mono hle)⟩), eq_monoT _ _, (by rintro H1 H2 rs v hle ⟨v309, xs310, rfl, rfl, h311⟩; exact ⟨v309, xs310, rfl, rfl, (h311.mono hle)⟩), eq_monoT _ _, (by rintro H1 H2 rs v hle ⟨v312, xs313, rfl, rfl, hr314⟩; exact ⟨v312, xs313, rfl, rfl, (hr314.mono hle)⟩), eq_monoT _ _, eq_monoT _ _, eq_monoT _ _, eq_monoT _ _, eq_monoT _ _, eq_monoT _ _, eq_monoT _ _, eq_monoT _ _, eq_monoT _ _, eq_monoT _ _, eq_monoT _ _, eq_monoT _ _, eq_monoT _ _, eq_monoT _ _, eq_monoT _ _, eq_monoT _ _, eq_monoT _ _, eq_monoT _ _, eq_monoT _ _, eq_monoT _ _, eq_monoT _ _, (by rintro H1 H2 rs v hle ⟨v315, xs316, rfl, rfl, h317⟩; exact ⟨v315, xs316, rfl, rfl, (h317.mono hle)⟩), eq_monoT _ _, eq_monoT _ _, eq_monoT _ _, eq_monoT _ _, eq_monoT _ _, eq_monoT _ _, trivial⟩) ⟨?_, ?_, ?_, ?_, ?_, ?_, ?_, ?_, ?_, ?_, ?_, ?_, ?_, ?_, ?_, ?_, ?_, ?_, ?_, ?_, ?_, ?_, ?_, ?_, ?_, ?_, ?_, ?_, ?_, ?_, ?_, ?_, ?_, ?_, trivial⟩ ?_
                    · intro HX hX X Rest hR
                      intro hU hUp
                      refine W_move rfl rfl rfl ?_
                      exact W_end (OneT_end [] (Hp.le_refl _) ⟨rfl, rfl⟩)
                    · intro HX hX X Rest hR
                      rintro _ _ ⟨rfl, rfl⟩
                      rintro hU ⟨Rr, hUp⟩
                      have hUq : (.obj b126 (.cells [v127].toArray 51 (0, 0)) :: .row v127 30 (Rep.sz S_api_Event) sp125.all_.length xs128 :: Rr).Perm Rest := hUp
                      have hR2 : ∀ s ∈ _, s ∈ .obj b126 (.cells [v127].toArray 51 (0, 0)) :: .row v127 30 (Rep.sz S_api_Event) sp125.all_.length xs128 :: Rr := fun s hs => hUq.mem_iff.2 (hR s hs)
                      refine W_perm (M' := .obj b126 (.cells [v127].toArray 51 (0, 0)) :: .row v127 30 (Rep.sz S_api_Event) sp125.all_.length xs128 :: Rr) (List.Perm.append_left [] hUq.symm) ?_
                      refine W_call Proofs.Tryd.call13 rfl rfl rfl (fun w ht => by have h := m_archive_Archive_All_c (hm := hc147) (h129.mono hX) ht; exact h) ?_
                      rintro _ _ _ ⟨rfl, v306, xs307, rfl, rfl, h308⟩
                      have h308 := h308 HX
                      refine W_perm (List.Perm.cons _ hUq) ?_
                      exact W_end (OneT_end [.row v306 30 (Rep.sz S_api_Event) r146.length xs307] (Hp.le_refl _) ⟨v306, xs307, rfl, rfl, (h308)⟩)
                    · intro HX hX X Rest hR
                      intro hU hUp
                      refine W_move rfl rfl rfl ?_
                      exact W_end (OneT_end [] (Hp.le_refl _) ⟨rfl, rfl⟩)
                    · intro HX hX X Rest hR
                      rintro _ _ ⟨rfl, rfl⟩
                      rintro _ _ ⟨v306, xs307, rfl, rfl, h308⟩
                      rintro hU ⟨Rr, hUp⟩
                      have hUq : (.obj b104 (.cells [v105].toArray 51 (0, 0)) :: .row v105 30 (Rep.sz S_api_Event) sp103.all_.length xs106 :: Rr).Perm Rest := hUp
                      have hR2 : ∀ s ∈ _, s ∈ .obj b104 (.cells [v105].toArray 51 (0, 0)) :: .row v105 30 (Rep.sz S_api_Event) sp103.all_.length xs106 :: Rr := fun s hs => hUq.mem_iff.2 (hR s hs)
                      refine W_perm (M' := .obj b104 (.cells [v105].toArray 51 (0, 0)) :: .row v105 30 (Rep.sz S_api_Event) sp103.all_.length xs106 :: Rr) (List.Perm.append_left [] hUq.symm) ?_
                      refine W_call Proofs.Tryd.call13 rfl rfl rfl (fun w ht => by have h := m_archive_Archive_All_c (hm := hc152) ((h107.mono hle135).mono hX) ht; exact h) ?_
                      rintro _ _ _ ⟨rfl, v309, xs310, rfl, rfl, h311⟩
                      have h311 := h311 HX
                      refine W_perm (List.Perm.cons _ hUq) ?_
                      exact W_end (OneT_end [.row v309 30 (Rep.sz S_api_Event) r151.length xs310] (Hp.le_refl _) ⟨v309, xs310, rfl, rfl, (h311)⟩)
                    · intro HX hX X Rest hR
                      intro hU hUp
                      refine W_move rfl rfl rfl ?_
                      exact W_end (OneT_end [] (Hp.le_refl _) ⟨rfl, rfl⟩)
                    · intro HX hX X Rest hR
                      rintro _ _ ⟨v309, xs310, rfl, rfl, h311⟩
                      rintro _ _ ⟨rfl, rfl⟩
                      intro hU hUp
                      refine W_as (M' := .row v309 30 (Rep.sz S_api_Event) r151.length xs310 :: Rest) rfl ?_
                      refine W_sliceO (α := S_api_Event) (l := 0) (h := (r144 : Int).toNat) rfl rfl Proofs.Tryd.runUnderlying22 Proofs.Tryd.sizeOf30 rfl rfl h311 (by omega) (by omega) (fun m hmm => (.inr ⟨_, _, _, rfl, rfl, by omega, by omega, rfl⟩)) (.inl ⟨rfl, rfl⟩) ?_
                      intro v312 xs313 hr314
                      exact W_end (OneT_end [.row v312 30 (Rep.sz S_api_Event) (slc r151 0 ((r144 : Int).toNat)).length xs313] (Hp.le_refl _) ⟨v312, xs313, rfl, rfl, (hr314)⟩)
                    · intro HX hX X Rest hR
                      rintro _ _ ⟨v306, xs307, rfl, rfl, h308⟩
                      rintro _ _ ⟨v312, xs313, rfl, rfl, hr314⟩
                      rintro _ _ ⟨v309, xs310, rfl, rfl, h311⟩
                      rintro hU ⟨Rr, hUp⟩
                      have hUq : (.row v306 30 (Rep.sz S_api_Event) r146.length xs307 :: .row v312 30 (Rep.sz S_api_Event) (slc r151 0 ((r144 : Int).toNat)).length xs313 :: Rr).Perm Rest := hUp
                      have hR2 : ∀ s ∈ _, s ∈ .row v306 30 (Rep.sz S_api_Event) r146.length xs307 :: .row v312 30 (Rep.sz S_api_Event) (slc r151 0 ((r144 : Int).toNat)).length xs313 :: Rr := fun s hs => hUq.mem_iff.2 (hR s hs)
                      refine W_perm (M' := .row v306 30 (Rep.sz S_api_Event) r146.length xs307 :: .row v312 30 (Rep.sz S_api_Event) (slc r151 0 ((r144 : Int).toNat)).length xs313 :: Rr) (List.Perm.append_left [] hUq.symm) ?_
                      refine W_call Proofs.Tryd.call11 rfl rfl rfl (fun w ht => by obtain ⟨H0_, hl0_, ht0_, hr0_, bk0_⟩ := ht.lendRow h308 rfl; obtain ⟨H1_, hl1_, ht1_, hr1_, bk1_⟩ := ht0_.lendRow (hr314.mono hl0_) rfl; have h := m_slices_Equal_api_Event_api_Event_c (hm := hc161) (hr0_.mono hl1_) hr1_ ht1_; exact lend_back bk0_ (lend_back bk1_ (h))) ?_
                      rintro _ _ _ ⟨rfl, ⟨_, rfl, ⟨_, rfl, rfl, rfl⟩⟩⟩
                      refine W_perm hUq ?_
                      exact W_end (OneT_end [] (Hp.le_refl _) ⟨rfl, (by first | rfl | (rw [hb162]; try rfl))⟩)
                    · intro HX hX X Rest hR
                      rintro _ _ ⟨rfl, rfl⟩
                      rintro _ _ ⟨rfl, rfl⟩
                      intro hU hUp
                      refine W_move rfl rfl rfl ?_
                      exact W_end (OneT_end [] (Hp.le_refl _) ⟨rfl, rfl⟩)
                    · intro HX hX X Rest hR
                      rintro _ _ ⟨rfl, rfl⟩
                      intro hU hUp
                      refine W_move rfl rfl rfl ?_
                      exact W_end (OneT_end [] (Hp.le_refl _) ⟨rfl, rfl⟩)
                    · intro HX hX X Rest hR
                      rintro _ _ ⟨rfl, rfl⟩
                      rintro _ _ ⟨rfl, rfl⟩
                      rintro _ _ ⟨rfl, rfl⟩
                      rintro hU ⟨Rr, hUp⟩
                      have hUq : (.obj b126 (.cells [v127].toArray 51 (0, 0)) :: .row v127 30 (Rep.sz S_api_Event) sp125.all_.length xs128 :: Rr).Perm Rest := hUp
                      have hR2 : ∀ s ∈ _, s ∈ .obj b126 (.cells [v127].toArray 51 (0, 0)) :: .row v127 30 (Rep.sz S_api_Event) sp125.all_.length xs128 :: Rr := fun s hs => hUq.mem_iff.2 (hR s hs)
                      refine W_perm (M' := .obj b126 (.cells [v127].toArray 51 (0, 0)) :: .row v127 30 (Rep.sz S_api_Event) sp125.all_.length xs128 :: Rr) (List.Perm.append_left [] hUq.symm) ?_
                      refine W_call Proofs.Tryd.call17 rfl rfl rfl (fun w ht => by have h := m_archive_Archive_Text_c (hm := hc193) (h129.mono hX) ht; exact h) ?_
                      rintro _ _ _ ⟨rfl, rfl, rfl⟩
                      refine W_perm hUq ?_
                      exact W_end (OneT_end [] (Hp.le_refl _) ⟨rfl, rfl⟩)
                    · intro HX hX X Rest hR
                      rintro _ _ ⟨rfl, rfl⟩
                      intro hU hUp
                      refine W_move rfl rfl rfl ?_
                      exact W_end (OneT_end [] (Hp.le_refl _) ⟨rfl, rfl⟩)
                    · intro HX hX X Rest hR
                      rintro _ _ ⟨rfl, rfl⟩
                      intro hU hUp
                      refine W_move rfl rfl rfl ?_
                      exact W_end (OneT_end [] (Hp.le_refl _) ⟨rfl, rfl⟩)
                    · intro HX hX X Rest hR
                      rintro _ _ ⟨rfl, rfl⟩
                      rintro _ _ ⟨rfl, rfl⟩
                      rintro _ _ ⟨rfl, rfl⟩
                      intro hU hUp
                      refine W_sliceStr (l := 0) (h := (r123.2.1 : Int).toNat) rfl rfl Proofs.Tryd.runUnderlying9 rfl (.inr ⟨_, _, _, rfl, rfl, by omega, by omega, rfl⟩) (.inl ⟨rfl, rfl⟩) ?_
                      exact W_end (OneT_end [] (Hp.le_refl _) ⟨rfl, rfl⟩)
                    · intro HX hX X Rest hR
                      rintro _ _ ⟨rfl, rfl⟩
                      rintro _ _ ⟨rfl, rfl⟩
                      rintro _ _ ⟨rfl, rfl⟩
                      intro hU hUp
                      refine W_bin rfl rfl rfl rfl rfl ?_
                      exact W_end (OneT_end [] (Hp.le_refl _) ⟨rfl, (by first | rfl | (rw [hb195]; try rfl))⟩)
                    · intro HX hX X Rest hR
                      rintro _ _ ⟨rfl, rfl⟩
                      rintro _ _ ⟨rfl, rfl⟩
                      intro hU hUp
                      refine W_pick rfl rfl rfl rfl ?_
                      exact W_end (OneT_end [] (Hp.le_refl _) ⟨rfl, rfl⟩)
                    · intro HX hX X Rest hR
                      rintro _ _ ⟨rfl, rfl⟩
                      rintro _ _ ⟨rfl, rfl⟩
                      intro hU hUp
                      refine W_move rfl rfl rfl ?_
                      exact W_end (OneT_end [] (Hp.le_refl _) ⟨rfl, rfl⟩)
                    · intro HX hX X Rest hR
                      rintro _ _ ⟨rfl, rfl⟩
                      intro hU hUp
                      refine W_move rfl rfl rfl ?_
                      exact W_end (OneT_end [] (Hp.le_refl _) ⟨rfl, rfl⟩)
                    · intro HX hX X Rest hR
                      rintro _ _ ⟨rfl, rfl⟩
                      intro hU hUp
                      refine W_move rfl rfl rfl ?_
                      exact W_end (OneT_end [] (Hp.le_refl _) ⟨rfl, rfl⟩)
                    · intro HX hX X Rest hR
                      rintro _ _ ⟨rfl, rfl⟩
                      intro hU hUp
                      refine W_move rfl rfl rfl ?_
                      exact W_end (OneT_end [] (Hp.le_refl _) ⟨rfl, rfl⟩)
                    · intro HX hX X Rest hR
                      rintro _ _ ⟨rfl, rfl⟩
                      rintro _ _ ⟨rfl, rfl⟩
                      rintro _ _ ⟨rfl, rfl⟩
                      intro hU hUp
                      refine W_sliceStr (l := 0) (h := (r120 : Int).toNat) rfl rfl Proofs.Tryd.runUnderlying9 rfl (.inr ⟨_, _, _, rfl, rfl, by omega, by omega, rfl⟩) (.inl ⟨rfl, rfl⟩) ?_
                      exact W_end (OneT_end [] (Hp.le_refl _) ⟨rfl, rfl⟩)
                    · intro HX hX X Rest hR
                      rintro _ _ ⟨rfl, rfl⟩
                      rintro _ _ ⟨rfl, rfl⟩
                      rintro _ _ ⟨rfl, rfl⟩
                      intro hU hUp
                      refine W_call Proofs.Tryd.call21 rfl rfl rfl (fun w ht => by have h := m_strings_LastIndex_c (hm := hc227)  ht; exact h) ?_
                      rintro _ _ _ ⟨rfl, rfl, rfl⟩
                      exact W_end (OneT_end [] (Hp.le_refl _) ⟨rfl, rfl⟩)
                    · intro HX hX X Rest hR
                      rintro _ _ ⟨rfl, rfl⟩
                      rintro _ _ ⟨rfl, rfl⟩
                      intro hU hUp
                      refine W_bin rfl rfl rfl rfl rfl ?_
                      exact W_end (OneT_end [] (Hp.le_refl _) ⟨rfl, rfl⟩)
                    · intro HX hX X Rest hR
                      rintro _ _ ⟨rfl, rfl⟩
                      rintro _ _ ⟨rfl, rfl⟩
                      rintro _ _ ⟨rfl, rfl⟩
                      intro hU hUp
                      refine W_bin rfl rfl rfl rfl rfl ?_
                      exact W_end (OneT_end [] (Hp.le_refl _) ⟨rfl, (by first | rfl | (rw [hb228]; try rfl))⟩)
                    · intro HX hX X Rest hR
                      rintro _ _ ⟨rfl, rfl⟩
                      rintro _ _ ⟨rfl, rfl⟩
                      intro hU hUp
                      refine W_pick rfl rfl rfl rfl ?_
                      exact W_end (OneT_end [] (Hp.le_refl _) ⟨rfl, rfl⟩)
                    · intro HX hX X Rest hR
                      rintro _ _ ⟨rfl, rfl⟩
                      rintro _ _ ⟨rfl, rfl⟩
                      intro hU hUp
                      refine W_move rfl rfl rfl ?_
                      exact W_end (OneT_end [] (Hp.le_refl _) ⟨rfl, rfl⟩)
                    · intro HX hX X Rest hR
                      rintro _ _ ⟨rfl, rfl⟩
                      intro hU hUp
                      refine W_move rfl rfl rfl ?_
                      exact W_end (OneT_end [] (Hp.le_refl _) ⟨rfl, rfl⟩)
                    · intro HX hX X Rest hR
                      rintro _ _ ⟨rfl, rfl⟩
                      intro hU hUp
                      refine W_move rfl rfl rfl ?_
                      exact W_end (OneT_end [] (Hp.le_refl _) ⟨rfl, rfl⟩)
                    · intro HX hX X Rest hR
                      rintro _ _ ⟨rfl, rfl⟩
                      rintro _ _ ⟨rfl, rfl⟩
                      rintro _ _ ⟨rfl, rfl⟩
                      rintro hU ⟨Rr, hUp⟩
                      have hUq : (.obj b104 (.cells [v105].toArray 51 (0, 0)) :: .row v105 30 (Rep.sz S_api_Event) sp103.all_.length xs106 :: Rr).Perm Rest := hUp
                      have hR2 : ∀ s ∈ _, s ∈ .obj b104 (.cells [v105].toArray 51 (0, 0)) :: .row v105 30 (Rep.sz S_api_Event) sp103.all_.length xs106 :: Rr := fun s hs => hUq.mem_iff.2 (hR s hs)
                      refine W_perm (M' := .obj b104 (.cells [v105].toArray 51 (0, 0)) :: .row v105 30 (Rep.sz S_api_Event) sp103.all_.length xs106 :: Rr) (List.Perm.append_left [] hUq.symm) ?_
                      refine W_call Proofs.Tryd.call13 rfl rfl rfl (fun w ht => by have h := m_archive_Archive_All_c (hm := hc259) ((h107.mono hle135).mono hX) ht; exact h) ?_
                      rintro _ _ _ ⟨rfl, v315, xs316, rfl, rfl, h317⟩
                      have h317 := h317 HX
                      refine W_perm (List.Perm.cons _ hUq) ?_
                      exact W_end (OneT_end [.row v315 30 (Rep.sz S_api_Event) r258.length xs316] (Hp.le_refl _) ⟨v315, xs316, rfl, rfl, (h317)⟩)
                    · intro HX hX X Rest hR
                      rintro _ _ ⟨v315, xs316, rfl, rfl, h317⟩
                      rintro _ _ ⟨rfl, rfl⟩
                      intro hU hUp
                      have hU2 : ∀ s ∈ [.row v315 30 (Rep.sz S_api_Event) r258.length xs316], s ∈ Rest := hU
                      refine W_lenO (hU2 _ (List.mem_cons_self ..)) rfl rfl Proofs.Tryd.runUnderlying22 rfl ?_
                      exact W_end (OneT_end [] (Hp.le_refl _) ⟨rfl, rfl⟩)
                    · intro HX hX X Rest hR
                      rintro _ _ ⟨rfl, rfl⟩
                      rintro _ _ ⟨rfl, rfl⟩
                      rintro _ _ ⟨rfl, rfl⟩
                      intro hU hUp
                      refine W_bin rfl rfl rfl rfl rfl ?_
                      exact W_end (OneT_end [] (Hp.le_refl _) ⟨rfl, (by first | rfl | (rw [hb263]; try rfl))⟩)
                    · intro HX hX X Rest hR
                      rintro _ _ ⟨rfl, rfl⟩
                      rintro _ _ ⟨v315, xs316, rfl, rfl, h317⟩
                      rintro _ _ ⟨rfl, rfl⟩
                      intro hU hUp
                      refine W_move rfl rfl rfl ?_
                      exact W_end (OneT_end [] (Hp.le_refl _) ⟨rfl, rfl⟩)
                    · intro HX hX X Rest hR
                      rintro _ _ ⟨rfl, rfl⟩
                      intro hU hUp
                      refine W_no rfl rfl rfl ?_
                      exact W_end (OneT_end [] (Hp.le_refl _) ⟨rfl, rfl⟩)
                    · intro HX hX X Rest hR
                      rintro _ _ ⟨rfl, rfl⟩
                      rintro _ _ ⟨rfl, rfl⟩
                      rintro _ _ ⟨rfl, rfl⟩
                      intro hU hUp
                      refine W_no rfl rfl rfl ?_
                      exact W_end (OneT_end [] (Hp.le_refl _) ⟨rfl, rfl⟩)
                    · intro HX hX X Rest hR
                      rintro _ _ ⟨rfl, rfl⟩
                      intro hU hUp
                      refine W_no rfl rfl rfl ?_
                      exact W_end (OneT_end [] (Hp.le_refl _) ⟨rfl, rfl⟩)
                    intro H318 hle319
                    rintro _ _ ⟨rfl, rfl⟩
                    rintro _ _ ⟨v306, xs307, rfl, rfl, h308⟩
                    rintro _ _ ⟨rfl, rfl⟩
                    rintro _ _ ⟨v309, xs310, rfl, rfl, h311⟩
                    rintro _ _ ⟨rfl, rfl⟩
                    rintro _ _ ⟨v312, xs313, rfl, rfl, hr314⟩
                    rintro _ _ ⟨rfl, rfl⟩
                    rintro _ _ ⟨rfl, rfl⟩
                    rintro _ _ ⟨rfl, rfl⟩
                    rintro _ _ ⟨rfl, rfl⟩
                    rintro _ _ ⟨rfl, rfl⟩
                    rintro _ _ ⟨rfl, rfl⟩
                    rintro _ _ ⟨rfl, rfl⟩
                    rintro _ _ ⟨rfl, rfl⟩
                    rintro _ _ ⟨rfl, rfl⟩
                    rintro _ _ ⟨rfl, rfl⟩
                    rintro _ _ ⟨rfl, rfl⟩
                    rintro _ _ ⟨rfl, rfl⟩
                    rintro _ _ ⟨rfl, rfl⟩
                    rintro _ _ ⟨rfl, rfl⟩
                    rintro _ _ ⟨rfl, rfl⟩
                    rintro _ _ ⟨rfl, rfl⟩
                    rintro _ _ ⟨rfl, rfl⟩
                    rintro _ _ ⟨rfl, rfl⟩
                    rintro _ _ ⟨rfl, rfl⟩
                    rintro _ _ ⟨rfl, rfl⟩
                    rintro _ _ ⟨rfl, rfl⟩
                    rintro _ _ ⟨v315, xs316, rfl, rfl, h317⟩
                    rintro _ _ ⟨rfl, rfl⟩
                    rintro _ _ ⟨rfl, rfl⟩
                    rintro _ _ ⟨rfl, rfl⟩
                    rintro _ _ ⟨rfl, rfl⟩
                    rintro _ _ ⟨rfl, rfl⟩
                    rintro _ _ ⟨rfl, rfl⟩
                    refine W_as (M' := .row v306 30 (Rep.sz S_api_Event) r146.length xs307 :: .row v312 30 (Rep.sz S_api_Event) (slc r151 0 ((r144 : Int).toNat)).length xs313 :: .row v315 30 (Rep.sz S_api_Event) r258.length xs316 :: .obj b126 (.cells [v127].toArray 51 (0, 0)) :: .row v127 30 (Rep.sz S_api_Event) sp125.all_.length xs128 :: .obj b104 (.cells [v105].toArray 51 (0, 0)) :: .row v105 30 (Rep.sz S_api_Event) sp103.all_.length xs106 :: M) rfl ?_
                    refine W_no rfl rfl rfl ?_
                    refine W_no rfl rfl rfl ?_
                    refine W_pick rfl rfl rfl rfl ?_
                    refine W_pick rfl rfl rfl rfl ?_
                    refine W_assign rfl rfl rfl ?_
                    refine W_end ?_
                    refine E_then ?_
                    refine C_ret ?_
                    obtain rfl := Option.some.inj hm
                    refine E_drop (List.Sublist.cons _ (List.Sublist.cons _ (List.Sublist.cons _ (List.Sublist.cons _ (List.Sublist.cons _ (List.Sublist.cons _ (List.Sublist.cons _ (List.Sublist.refl _)))))))) ?_
                    refine E_weak (Hp.le_trans (Hp.le_trans hle113 hle135) hle319) ?_
                    exact end1 rfl rfl ⟨rfl, rfl, rfl⟩
        · refine C_region ?_
          refine W_move rfl rfl rfl ?_
          refine W_bin rfl rfl rfl rfl rfl ?_
          refine W_move rfl rfl rfl ?_
          cases hb320 : (decide (r123.2.2 = 0))
          · refine W_no rfl rfl rfl ?_
            refine W_no rfl rfl rfl ?_
            refine W_pick rfl rfl rfl rfl ?_
            refine W_move rfl rfl rfl ?_
            refine W_no rfl rfl rfl ?_
            refine W_no rfl rfl rfl ?_
            refine W_no rfl rfl rfl ?_
            refine W_pick rfl rfl rfl rfl ?_
            refine W_end ?_
            exact E_keepJ (J141 _ _ _ ⟨rfl, rfl, rfl⟩) (List.Perm.refl _) ⟨rfl, rfl, rfl, rfl, rfl, (by show some (Value.bool (true)) = some (Value.bool ((!decide (r123.2.2 = 0)) || (decide (r120 < r123.2.1)))); simp only [hb117, hb320, Bool.and_true, Bool.true_and, Bool.false_and, Bool.and_false, Bool.or_true, Bool.true_or, Bool.or_false, Bool.false_or, Bool.not_true, Bool.not_false]), trivial⟩
          · refine W_move rfl rfl rfl ?_
            refine W_ptrNil rfl rfl Proofs.Tryd.runUnderlying23 rfl rfl ?_
            refine W_pick rfl rfl rfl rfl ?_
            refine W_move rfl rfl rfl ?_
            refine W_move rfl rfl rfl ?_
            refine W_move rfl rfl rfl ?_
            refine W_bin rfl rfl rfl rfl rfl ?_
            refine W_pick rfl rfl rfl rfl ?_
            refine W_end ?_
            exact E_keepJ (J141 _ _ _ ⟨rfl, rfl, rfl⟩) (List.Perm.refl _) ⟨rfl, rfl, rfl, rfl, rfl, (by show some (Value.bool (decide (r120 < r123.2.1))) = some (Value.bool ((!decide (r123.2.2 = 0)) || (decide (r120 < r123.2.1)))); simp only [hb117, hb320, Bool.and_true, Bool.true_and, Bool.false_and, Bool.and_false, Bool.or_true, Bool.true_or, Bool.or_false, Bool.false_or, Bool.not_true, Bool.not_false]), trivial⟩
end Go.Sim
