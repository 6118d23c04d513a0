/-
  Printed by a program: each Go function computes its model.
-/
import Derived.Test.YtppfglcmgkjgkaaConO3
namespace Go.Sim
open Go
set_option linter.unusedVariables false
set_option linter.unusedSimpArgs false
set_option maxRecDepth 100000
theorem m_gridhallkeep4_OrderMore_c {B : Nat} {w0 w : World} {H : Hp} {M : List Res} {rules : (List S_api_InterlockRule)} {more : (List S_api_InterlockRule)} {p2_from : (List S_api_InterlockState)} {to : (List S_api_InterlockState)} {v0 : Value} {v1 : Value} {v2 : Value} {v3 : Value} {r : Bool} (hm : m_gridhallkeep4_OrderMore rules more p2_from to = some r) (h0 : RdS H v0 rules) (h1 : RdS H v1 more) (h2 : RdS H v2 p2_from) (h3 : RdS H v3 to) (ht : St B w0 H (M) w) :
    Calls Proofs.Try.prog 6 [v0, v1, v2, v3].toArray w (Ret B w0 fun H' M' v => H = H' ∧ M = M' ∧ .bool (r) = v) := by
  unfold m_gridhallkeep4_OrderMore at hm
  refine enter Proofs.Try.func6 rfl rfl rfl ht ?_
  refine C_seq ?_
  refine C_region ?_
  refine W_assign rfl rfl rfl ?_
  refine W_end ?_
  refine E_then ?_
  refine C_seq ?_
  obtain ⟨hz101, hm⟩ := need_some hm
  obtain ⟨hz105, hm⟩ := need_some hm
  refine C_region_tok 11 (phiT [(fun H rs v => [] = rs ∧ v2 = v), (fun H rs v => [] = rs ∧ v2 = v), (fun H rs v => [] = rs ∧ .int .i64 ((p2_from.length : Int)) = v), (fun H rs v => [] = rs ∧ .int .i64 (min (p2_from.length : Int) 5) = v), (fun H rs v => ∃ v109 : Value, [] = rs ∧ v109 = v ∧ RdS H v109 (slc p2_from 0 ((min (p2_from.length : Int) 5 : Int).toNat))), (fun H rs v => [] = rs ∧ v3 = v), (fun H rs v => [] = rs ∧ v3 = v), (fun H rs v => [] = rs ∧ .int .i64 ((to.length : Int)) = v), (fun H rs v => [] = rs ∧ .int .i64 (min (to.length : Int) 5) = v), (fun H rs v => ∃ v112 : Value, [] = rs ∧ v112 = v ∧ RdS H v112 (slc to 0 ((min (to.length : Int) 5 : Int).toNat))), (fun H rs v => ∃ v109 : Value, [] = rs ∧ v109 = v ∧ RdS H v109 (slc p2_from 0 ((min (p2_from.length : Int) 5 : Int).toNat)))]) [[], [], [], [], [], [], [], [], [], [], []] [[], [], [], [], [], [], [], [], [], [], []] [] [0, 1, 2, 3, 4, 5, 6, 7, 8, 9, 10] [(0, v0), (1, v1), (3, v3), (8, .bool (false))] [[(2, v2)], [(2, v2)], [], [], [], [], [], [], [], [], []] Facts.mixed (by kernel_rfl) rfl rfl (by kernel_rfl) (Kept.lk ⟨rfl, rfl, rfl, rfl, trivial⟩) ⟨⟨rfl, trivial⟩, ⟨rfl, trivial⟩, trivial, trivial, trivial, trivial, trivial, trivial, trivial, trivial, trivial, trivial⟩ rfl (by kernel_rfl) (phiT_mono ⟨eq_monoT _ _, eq_monoT _ _, eq_monoT _ _, eq_monoT _ _, (by rintro H1 H2 rs v hle ⟨v109, rfl, rfl, h110⟩; exact ⟨v109, rfl, rfl, (h110.mono hle)⟩), eq_monoT _ _, eq_monoT _ _, eq_monoT _ _, eq_monoT _ _, (by rintro H1 H2 rs v hle ⟨v112, rfl, rfl, h113⟩; exact ⟨v112, rfl, rfl, (h113.mono hle)⟩), (by rintro H1 H2 rs v hle ⟨v109, rfl, rfl, h110⟩; exact ⟨v109, rfl, rfl, (h110.mono hle)⟩), trivial⟩) ⟨?_, ?_, ?_, ?_, ?_, ?_, ?_, ?_, ?_, ?_, ?_, trivial⟩ ?_
  · intro HX hX X Rest hR
    intro hU
    refine W_move rfl rfl rfl ?_
    exact W_end (OneT_end [] (Hp.le_refl _) ⟨rfl, rfl⟩)
  · intro HX hX X Rest hR
    intro hU
    refine W_move rfl rfl rfl ?_
    exact W_end (OneT_end [] (Hp.le_refl _) ⟨rfl, rfl⟩)
  · intro HX hX X Rest hR
    rintro _ _ ⟨rfl, rfl⟩
    intro hU
    refine W_lenR rfl rfl Proofs.Try.runUnderlying23 rfl (h2.mono hX) ?_
    exact W_end (OneT_end [] (Hp.le_refl _) ⟨rfl, rfl⟩)
  · intro HX hX X Rest hR
    rintro _ _ ⟨rfl, rfl⟩
    intro hU
    refine W_min rfl rfl rfl rfl ?_
    exact W_end (OneT_end [] (Hp.le_refl _) ⟨rfl, rfl⟩)
  · intro HX hX X Rest hR
    rintro _ _ ⟨rfl, rfl⟩
    rintro _ _ ⟨rfl, rfl⟩
    intro hU
    refine W_sliceR (α := S_api_InterlockState) (l := 0) (h := (min (p2_from.length : Int) 5 : Int).toNat) (xs := p2_from) rfl rfl Proofs.Try.runUnderlying23 Proofs.Try.sizeOf33 rfl (h2.mono hX) (by omega) (by omega) (.inl rfl) (fun cap hcap => by rw [if_pos rfl]; exact (.inl ⟨rfl, rfl⟩)) (fun m hmm => (.inr ⟨_, _, _, rfl, rfl, by omega, by omega, rfl⟩)) (.inl ⟨rfl, rfl⟩) ?_
    intro v109 h110 hc111
    exact W_end (OneT_end [] (Hp.le_refl _) ⟨v109, rfl, rfl, (h110)⟩)
  · intro HX hX X Rest hR
    intro hU
    refine W_move rfl rfl rfl ?_
    exact W_end (OneT_end [] (Hp.le_refl _) ⟨rfl, rfl⟩)
  · intro HX hX X Rest hR
    intro hU
    refine W_move rfl rfl rfl ?_
    exact W_end (OneT_end [] (Hp.le_refl _) ⟨rfl, rfl⟩)
  · intro HX hX X Rest hR
    rintro _ _ ⟨rfl, rfl⟩
    intro hU
    refine W_lenR rfl rfl Proofs.Try.runUnderlying23 rfl (h3.mono hX) ?_
    exact W_end (OneT_end [] (Hp.le_refl _) ⟨rfl, rfl⟩)
  · intro HX hX X Rest hR
    rintro _ _ ⟨rfl, rfl⟩
    intro hU
    refine W_min rfl rfl rfl rfl ?_
    exact W_end (OneT_end [] (Hp.le_refl _) ⟨rfl, rfl⟩)
  · intro HX hX X Rest hR
    rintro _ _ ⟨rfl, rfl⟩
    rintro _ _ ⟨rfl, rfl⟩
    intro hU
    refine W_sliceR (α := S_api_InterlockState) (l := 0) (h := (min (to.length : Int) 5 : Int).toNat) (xs := to) rfl rfl Proofs.Try.runUnderlying23 Proofs.Try.sizeOf33 rfl (h3.mono hX) (by omega) (by omega) (.inl rfl) (fun cap hcap => by rw [if_pos rfl]; exact (.inl ⟨rfl, rfl⟩)) (fun m hmm => (.inr ⟨_, _, _, rfl, rfl, by omega, by omega, rfl⟩)) (.inl ⟨rfl, rfl⟩) ?_
    intro v112 h113 hc114
    exact W_end (OneT_end [] (Hp.le_refl _) ⟨v112, rfl, rfl, (h113)⟩)
  · intro HX hX X Rest hR
    rintro _ _ ⟨v109, rfl, rfl, h110⟩
    rintro _ _ ⟨rfl, rfl⟩
    rintro _ _ ⟨rfl, rfl⟩
    rintro _ _ ⟨rfl, rfl⟩
    rintro _ _ ⟨rfl, rfl⟩
    rintro _ _ ⟨v109, rfl, rfl, h110⟩
    intro hU
    refine W_assign rfl rfl rfl ?_
    exact W_end (OneT_end [] (Hp.le_refl _) ⟨v109, rfl, rfl, (h110)⟩)
  intro H115 hle116
  rintro _ _ ⟨rfl, rfl⟩
  rintro _ _ ⟨rfl, rfl⟩
  rintro _ _ ⟨rfl, rfl⟩
  rintro _ _ ⟨rfl, rfl⟩
  rintro _ _ ⟨v109, rfl, rfl, h110⟩
  rintro _ _ ⟨rfl, rfl⟩
  rintro _ _ ⟨rfl, rfl⟩
  rintro _ _ ⟨rfl, rfl⟩
  rintro _ _ ⟨rfl, rfl⟩
  rintro _ _ ⟨v112, rfl, rfl, h113⟩
  rintro _ _ ⟨v109, rfl, rfl, h110⟩
  refine W_assign rfl rfl rfl ?_
  refine W_end ?_
  refine E_then ?_
  refine C_seq ?_
  refine C_region ?_
  refine W_move rfl rfl rfl ?_
  refine W_move rfl rfl rfl ?_
  refine W_buildSliceO (α := (List S_api_InterlockRule)) (css := [[v0], [v1]]) (zs := [.slice none 0 0, .slice none 0 0]) (out := [v0, v1]) (ys := [rules, more]) rfl rfl rfl ⟨(RdS.cells (h0.mono hle116)), (RdS.cells (h1.mono hle116)), trivial⟩ Proofs.Try.runUnderlying60 Proofs.Try.sizeOf22 rfl Proofs.Try.zeroValue22 (by kernel_rfl) rfl rfl rfl rfl ⟨[v0], [v1], rfl, ⟨v0, rfl, (h0.mono hle116)⟩, ⟨[v1], [], rfl, ⟨v1, rfl, (h1.mono hle116)⟩, rfl⟩⟩ rfl ?_
  intro v117 xs118 hr119
  refine W_freeze (hr119).rd rfl (fun H120 hle121 h122 => ?_)
  obtain ⟨r123, hc124, hm⟩ := bind_some hm
  refine W_call Proofs.Try.call15 rfl rfl rfl (fun w ht => by have h := m_slices_Concat_api_InterlockRule_api_InterlockRule_c (hm := hc124) h122 ht; exact h) ?_
  rintro _ H128 _ ⟨hle129, v125, xs126, rfl, rfl, h127⟩
  refine W_move rfl rfl rfl ?_
  refine W_move rfl rfl rfl ?_
  obtain ⟨r130, hc131, hm⟩ := bind_some hm
  refine W_call Proofs.Try.call8 rfl rfl rfl (fun w ht => by obtain ⟨H0_, hl0_, ht0_, hr0_, bk0_⟩ := ht.lendRow h127 rfl; have h := m_order_Plan_c (hm := hc131) hr0_ (((h110.mono hle121).mono hle129).mono hl0_) (((h113.mono hle121).mono hle129).mono hl0_) RdS.nil ht0_; exact lend_back bk0_ (h)) ?_
  rintro _ _ _ ⟨rfl, ⟨_, rfl, v132, xs133, rfl, rfl, h134⟩⟩
  have h134 := h134 H128
  refine W_move rfl rfl rfl ?_
  refine W_extract rfl rfl rfl rfl ?_
  refine W_extract rfl rfl rfl rfl ?_
  refine W_assign rfl rfl rfl ?_
  refine W_assign rfl rfl rfl ?_
  refine W_end ?_
  refine E_then ?_
  refine C_seq ?_
  refine C_region ?_
  refine W_move rfl rfl rfl ?_
  refine W_move rfl rfl rfl ?_
  refine W_move rfl rfl rfl ?_
  obtain ⟨r135, hc136, hm⟩ := bind_some hm
  refine W_call Proofs.Try.call8 rfl rfl rfl (fun w ht => by have h := m_order_Plan_c (hm := hc136) (((h0.mono hle116).mono hle121).mono hle129) ((h110.mono hle121).mono hle129) ((h113.mono hle121).mono hle129) RdS.nil ht; exact h) ?_
  rintro _ _ _ ⟨rfl, v137, xs138, rfl, rfl, h139⟩
  have h139 := h139 H128
  refine W_move rfl rfl rfl ?_
  refine W_extract rfl rfl rfl rfl ?_
  refine W_extract rfl rfl rfl rfl ?_
  refine W_assign rfl rfl rfl ?_
  refine W_assign rfl rfl rfl ?_
  refine W_end ?_
  refine E_then ?_
  refine C_seq ?_
  refine C_seq ?_
  refine C_region ?_
  refine W_move rfl rfl rfl ?_
  refine W_bin rfl rfl rfl rfl rfl ?_
  refine W_end ?_
  refine E_then ?_
  refine C_cond (b := !decide (r130.2 = 0)) rfl (fun hb140 => ?_) (fun hb140 => ?_)
  · have hm := ite_t' hb140 hm
    obtain ⟨r144, hc145, hm⟩ := bind_some hm
    refine C_seq_join (fun H' M' L' => H128 = H' ∧ M = M' ∧ [(8, .bool (r144 && (decide ((r130.1.length : Int) = 0))))] = L') ?_ (fun J146 => ?_)
    · rintro _ _ _ ⟨rfl, rfl, rfl⟩
      refine C_ret ?_
      refine E_ret_then ?_
      obtain rfl := Option.some.inj hm
      refine E_weak (Hp.le_trans (Hp.le_trans hle116 hle121) hle129) ?_
      exact end1 rfl rfl ⟨rfl, rfl, rfl⟩
    · refine C_region ?_
      refine W_call Proofs.Try.call9 rfl rfl rfl (fun w ht => by have h := m_gridhallkeep4_orderFact_c (hm := hc145)  ht; exact h) ?_
      rintro _ _ _ ⟨rfl, rfl, rfl⟩
      refine W_move rfl rfl rfl ?_
      cases hb147 : (r144)
      · refine W_no rfl rfl rfl ?_
        refine W_no rfl rfl rfl ?_
        refine W_no rfl rfl rfl ?_
        refine W_pick rfl rfl rfl rfl ?_
        refine W_assign rfl rfl rfl ?_
        refine W_end ?_
        refine E_drop (List.Sublist.cons _ (List.Sublist.cons _ (List.Sublist.cons _ (List.Sublist.refl _)))) ?_
        exact E_keepJ (J146 _ _ _ ⟨rfl, rfl, rfl⟩) (List.Perm.refl _) ⟨(by show some (Value.bool (false)) = some (Value.bool (r144 && (decide ((r130.1.length : Int) = 0)))); simp only [hb140, hb147, Bool.and_true, Bool.true_and, Bool.false_and, Bool.and_false, Bool.or_true, Bool.true_or, Bool.or_false, Bool.false_or, Bool.not_true, Bool.not_false]), trivial⟩
      · refine W_move rfl rfl rfl ?_
        refine W_lenO (List.mem_cons_of_mem _ (List.mem_cons_of_mem _ (List.mem_cons_self ..))) rfl rfl Proofs.Try.runUnderlying25 rfl ?_
        refine W_bin rfl rfl rfl rfl rfl ?_
        refine W_pick rfl rfl rfl rfl ?_
        refine W_assign rfl rfl rfl ?_
        refine W_end ?_
        refine E_drop (List.Sublist.cons _ (List.Sublist.cons _ (List.Sublist.cons _ (List.Sublist.refl _)))) ?_
        exact E_keepJ (J146 _ _ _ ⟨rfl, rfl, rfl⟩) (List.Perm.refl _) ⟨(by show some (Value.bool (decide ((r130.1.length : Int) = 0))) = some (Value.bool (r144 && (decide ((r130.1.length : Int) = 0)))); simp only [hb140, hb147, Bool.and_true, Bool.true_and, Bool.false_and, Bool.and_false, Bool.or_true, Bool.true_or, Bool.or_false, Bool.false_or, Bool.not_true, Bool.not_false]), trivial⟩
  · have hm := ite_f' hb140 hm
    refine C_skip ?_
    refine E_then ?_
    obtain ⟨r152, hc153, hm⟩ := bind_some hm
    refine C_seq_join (fun H' M' L' => H128 = H' ∧ M = M' ∧ [(8, .bool ((r152 && (decide (r135.2 = 0))) && (decide ((r135.1.length : Int) ≤ (r130.1.length : Int)))))] = L') ?_ (fun J154 => ?_)
    · rintro _ _ _ ⟨rfl, rfl, rfl⟩
      refine C_ret ?_
      obtain rfl := Option.some.inj hm
      refine E_weak (Hp.le_trans (Hp.le_trans hle116 hle121) hle129) ?_
      exact end1 rfl rfl ⟨rfl, rfl, rfl⟩
    · refine C_region ?_
      refine W_call Proofs.Try.call9 rfl rfl rfl (fun w ht => by have h := m_gridhallkeep4_orderFact_c (hm := hc153)  ht; exact h) ?_
      rintro _ _ _ ⟨rfl, rfl, rfl⟩
      refine W_move rfl rfl rfl ?_
      cases hb155 : (r152)
      · refine W_no rfl rfl rfl ?_
        refine W_no rfl rfl rfl ?_
        refine W_pick rfl rfl rfl rfl ?_
        refine W_move rfl rfl rfl ?_
        refine W_no rfl rfl rfl ?_
        refine W_no rfl rfl rfl ?_
        refine W_no rfl rfl rfl ?_
        refine W_no rfl rfl rfl ?_
        refine W_no rfl rfl rfl ?_
        refine W_pick rfl rfl rfl rfl ?_
        refine W_assign rfl rfl rfl ?_
        refine W_end ?_
        refine E_drop (List.Sublist.cons _ (List.Sublist.cons _ (List.Sublist.cons _ (List.Sublist.refl _)))) ?_
        exact E_keepJ (J154 _ _ _ ⟨rfl, rfl, rfl⟩) (List.Perm.refl _) ⟨(by show some (Value.bool (false)) = some (Value.bool ((r152 && (decide (r135.2 = 0))) && (decide ((r135.1.length : Int) ≤ (r130.1.length : Int))))); simp only [hb140, hb155, Bool.and_true, Bool.true_and, Bool.false_and, Bool.and_false, Bool.or_true, Bool.true_or, Bool.or_false, Bool.false_or, Bool.not_true, Bool.not_false]), trivial⟩
      · refine W_move rfl rfl rfl ?_
        refine W_bin rfl rfl rfl rfl rfl ?_
        refine W_pick rfl rfl rfl rfl ?_
        refine W_move rfl rfl rfl ?_
        cases hb156 : (decide (r135.2 = 0))
        · refine W_no rfl rfl rfl ?_
          refine W_no rfl rfl rfl ?_
          refine W_no rfl rfl rfl ?_
          refine W_no rfl rfl rfl ?_
          refine W_no rfl rfl rfl ?_
          refine W_pick rfl rfl rfl rfl ?_
          refine W_assign rfl rfl rfl ?_
          refine W_end ?_
          refine E_drop (List.Sublist.cons _ (List.Sublist.cons _ (List.Sublist.cons _ (List.Sublist.refl _)))) ?_
          exact E_keepJ (J154 _ _ _ ⟨rfl, rfl, rfl⟩) (List.Perm.refl _) ⟨(by show some (Value.bool (false)) = some (Value.bool ((r152 && (decide (r135.2 = 0))) && (decide ((r135.1.length : Int) ≤ (r130.1.length : Int))))); simp only [hb140, hb155, hb156, Bool.and_true, Bool.true_and, Bool.false_and, Bool.and_false, Bool.or_true, Bool.true_or, Bool.or_false, Bool.false_or, Bool.not_true, Bool.not_false]), trivial⟩
        · refine W_move rfl rfl rfl ?_
          refine W_lenO (List.mem_cons_self ..) rfl rfl Proofs.Try.runUnderlying25 rfl ?_
          refine W_move rfl rfl rfl ?_
          refine W_lenO (List.mem_cons_of_mem _ (List.mem_cons_of_mem _ (List.mem_cons_self ..))) rfl rfl Proofs.Try.runUnderlying25 rfl ?_
          refine W_bin rfl rfl rfl rfl rfl ?_
          refine W_pick rfl rfl rfl rfl ?_
          refine W_assign rfl rfl rfl ?_
          refine W_end ?_
          refine E_drop (List.Sublist.cons _ (List.Sublist.cons _ (List.Sublist.cons _ (List.Sublist.refl _)))) ?_
          exact E_keepJ (J154 _ _ _ ⟨rfl, rfl, rfl⟩) (List.Perm.refl _) ⟨(by show some (Value.bool (decide ((r135.1.length : Int) ≤ (r130.1.length : Int)))) = some (Value.bool ((r152 && (decide (r135.2 = 0))) && (decide ((r135.1.length : Int) ≤ (r130.1.length : Int))))); simp only [hb140, hb155, hb156, Bool.and_true, Bool.true_and, Bool.false_and, Bool.and_false, Bool.or_true, Bool.true_or, Bool.or_false, Bool.false_or, Bool.not_true, Bool.not_false]), trivial⟩
end Go.Sim
