/-
  Printed by a program: each Go function computes its model.
-/
import Derived.Test.YtppfglcmgkjgkaaConO2
namespace Go.Sim
open Go
set_option linter.unusedVariables false
set_option linter.unusedSimpArgs false
set_option maxRecDepth 100000
theorem m_gridhallkeep4_OrderThrough_c {B : Nat} {w0 w : World} {H : Hp} {M : List Res} {rules : (List S_api_InterlockRule)} {p1_a : (List S_api_InterlockState)} {p2_b : (List S_api_InterlockState)} {p3_c : (List S_api_InterlockState)} {held : (List ByteArray)} {v0 : Value} {v1 : Value} {v2 : Value} {v3 : Value} {v4 : Value} {r : Bool} (hm : m_gridhallkeep4_OrderThrough rules p1_a p2_b p3_c held = some r) (h0 : RdS H v0 rules) (h1 : RdS H v1 p1_a) (h2 : RdS H v2 p2_b) (h3 : RdS H v3 p3_c) (h4 : RdS H v4 held) (ht : St B w0 H (M) w) :
    Calls Proofs.Try.prog 3 [v0, v1, v2, v3, v4].toArray w (Ret B w0 fun H' M' v => H = H' ∧ M = M' ∧ .bool (r) = v) := by
  unfold m_gridhallkeep4_OrderThrough at hm
  refine enter Proofs.Try.func3 rfl rfl rfl ht ?_
  refine C_seq ?_
  refine C_region ?_
  refine W_assign rfl rfl rfl ?_
  refine W_end ?_
  refine E_then ?_
  refine C_seq ?_
  obtain ⟨hz101, hm⟩ := need_some hm
  obtain ⟨hz105, hm⟩ := need_some hm
  obtain ⟨hz109, hm⟩ := need_some hm
  refine C_region_tok 17 (phiT [(fun H rs v => [] = rs ∧ v1 = v), (fun H rs v => [] = rs ∧ v1 = v), (fun H rs v => [] = rs ∧ .int .i64 ((p1_a.length : Int)) = v), (fun H rs v => [] = rs ∧ .int .i64 (min (p1_a.length : Int) 5) = v), (fun H rs v => ∃ v113 : Value, [] = rs ∧ v113 = v ∧ RdS H v113 (slc p1_a 0 ((min (p1_a.length : Int) 5 : Int).toNat))), (fun H rs v => [] = rs ∧ v2 = v), (fun H rs v => [] = rs ∧ v2 = v), (fun H rs v => [] = rs ∧ .int .i64 ((p2_b.length : Int)) = v), (fun H rs v => [] = rs ∧ .int .i64 (min (p2_b.length : Int) 5) = v), (fun H rs v => ∃ v116 : Value, [] = rs ∧ v116 = v ∧ RdS H v116 (slc p2_b 0 ((min (p2_b.length : Int) 5 : Int).toNat))), (fun H rs v => [] = rs ∧ v3 = v), (fun H rs v => [] = rs ∧ v3 = v), (fun H rs v => [] = rs ∧ .int .i64 ((p3_c.length : Int)) = v), (fun H rs v => [] = rs ∧ .int .i64 (min (p3_c.length : Int) 5) = v), (fun H rs v => ∃ v119 : Value, [] = rs ∧ v119 = v ∧ RdS H v119 (slc p3_c 0 ((min (p3_c.length : Int) 5 : Int).toNat))), (fun H rs v => ∃ v113 : Value, [] = rs ∧ v113 = v ∧ RdS H v113 (slc p1_a 0 ((min (p1_a.length : Int) 5 : Int).toNat))), (fun H rs v => ∃ v116 : Value, [] = rs ∧ v116 = v ∧ RdS H v116 (slc p2_b 0 ((min (p2_b.length : Int) 5 : Int).toNat)))]) [[], [], [], [], [], [], [], [], [], [], [], [], [], [], [], [], []] [[], [], [], [], [], [], [], [], [], [], [], [], [], [], [], [], []] [] [0, 1, 2, 3, 4, 5, 6, 7, 8, 9, 10, 11, 12, 13, 14, 15, 16] [(0, v0), (3, v3), (4, v4), (10, .bool (false))] [[(1, v1)], [(1, v1)], [], [], [], [(2, v2)], [(2, v2)], [], [], [], [], [], [], [], [], [], []] Facts.mixed (by kernel_rfl) rfl rfl (by kernel_rfl) (Kept.lk ⟨rfl, rfl, rfl, rfl, trivial⟩) ⟨⟨rfl, trivial⟩, ⟨rfl, trivial⟩, trivial, trivial, trivial, ⟨rfl, trivial⟩, ⟨rfl, trivial⟩, trivial, trivial, trivial, trivial, trivial, trivial, trivial, trivial, trivial, trivial, trivial⟩ rfl (by kernel_rfl) (phiT_mono ⟨eq_monoT _ _, eq_monoT _ _, eq_monoT _ _, eq_monoT _ _, (by rintro H1 H2 rs v hle ⟨v113, rfl, rfl, h114⟩; exact ⟨v113, rfl, rfl, (h114.mono hle)⟩), eq_monoT _ _, eq_monoT _ _, eq_monoT _ _, eq_monoT _ _, (by rintro H1 H2 rs v hle ⟨v116, rfl, rfl, h117⟩; exact ⟨v116, rfl, rfl, (h117.mono hle)⟩), eq_monoT _ _, eq_monoT _ _, eq_monoT _ _, eq_monoT _ _, (by rintro H1 H2 rs v hle ⟨v119, rfl, rfl, h120⟩; exact ⟨v119, rfl, rfl, (h120.mono hle)⟩), (by rintro H1 H2 rs v hle ⟨v113, rfl, rfl, h114⟩; exact ⟨v113, rfl, rfl, (h114.mono hle)⟩), (by rintro H1 H2 rs v hle ⟨v116, rfl, rfl, h117⟩; exact ⟨v116, rfl, rfl, (h117.mono hle)⟩), trivial⟩) ⟨?_, ?_, ?_, ?_, ?_, ?_, ?_, ?_, ?_, ?_, ?_, ?_, ?_, ?_, ?_, ?_, ?_, trivial⟩ ?_
  · intro HX hX X Rest hR
    intro hU
    refine W_move rfl rfl rfl ?_
    exact W_end (OneT_end [] (Hp.le_refl _) ⟨rfl, rfl⟩)
  · intro HX hX X Rest hR
    intro hU
    refine W_move rfl rfl rfl ?_
    exact W_end (OneT_end [] (Hp.le_refl _) ⟨rfl, rfl⟩)
  · intro HX hX X Rest hR
    rintro _ _ ⟨rfl, rfl⟩
    intro hU
    refine W_lenR rfl rfl Proofs.Try.runUnderlying23 rfl (h1.mono hX) ?_
    exact W_end (OneT_end [] (Hp.le_refl _) ⟨rfl, rfl⟩)
  · intro HX hX X Rest hR
    rintro _ _ ⟨rfl, rfl⟩
    intro hU
    refine W_min rfl rfl rfl rfl ?_
    exact W_end (OneT_end [] (Hp.le_refl _) ⟨rfl, rfl⟩)
  · intro HX hX X Rest hR
    rintro _ _ ⟨rfl, rfl⟩
    rintro _ _ ⟨rfl, rfl⟩
    intro hU
    refine W_sliceR (α := S_api_InterlockState) (l := 0) (h := (min (p1_a.length : Int) 5 : Int).toNat) (xs := p1_a) rfl rfl Proofs.Try.runUnderlying23 Proofs.Try.sizeOf33 rfl (h1.mono hX) (by omega) (by omega) (.inl rfl) (fun cap hcap => by rw [if_pos rfl]; exact (.inl ⟨rfl, rfl⟩)) (fun m hmm => (.inr ⟨_, _, _, rfl, rfl, by omega, by omega, rfl⟩)) (.inl ⟨rfl, rfl⟩) ?_
    intro v113 h114 hc115
    exact W_end (OneT_end [] (Hp.le_refl _) ⟨v113, rfl, rfl, (h114)⟩)
  · intro HX hX X Rest hR
    intro hU
    refine W_move rfl rfl rfl ?_
    exact W_end (OneT_end [] (Hp.le_refl _) ⟨rfl, rfl⟩)
  · intro HX hX X Rest hR
    intro hU
    refine W_move rfl rfl rfl ?_
    exact W_end (OneT_end [] (Hp.le_refl _) ⟨rfl, rfl⟩)
  · intro HX hX X Rest hR
    rintro _ _ ⟨rfl, rfl⟩
    intro hU
    refine W_lenR rfl rfl Proofs.Try.runUnderlying23 rfl (h2.mono hX) ?_
    exact W_end (OneT_end [] (Hp.le_refl _) ⟨rfl, rfl⟩)
  · intro HX hX X Rest hR
    rintro _ _ ⟨rfl, rfl⟩
    intro hU
    refine W_min rfl rfl rfl rfl ?_
    exact W_end (OneT_end [] (Hp.le_refl _) ⟨rfl, rfl⟩)
  · intro HX hX X Rest hR
    rintro _ _ ⟨rfl, rfl⟩
    rintro _ _ ⟨rfl, rfl⟩
    intro hU
    refine W_sliceR (α := S_api_InterlockState) (l := 0) (h := (min (p2_b.length : Int) 5 : Int).toNat) (xs := p2_b) rfl rfl Proofs.Try.runUnderlying23 Proofs.Try.sizeOf33 rfl (h2.mono hX) (by omega) (by omega) (.inl rfl) (fun cap hcap => by rw [if_pos rfl]; exact (.inl ⟨rfl, rfl⟩)) (fun m hmm => (.inr ⟨_, _, _, rfl, rfl, by omega, by omega, rfl⟩)) (.inl ⟨rfl, rfl⟩) ?_
    intro v116 h117 hc118
    exact W_end (OneT_end [] (Hp.le_refl _) ⟨v116, rfl, rfl, (h117)⟩)
  · intro HX hX X Rest hR
    intro hU
    refine W_move rfl rfl rfl ?_
    exact W_end (OneT_end [] (Hp.le_refl _) ⟨rfl, rfl⟩)
  · intro HX hX X Rest hR
    intro hU
    refine W_move rfl rfl rfl ?_
    exact W_end (OneT_end [] (Hp.le_refl _) ⟨rfl, rfl⟩)
  · intro HX hX X Rest hR
    rintro _ _ ⟨rfl, rfl⟩
    intro hU
    refine W_lenR rfl rfl Proofs.Try.runUnderlying23 rfl (h3.mono hX) ?_
    exact W_end (OneT_end [] (Hp.le_refl _) ⟨rfl, rfl⟩)
  · intro HX hX X Rest hR
    rintro _ _ ⟨rfl, rfl⟩
    intro hU
    refine W_min rfl rfl rfl rfl ?_
    exact W_end (OneT_end [] (Hp.le_refl _) ⟨rfl, rfl⟩)
  · intro HX hX X Rest hR
    rintro _ _ ⟨rfl, rfl⟩
    rintro _ _ ⟨rfl, rfl⟩
    intro hU
    refine W_sliceR (α := S_api_InterlockState) (l := 0) (h := (min (p3_c.length : Int) 5 : Int).toNat) (xs := p3_c) rfl rfl Proofs.Try.runUnderlying23 Proofs.Try.sizeOf33 rfl (h3.mono hX) (by omega) (by omega) (.inl rfl) (fun cap hcap => by rw [if_pos rfl]; exact (.inl ⟨rfl, rfl⟩)) (fun m hmm => (.inr ⟨_, _, _, rfl, rfl, by omega, by omega, rfl⟩)) (.inl ⟨rfl, rfl⟩) ?_
    intro v119 h120 hc121
    exact W_end (OneT_end [] (Hp.le_refl _) ⟨v119, rfl, rfl, (h120)⟩)
  · intro HX hX X Rest hR
    rintro _ _ ⟨v113, rfl, rfl, h114⟩
    rintro _ _ ⟨rfl, rfl⟩
    rintro _ _ ⟨rfl, rfl⟩
    rintro _ _ ⟨rfl, rfl⟩
    rintro _ _ ⟨rfl, rfl⟩
    rintro _ _ ⟨v113, rfl, rfl, h114⟩
    intro hU
    refine W_assign rfl rfl rfl ?_
    exact W_end (OneT_end [] (Hp.le_refl _) ⟨v113, rfl, rfl, (h114)⟩)
  · intro HX hX X Rest hR
    rintro _ _ ⟨v116, rfl, rfl, h117⟩
    rintro _ _ ⟨v113, rfl, rfl, h114⟩
    rintro _ _ ⟨rfl, rfl⟩
    rintro _ _ ⟨rfl, rfl⟩
    rintro _ _ ⟨rfl, rfl⟩
    rintro _ _ ⟨rfl, rfl⟩
    rintro _ _ ⟨v113, rfl, rfl, h114⟩
    rintro _ _ ⟨rfl, rfl⟩
    rintro _ _ ⟨rfl, rfl⟩
    rintro _ _ ⟨rfl, rfl⟩
    rintro _ _ ⟨rfl, rfl⟩
    rintro _ _ ⟨v116, rfl, rfl, h117⟩
    rintro _ _ ⟨v113, rfl, rfl, h114⟩
    intro hU
    refine W_assign rfl rfl rfl ?_
    exact W_end (OneT_end [] (Hp.le_refl _) ⟨v116, rfl, rfl, (h117)⟩)
  intro H122 hle123
  rintro _ _ ⟨rfl, rfl⟩
  rintro _ _ ⟨rfl, rfl⟩
  rintro _ _ ⟨rfl, rfl⟩
  rintro _ _ ⟨rfl, rfl⟩
  rintro _ _ ⟨v113, rfl, rfl, h114⟩
  rintro _ _ ⟨rfl, rfl⟩
  rintro _ _ ⟨rfl, rfl⟩
  rintro _ _ ⟨rfl, rfl⟩
  rintro _ _ ⟨rfl, rfl⟩
  rintro _ _ ⟨v116, rfl, rfl, h117⟩
  rintro _ _ ⟨rfl, rfl⟩
  rintro _ _ ⟨rfl, rfl⟩
  rintro _ _ ⟨rfl, rfl⟩
  rintro _ _ ⟨rfl, rfl⟩
  rintro _ _ ⟨v119, rfl, rfl, h120⟩
  rintro _ _ ⟨v113, rfl, rfl, h114⟩
  rintro _ _ ⟨v116, rfl, rfl, h117⟩
  refine W_assign rfl rfl rfl ?_
  refine W_end ?_
  refine E_then ?_
  refine C_seq ?_
  refine C_region ?_
  refine W_move rfl rfl rfl ?_
  refine W_move rfl rfl rfl ?_
  refine W_move rfl rfl rfl ?_
  refine W_move rfl rfl rfl ?_
  obtain ⟨r124, hc125, hm⟩ := bind_some hm
  refine W_call Proofs.Try.call8 rfl rfl rfl (fun w ht => by have h := m_order_Plan_c (hm := hc125) (h0.mono hle123) h114 h117 (h4.mono hle123) ht; exact h) ?_
  rintro _ _ _ ⟨rfl, v126, xs127, rfl, rfl, h128⟩
  have h128 := h128 H122
  refine W_move rfl rfl rfl ?_
  refine W_extract rfl rfl rfl rfl ?_
  refine W_extract rfl rfl rfl rfl ?_
  refine W_assign rfl rfl rfl ?_
  refine W_assign rfl rfl rfl ?_
  refine W_end ?_
  refine E_then ?_
  refine C_seq ?_
  refine C_region ?_
  refine W_move rfl rfl rfl ?_
  refine W_move rfl rfl rfl ?_
  refine W_move rfl rfl rfl ?_
  refine W_move rfl rfl rfl ?_
  obtain ⟨r129, hc130, hm⟩ := bind_some hm
  refine W_call Proofs.Try.call8 rfl rfl rfl (fun w ht => by have h := m_order_Plan_c (hm := hc130) (h0.mono hle123) h117 h120 (h4.mono hle123) ht; exact h) ?_
  rintro _ _ _ ⟨rfl, v131, xs132, rfl, rfl, h133⟩
  have h133 := h133 H122
  refine W_move rfl rfl rfl ?_
  refine W_extract rfl rfl rfl rfl ?_
  refine W_extract rfl rfl rfl rfl ?_
  refine W_assign rfl rfl rfl ?_
  refine W_assign rfl rfl rfl ?_
  refine W_end ?_
  refine E_then ?_
  refine C_seq ?_
  refine C_region ?_
  refine W_move rfl rfl rfl ?_
  refine W_move rfl rfl rfl ?_
  refine W_move rfl rfl rfl ?_
  refine W_move rfl rfl rfl ?_
  obtain ⟨r134, hc135, hm⟩ := bind_some hm
  refine W_call Proofs.Try.call8 rfl rfl rfl (fun w ht => by have h := m_order_Plan_c (hm := hc135) (h0.mono hle123) h114 h120 (h4.mono hle123) ht; exact h) ?_
  rintro _ _ _ ⟨rfl, v136, xs137, rfl, rfl, h138⟩
  have h138 := h138 H122
  refine W_move rfl rfl rfl ?_
  refine W_extract rfl rfl rfl rfl ?_
  refine W_extract rfl rfl rfl rfl ?_
  refine W_assign rfl rfl rfl ?_
  refine W_assign rfl rfl rfl ?_
  refine W_end ?_
  refine E_then ?_
  refine C_seq ?_
  refine C_seq_join (fun H' M' L' => H122 = H' ∧ .row v136 36 (Rep.sz S_api_OrderStep) r134.1.length xs137 :: .row v131 36 (Rep.sz S_api_OrderStep) r129.1.length xs132 :: .row v126 36 (Rep.sz S_api_OrderStep) r124.1.length xs127 :: M = M' ∧ [(11, v126), (13, v131), (15, v136), (16, .int .i64 (r134.2)), (61, .bool ((!decide (r124.2 = 0)) || (!decide (r129.2 = 0))))] = L') ?_ (fun J140 => ?_)
  · rintro _ _ _ ⟨rfl, rfl, rfl⟩
    refine C_cond (b := (!decide (r124.2 = 0)) || (!decide (r129.2 = 0))) rfl (fun hb141 => ?_) (fun hb141 => ?_)
    · have hm := ite_t' hb141 hm
      refine C_seq ?_
      refine C_region ?_
      obtain ⟨r142, hc143, hm⟩ := bind_some hm
      refine W_call Proofs.Try.call9 rfl rfl rfl (fun w ht => by have h := m_gridhallkeep4_orderFact_c (hm := hc143)  ht; exact h) ?_
      rintro _ _ _ ⟨rfl, rfl, rfl⟩
      refine W_assign rfl rfl rfl ?_
      refine W_end ?_
      refine E_then ?_
      refine C_ret ?_
      refine E_ret_then ?_
      obtain rfl := Option.some.inj hm
      refine E_drop (List.Sublist.cons _ (List.Sublist.cons _ (List.Sublist.cons _ (List.Sublist.refl _)))) ?_
      refine E_weak hle123 ?_
      exact end1 rfl rfl ⟨rfl, rfl, rfl⟩
    · have hm := ite_f' hb141 hm
      refine C_skip ?_
      refine E_then ?_
      obtain ⟨r148, hc149, hm⟩ := bind_some hm
      refine C_seq_join (fun H' M' L' => H122 = H' ∧ M = M' ∧ [(10, .bool ((r148 && (decide (r134.2 = 0))) && (decide ((r134.1.length : Int) ≤ (IntKind.i64.wrap ((r124.1.length : Int) + (r129.1.length : Int)))))))] = L') ?_ (fun J150 => ?_)
      · rintro _ _ _ ⟨rfl, rfl, rfl⟩
        refine C_ret ?_
        obtain rfl := Option.some.inj hm
        refine E_weak hle123 ?_
        exact end1 rfl rfl ⟨rfl, rfl, rfl⟩
      · refine C_region ?_
        refine W_call Proofs.Try.call9 rfl rfl rfl (fun w ht => by have h := m_gridhallkeep4_orderFact_c (hm := hc149)  ht; exact h) ?_
        rintro _ _ _ ⟨rfl, rfl, rfl⟩
        refine W_move rfl rfl rfl ?_
        cases hb151 : (r148)
        · refine W_no rfl rfl rfl ?_
          refine W_no rfl rfl rfl ?_
          refine W_pick rfl rfl rfl rfl ?_
          refine W_move rfl rfl rfl ?_
          refine W_no rfl rfl rfl ?_
          refine W_no rfl rfl rfl ?_
          refine W_no rfl rfl rfl ?_
          refine W_no rfl rfl rfl ?_
          refine W_no rfl rfl rfl ?_
          refine W_no rfl rfl rfl ?_
          refine W_no rfl rfl rfl ?_
          refine W_no rfl rfl rfl ?_
          refine W_pick rfl rfl rfl rfl ?_
          refine W_assign rfl rfl rfl ?_
          refine W_end ?_
          refine E_drop (List.Sublist.cons _ (List.Sublist.cons _ (List.Sublist.cons _ (List.Sublist.refl _)))) ?_
          exact E_keepJ (J150 _ _ _ ⟨rfl, rfl, rfl⟩) (List.Perm.refl _) ⟨(by show some (Value.bool (false)) = some (Value.bool ((r148 && (decide (r134.2 = 0))) && (decide ((r134.1.length : Int) ≤ (IntKind.i64.wrap ((r124.1.length : Int) + (r129.1.length : Int))))))); simp only [hb141, hb151, Bool.and_true, Bool.true_and, Bool.false_and, Bool.and_false, Bool.or_true, Bool.true_or, Bool.or_false, Bool.false_or, Bool.not_true, Bool.not_false]), trivial⟩
        · refine W_move rfl rfl rfl ?_
          refine W_bin rfl rfl rfl rfl rfl ?_
          refine W_pick rfl rfl rfl rfl ?_
          refine W_move rfl rfl rfl ?_
          cases hb152 : (decide (r134.2 = 0))
          · refine W_no rfl rfl rfl ?_
            refine W_no rfl rfl rfl ?_
            refine W_no rfl rfl rfl ?_
            refine W_no rfl rfl rfl ?_
            refine W_no rfl rfl rfl ?_
            refine W_no rfl rfl rfl ?_
            refine W_no rfl rfl rfl ?_
            refine W_no rfl rfl rfl ?_
            refine W_pick rfl rfl rfl rfl ?_
            refine W_assign rfl rfl rfl ?_
            refine W_end ?_
            refine E_drop (List.Sublist.cons _ (List.Sublist.cons _ (List.Sublist.cons _ (List.Sublist.refl _)))) ?_
            exact E_keepJ (J150 _ _ _ ⟨rfl, rfl, rfl⟩) (List.Perm.refl _) ⟨(by show some (Value.bool (false)) = some (Value.bool ((r148 && (decide (r134.2 = 0))) && (decide ((r134.1.length : Int) ≤ (IntKind.i64.wrap ((r124.1.length : Int) + (r129.1.length : Int))))))); simp only [hb141, hb151, hb152, Bool.and_true, Bool.true_and, Bool.false_and, Bool.and_false, Bool.or_true, Bool.true_or, Bool.or_false, Bool.false_or, Bool.not_true, Bool.not_false]), trivial⟩
          · refine W_move rfl rfl rfl ?_
            refine W_lenO (List.mem_cons_self ..) rfl rfl Proofs.Try.runUnderlying25 rfl ?_
            refine W_move rfl rfl rfl ?_
            refine W_lenO (List.mem_cons_of_mem _ (List.mem_cons_of_mem _ (List.mem_cons_self ..))) rfl rfl Proofs.Try.runUnderlying25 rfl ?_
            refine W_move rfl rfl rfl ?_
            refine W_lenO (List.mem_cons_of_mem _ (List.mem_cons_self ..)) rfl rfl Proofs.Try.runUnderlying25 rfl ?_
            refine W_bin rfl rfl rfl rfl rfl ?_
            refine W_bin rfl rfl rfl rfl rfl ?_
            refine W_pick rfl rfl rfl rfl ?_
            refine W_assign rfl rfl rfl ?_
            refine W_end ?_
            refine E_drop (List.Sublist.cons _ (List.Sublist.cons _ (List.Sublist.cons _ (List.Sublist.refl _)))) ?_
            exact E_keepJ (J150 _ _ _ ⟨rfl, rfl, rfl⟩) (List.Perm.refl _) ⟨(by show some (Value.bool (decide ((r134.1.length : Int) ≤ (IntKind.i64.wrap ((r124.1.length : Int) + (r129.1.length : Int)))))) = some (Value.bool ((r148 && (decide (r134.2 = 0))) && (decide ((r134.1.length : Int) ≤ (IntKind.i64.wrap ((r124.1.length : Int) + (r129.1.length : Int))))))); simp only [hb141, hb151, hb152, Bool.and_true, Bool.true_and, Bool.false_and, Bool.and_false, Bool.or_true, Bool.true_or, Bool.or_false, Bool.false_or, Bool.not_true, Bool.not_false]), trivial⟩
  · refine C_region ?_
    refine W_move rfl rfl rfl ?_
    refine W_bin rfl rfl rfl rfl rfl ?_
    refine W_move rfl rfl rfl ?_
    cases hb153 : (decide (r124.2 = 0))
    · refine W_no rfl rfl rfl ?_
      refine W_no rfl rfl rfl ?_
      refine W_pick rfl rfl rfl rfl ?_
      refine W_end ?_
      exact E_keepJ (J140 _ _ _ ⟨rfl, rfl, rfl⟩) (List.Perm.refl _) ⟨rfl, rfl, rfl, rfl, (by show some (Value.bool (true)) = some (Value.bool ((!decide (r124.2 = 0)) || (!decide (r129.2 = 0)))); simp only [hb153, Bool.and_true, Bool.true_and, Bool.false_and, Bool.and_false, Bool.or_true, Bool.true_or, Bool.or_false, Bool.false_or, Bool.not_true, Bool.not_false]), trivial⟩
    · refine W_move rfl rfl rfl ?_
      refine W_bin rfl rfl rfl rfl rfl ?_
      refine W_pick rfl rfl rfl rfl ?_
      refine W_end ?_
      exact E_keepJ (J140 _ _ _ ⟨rfl, rfl, rfl⟩) (List.Perm.refl _) ⟨rfl, rfl, rfl, rfl, (by show some (Value.bool (!decide (r129.2 = 0))) = some (Value.bool ((!decide (r124.2 = 0)) || (!decide (r129.2 = 0)))); simp only [hb153, Bool.and_true, Bool.true_and, Bool.false_and, Bool.and_false, Bool.or_true, Bool.true_or, Bool.or_false, Bool.false_or, Bool.not_true, Bool.not_false]), trivial⟩

theorem m_gridhallref4_Cut_c {B : Nat} {w0 w : World} {H : Hp} {M : List Res} {p0_n : Int} {p1_low : Int} {p2_high : Int} {r : Int} (hm : m_gridhallref4_Cut p0_n p1_low p2_high = some r) (ht : St B w0 H (M) w) :
    Calls Proofs.Try.prog 10 [.int .i64 (p0_n), .int .i64 (p1_low), .int .i64 (p2_high)].toArray w (Ret B w0 fun H' M' v => H = H' ∧ M = M' ∧ .int .i64 (r) = v) := by
  unfold m_gridhallref4_Cut at hm
  refine enter Proofs.Try.func10 rfl rfl rfl ht ?_
  refine C_seq ?_
  refine C_region ?_
  refine W_assign rfl rfl rfl ?_
  refine W_end ?_
  refine E_then ?_
  refine C_seq ?_
  refine C_region ?_
  refine W_move rfl rfl rfl ?_
  refine W_move rfl rfl rfl ?_
  refine W_bin rfl rfl rfl rfl rfl ?_
  refine W_bin rfl rfl rfl rfl rfl ?_
  refine W_assign rfl rfl rfl ?_
  refine W_end ?_
  refine E_then ?_
  refine C_seq ?_
  refine C_region ?_
  refine W_move rfl rfl rfl ?_
  refine W_move rfl rfl rfl ?_
  obtain ⟨hq101, hm⟩ := need_some hm
  refine W_rem rfl rfl rfl rfl hq101 ?_
  refine W_assign rfl rfl rfl ?_
  refine W_end ?_
  refine E_then ?_
  refine C_seq_join (fun H' M' L' => ∃ n103 : Int, m_gridhallref4_Cut_b1 p1_low n103 = some r ∧ H = H' ∧ M = M' ∧ [(0, .int .i64 (n103)), (1, .int .i64 (p1_low))] = L') ?_ (fun J104 => ?_)
  · rintro _ _ _ ⟨n103, hm, rfl, rfl, rfl⟩
    unfold m_gridhallref4_Cut_b1 at hm
    refine C_seq ?_
    refine C_region ?_
    refine W_move rfl rfl rfl ?_
    refine W_move rfl rfl rfl ?_
    refine W_bin rfl rfl rfl rfl rfl ?_
    refine W_assign rfl rfl rfl ?_
    refine W_end ?_
    refine E_then ?_
    refine C_ret ?_
    obtain rfl := Option.some.inj hm
    refine E_weak (Hp.le_refl _) ?_
    exact end1 rfl rfl ⟨rfl, rfl, rfl⟩
  · refine C_seq ?_
    refine C_region ?_
    refine W_move rfl rfl rfl ?_
    refine W_bin rfl rfl rfl rfl rfl ?_
    refine W_end ?_
    refine E_then ?_
    refine C_cond (b := decide ((Int.tmod p0_n (IntKind.i64.wrap ((IntKind.i64.wrap (p2_high - p1_low)) + 1))) < 0)) rfl (fun hb105 => ?_) (fun hb105 => ?_)
    · have hm := ite_t' hb105 hm
      refine C_region ?_
      refine W_move rfl rfl rfl ?_
      refine W_move rfl rfl rfl ?_
      refine W_bin rfl rfl rfl rfl rfl ?_
      refine W_assign rfl rfl rfl ?_
      refine W_end ?_
      exact E_keepJ (J104 _ _ _ ⟨IntKind.i64.wrap ((Int.tmod p0_n (IntKind.i64.wrap ((IntKind.i64.wrap (p2_high - p1_low)) + 1))) + (IntKind.i64.wrap ((IntKind.i64.wrap (p2_high - p1_low)) + 1))), hm, rfl, rfl, rfl⟩) (List.Perm.refl _) ⟨rfl, rfl, trivial⟩
    · have hm := ite_f' hb105 hm
      refine C_skip ?_
      exact E_keepJ (J104 _ _ _ ⟨Int.tmod p0_n (IntKind.i64.wrap ((IntKind.i64.wrap (p2_high - p1_low)) + 1)), hm, rfl, rfl, rfl⟩) (List.Perm.refl _) ⟨rfl, rfl, trivial⟩

theorem m_gridhallkeep4_OrderHeld_1_c {B : Nat} {w0 w : World} {H : Hp} {M : List Res} {p0_s : S_api_OrderStep} {p1_c1 : (List S_api_InterlockState)} {p2_c2 : Int} {b0 : Nat} {v0 : Value} {b1 : Nat} {r : Bool} (hm : m_gridhallkeep4_OrderHeld_1 p0_s p1_c1 p2_c2 = some r) (h0 : RdS H v0 p1_c1) (ht : St B w0 H (.obj b0 (.cells [v0].toArray 23 (0, 0)) :: .obj b1 (.cells [.int .i64 (p2_c2)].toArray 3 (0, 0)) :: M) w) :
    Calls Proofs.Try.prog 12 [.agg [.bool (p0_s.Close), .string (p0_s.Switch)].toArray, .pointer (some ⟨b0, 0, none⟩), .pointer (some ⟨b1, 0, none⟩)].toArray w (Ret B w0 fun H' M' v => H = H' ∧ .obj b0 (.cells [v0].toArray 23 (0, 0)) :: .obj b1 (.cells [.int .i64 (p2_c2)].toArray 3 (0, 0)) :: M = M' ∧ .bool (r) = v) := by
  unfold m_gridhallkeep4_OrderHeld_1 at hm
  refine enter Proofs.Try.func12 rfl rfl rfl ht ?_
  refine C_seq ?_
  refine C_region ?_
  refine W_box (cs := [.bool (p0_s.Close), .string (p0_s.Switch)]) rfl rfl rfl rfl (fun b101 => ?_)
  refine W_assign rfl rfl rfl ?_
  refine W_end ?_
  refine E_then ?_
  refine C_seq ?_
  obtain ⟨y102, h103, he104, hm⟩ := idx_some hm
  obtain ⟨_, ⟨rfl⟩, hc105⟩ := (h0).elem he104
  refine C_region_tok0 7 (phiT [(fun H rs v => [] = rs ∧ .pointer (some ⟨b101, 1, none⟩) = v), (fun H rs v => [] = rs ∧ .string (p0_s.Switch) = v), (fun H rs v => [] = rs ∧ v0 = v), (fun H rs v => [] = rs ∧ .int .i64 (p2_c2) = v), (fun H rs v => [] = rs ∧ .pointer (some ((Value.base (v0)).add ((p2_c2 : Int).toNat * 2))) = v), (fun H rs v => [] = rs ∧ .pointer (some ((Value.base (v0)).add ((p2_c2 : Int).toNat * 2))) = v), (fun H rs v => [] = rs ∧ .string (y102.Name) = v)]) [[], [], [], [], [], [], []] [[], [], [], [], [], [], []] [] [0, 1, 2, 3, 4, 5, 6] Facts.mixed (by kernel_rfl) rfl rfl rfl (by kernel_rfl) (phiT_mono ⟨eq_monoT _ _, eq_monoT _ _, eq_monoT _ _, eq_monoT _ _, eq_monoT _ _, eq_monoT _ _, eq_monoT _ _, trivial⟩) ⟨?_, ?_, ?_, ?_, ?_, ?_, ?_, trivial⟩ ?_
  · intro HX hX X Rest hR
    intro hU
    refine W_field (o := 1) rfl rfl Proofs.Try.runUnderlying36 rfl Proofs.Try.sizeOf9 rfl rfl rfl ?_
    exact W_end (OneT_end [] (Hp.le_refl _) ⟨rfl, rfl⟩)
  · intro HX hX X Rest hR
    rintro _ _ ⟨rfl, rfl⟩
    intro hU
    refine W_load rfl rfl Proofs.Try.isAgg9 rfl (own_at (hR _ (List.mem_cons_self ..)) rfl) ?_
    exact W_end (OneT_end [] (Hp.le_refl _) ⟨rfl, rfl⟩)
  · intro HX hX X Rest hR
    intro hU
    refine W_load rfl rfl Proofs.Try.isAgg23 rfl (own_at (hR _ (List.mem_cons_of_mem _ (List.mem_cons_self ..))) rfl) ?_
    exact W_end (OneT_end [] (Hp.le_refl _) ⟨rfl, rfl⟩)
  · intro HX hX X Rest hR
    intro hU
    refine W_load rfl rfl Proofs.Try.isAgg3 rfl (own_at (hR _ (List.mem_cons_of_mem _ (List.mem_cons_of_mem _ (List.mem_cons_self ..)))) rfl) ?_
    exact W_end (OneT_end [] (Hp.le_refl _) ⟨rfl, rfl⟩)
  · intro HX hX X Rest hR
    rintro _ _ ⟨rfl, rfl⟩
    rintro _ _ ⟨rfl, rfl⟩
    intro hU
    refine W_indexS rfl rfl Proofs.Try.runUnderlying23 Proofs.Try.sizeOf33 rfl (h0.mono hX) rfl h103 he104 ?_
    exact W_end (OneT_end [] (Hp.le_refl _) ⟨rfl, rfl⟩)
  · intro HX hX X Rest hR
    rintro _ _ ⟨rfl, rfl⟩
    intro hU
    refine W_field (o := 0) rfl rfl Proofs.Try.runUnderlying33 rfl Proofs.Try.sizeOf9 rfl rfl rfl ?_
    exact W_end (OneT_end [] (Hp.le_refl _) ⟨rfl, rfl⟩)
  · intro HX hX X Rest hR
    rintro _ _ ⟨rfl, rfl⟩
    intro hU
    refine W_load rfl rfl Proofs.Try.isAgg9 rfl (HCells.one (hc105.mono hX) 0 rfl).at ?_
    exact W_end (OneT_end [] (Hp.le_refl _) ⟨rfl, rfl⟩)
  intro H106 hle107
  rintro _ _ ⟨rfl, rfl⟩
  rintro _ _ ⟨rfl, rfl⟩
  rintro _ _ ⟨rfl, rfl⟩
  rintro _ _ ⟨rfl, rfl⟩
  rintro _ _ ⟨rfl, rfl⟩
  rintro _ _ ⟨rfl, rfl⟩
  rintro _ _ ⟨rfl, rfl⟩
  refine W_bin rfl rfl rfl rfl rfl ?_
  refine W_assign rfl rfl rfl ?_
  refine W_end ?_
  refine E_then ?_
  refine C_ret ?_
  obtain rfl := Option.some.inj hm
  refine E_drop (List.Sublist.cons _ (List.Sublist.refl _)) ?_
  refine E_weak hle107 ?_
  exact end1 rfl rfl ⟨rfl, rfl, rfl⟩

theorem m_slices_IndexFunc_api_OrderStep_api_OrderStep__gridhallkeep4_OrderHeld_1_c {B : Nat} {w0 w : World} {H : Hp} {M : List Res} {p0_s : (List S_api_OrderStep)} {p1_f_0 : (List S_api_InterlockState)} {p1_f_1 : Int} {v0 : Value} {b0 : Nat} {v1 : Value} {b1 : Nat} {r : Int} (hm : m_slices_IndexFunc_api_OrderStep_api_OrderStep__gridhallkeep4_OrderHeld_1 p0_s p1_f_0 p1_f_1 = some r) (h0 : RdS H v0 p0_s) (h1 : RdS H v1 p1_f_0) (ht : St B w0 H (.obj b0 (.cells [v1].toArray 23 (0, 0)) :: .obj b1 (.cells [.int .i64 (p1_f_1)].toArray 3 (0, 0)) :: M) w) :
    Calls Proofs.Try.prog 22 [v0, .func (.func 12) [].toArray [.pointer (some ⟨b0, 0, none⟩), .pointer (some ⟨b1, 0, none⟩)].toArray].toArray w (Ret B w0 fun H' M' v => H = H' ∧ .obj b0 (.cells [v1].toArray 23 (0, 0)) :: .obj b1 (.cells [.int .i64 (p1_f_1)].toArray 3 (0, 0)) :: M = M' ∧ .int .i64 (r) = v) := by
  unfold m_slices_IndexFunc_api_OrderStep_api_OrderStep__gridhallkeep4_OrderHeld_1 at hm
  refine enter Proofs.Try.func22 rfl rfl rfl ht ?_
  refine C_seq ?_
  refine C_region ?_
  refine W_assign rfl rfl rfl ?_
  refine W_end ?_
  refine E_then ?_
  refine C_seq ?_
  refine C_seq ?_
  refine C_region ?_
  refine W_move rfl rfl rfl ?_
  refine W_lenR rfl rfl Proofs.Try.runUnderlying25 rfl h0 ?_
  refine W_move rfl rfl rfl ?_
  refine W_end ?_
  refine E_then ?_
  refine C_block ?_
  refine C_keep (L' := [(0, v0), (1, .func (.func 12) [].toArray [.pointer (some ⟨b0, 0, none⟩), .pointer (some ⟨b1, 0, none⟩)].toArray), (7, .int .i64 ((p0_s.length : Int))), (8, .int .i64 (((0 : Nat) : Int)))]) ⟨rfl, rfl, rfl, rfl, trivial⟩ (List.Perm.refl _) ?_
  refine C_loop (fun n H' M' L' => ∃ (k101 : Nat) (zs123' : Nat), k101 + zs123' = ((p0_s.length : Int) : Int).toNat ∧ zs123' = n ∧ forN (fun k s118 n => m_slices_IndexFunc_api_OrderStep_api_OrderStep__gridhallkeep4_OrderHeld_1_b1 p0_s p1_f_0 p1_f_1 k n) (fun _ => some ((-1))) zs123' k101 () = some r ∧ H.le H' ∧ .obj b0 (.cells [v1].toArray 23 (0, 0)) :: .obj b1 (.cells [.int .i64 (p1_f_1)].toArray 3 (0, 0)) :: M = M' ∧ [(0, v0), (1, .func (.func 12) [].toArray [.pointer (some ⟨b0, 0, none⟩), .pointer (some ⟨b1, 0, none⟩)].toArray), (7, .int .i64 ((p0_s.length : Int))), (8, .int .i64 ((k101 : Int)))] = L') _ ⟨0, _, Nat.zero_add _, rfl, hm, (Hp.le_refl _), rfl, rfl⟩ ?_
  rintro _ H116 _ _ ⟨k101, zs123', hd125, rfl, hm, hle117, rfl, rfl⟩
  refine C_seq ?_
  refine C_region ?_
  refine W_bin rfl rfl rfl rfl rfl ?_
  refine W_end (E_then ?_)
  refine C_seq ?_
  refine C_cond (b := decide ((k101 : Int) < (p0_s.length : Int))) rfl (fun hb127 => ?_) (fun hb127 => ?_)
  · obtain ⟨zs123, rfl, hd126, hy124⟩ := rngN_t hd125 hb127
    have hm : m_slices_IndexFunc_api_OrderStep_api_OrderStep__gridhallkeep4_OrderHeld_1_b1 p0_s p1_f_0 p1_f_1 k101 (forN (fun k s118 n => m_slices_IndexFunc_api_OrderStep_api_OrderStep__gridhallkeep4_OrderHeld_1_b1 p0_s p1_f_0 p1_f_1 k n) (fun _ => some ((-1))) zs123 (k101 + 1)) = some r := hm
    generalize hn120 : forN (fun k s118 n => m_slices_IndexFunc_api_OrderStep_api_OrderStep__gridhallkeep4_OrderHeld_1_b1 p0_s p1_f_0 p1_f_1 k n) (fun _ => some ((-1))) zs123 (k101 + 1) = nx119 at hm
    unfold m_slices_IndexFunc_api_OrderStep_api_OrderStep__gridhallkeep4_OrderHeld_1_b1 at hm
    refine C_skip (E_then ?_)
    refine C_seq ?_
    refine C_block ?_
    refine C_seq ?_
    refine C_region ?_
    refine W_move rfl rfl rfl ?_
    refine W_assign rfl rfl rfl ?_
    refine W_end ?_
    refine E_then ?_
    refine C_seq ?_
    refine C_region ?_
    refine W_move rfl rfl rfl ?_
    refine W_move rfl rfl rfl ?_
    refine W_move rfl rfl rfl ?_
    obtain ⟨y128, h129, he130, hm⟩ := idx_some hm
    obtain ⟨_, ⟨rfl⟩, hc131⟩ := (h0).elem he130
    refine W_indexS rfl rfl Proofs.Try.runUnderlying25 Proofs.Try.sizeOf36 rfl (h0.mono hle117) rfl h129 he130 ?_
    refine W_loadAgg rfl rfl Proofs.Try.isAgg36 Proofs.Try.sizeOf36 rfl (hc131.mono hle117).at rfl ?_
    obtain ⟨r132, hc133, hm⟩ := bind_some hm
    refine W_callv Proofs.Try.call12 rfl rfl rfl rfl (fun w ht => by have h := m_gridhallkeep4_OrderHeld_1_c (hm := hc133) (h1.mono hle117) ht; exact h) ?_
    rintro _ _ _ ⟨rfl, rfl, rfl⟩
    refine W_end ?_
    refine E_then ?_
    refine C_cond (b := r132) rfl (fun hb134 => ?_) (fun hb134 => ?_)
    · have hm := ite_t' hb134 hm
      refine C_seq ?_
      refine C_region ?_
      refine W_move rfl rfl rfl ?_
      refine W_assign rfl rfl rfl ?_
      refine W_end ?_
      refine E_then ?_
      refine C_ret ?_
      refine E_ret_block ?_
      refine E_ret_then ?_
      refine E_ret_then ?_
      refine E_ret_block ?_
      refine E_ret_then ?_
      obtain rfl := Option.some.inj hm
      refine E_weak hle117 ?_
      exact end1 rfl rfl ⟨rfl, rfl, rfl⟩
    · have hm := ite_f' hb134 hm
      refine C_skip ?_
      refine E_normal_block ?_
      refine E_then ?_
      refine C_region ?_
      refine W_bin rfl rfl rfl rfl rfl ?_
      refine W_move rfl rfl rfl ?_
      refine W_end ?_
      exact E_keepJ (E_back (Nat.lt_succ_self _) ⟨k101 + 1, zs123, hd126, rfl, (by rw [hn120]; exact hm), hle117, rfl, rfl⟩) (List.Perm.refl _) ⟨rfl, rfl, rfl, (congrArg (fun z => some (Value.int .i64 z)) (i64_succN hy124 (toNat_max (len_max (h0).lenMax)))), trivial⟩
  · obtain rfl := rngN_f hd125 hb127
    have hm : (some ((-1))) = some r := hm
    refine C_exit (E_exit_then ?_)
    refine E_exit_then ?_
    refine E_exit_hit ?_
    refine E_then ?_
    refine C_seq ?_
    refine C_region ?_
    refine W_assign rfl rfl rfl ?_
    refine W_end ?_
    refine E_then ?_
    refine C_ret ?_
    obtain rfl := Option.some.inj hm
    refine E_weak hle117 ?_
    exact end1 rfl rfl ⟨rfl, rfl, rfl⟩

theorem m_slices_ContainsFunc_api_OrderStep_api_OrderStep__gridhallkeep4_OrderHeld_1_c {B : Nat} {w0 w : World} {H : Hp} {M : List Res} {p0_s : (List S_api_OrderStep)} {p1_f_0 : (List S_api_InterlockState)} {p1_f_1 : Int} {v0 : Value} {b0 : Nat} {v1 : Value} {b1 : Nat} {r : Bool} (hm : m_slices_ContainsFunc_api_OrderStep_api_OrderStep__gridhallkeep4_OrderHeld_1 p0_s p1_f_0 p1_f_1 = some r) (h0 : RdS H v0 p0_s) (h1 : RdS H v1 p1_f_0) (ht : St B w0 H (.obj b0 (.cells [v1].toArray 23 (0, 0)) :: .obj b1 (.cells [.int .i64 (p1_f_1)].toArray 3 (0, 0)) :: M) w) :
    Calls Proofs.Try.prog 11 [v0, .func (.func 12) [].toArray [.pointer (some ⟨b0, 0, none⟩), .pointer (some ⟨b1, 0, none⟩)].toArray].toArray w (Ret B w0 fun H' M' v => H = H' ∧ .obj b0 (.cells [v1].toArray 23 (0, 0)) :: .obj b1 (.cells [.int .i64 (p1_f_1)].toArray 3 (0, 0)) :: M = M' ∧ .bool (r) = v) := by
  unfold m_slices_ContainsFunc_api_OrderStep_api_OrderStep__gridhallkeep4_OrderHeld_1 at hm
  refine enter Proofs.Try.func11 rfl rfl rfl ht ?_
  refine C_seq ?_
  refine C_region ?_
  refine W_assign rfl rfl rfl ?_
  refine W_end ?_
  refine E_then ?_
  refine C_seq ?_
  refine C_region ?_
  refine W_move rfl rfl rfl ?_
  refine W_move rfl rfl rfl ?_
  obtain ⟨r101, hc102, hm⟩ := bind_some hm
  refine W_call Proofs.Try.call22 rfl rfl rfl (fun w ht => by have h := m_slices_IndexFunc_api_OrderStep_api_OrderStep__gridhallkeep4_OrderHeld_1_c (hm := hc102) h0 h1 ht; exact h) ?_
  rintro _ _ _ ⟨rfl, rfl, rfl⟩
  refine W_bin rfl rfl rfl rfl rfl ?_
  refine W_assign rfl rfl rfl ?_
  refine W_end ?_
  refine E_then ?_
  refine C_ret ?_
  obtain rfl := Option.some.inj hm
  refine E_weak (Hp.le_refl _) ?_
  exact end1 rfl rfl ⟨rfl, rfl, rfl⟩

theorem m_gridhallkeep4_OrderHeld_c {B : Nat} {w0 w : World} {H : Hp} {M : List Res} {rules : (List S_api_InterlockRule)} {p1_from : (List S_api_InterlockState)} {to : (List S_api_InterlockState)} {p3_k : Int} {v0 : Value} {v1 : Value} {v2 : Value} {r : Bool} (hm : m_gridhallkeep4_OrderHeld rules p1_from to p3_k = some r) (h0 : RdS H v0 rules) (h1 : RdS H v1 p1_from) (h2 : RdS H v2 to) (ht : St B w0 H (M) w) :
    Calls Proofs.Try.prog 4 [v0, v1, v2, .int .i64 (p3_k)].toArray w (Ret B w0 fun H' M' v => H = H' ∧ M = M' ∧ .bool (r) = v) := by
  unfold m_gridhallkeep4_OrderHeld at hm
  refine enter Proofs.Try.func4 rfl rfl rfl ht ?_
  refine C_seq ?_
  refine C_region ?_
  refine W_box (cs := [v1]) rfl rfl rfl (RdS.cells h1) (fun b101 => ?_)
  refine W_box (cs := [.int .i64 (p3_k)]) rfl rfl rfl rfl (fun b102 => ?_)
  refine W_assign rfl rfl rfl ?_
  refine W_end ?_
  refine E_then ?_
  refine C_seq ?_
  obtain ⟨hz103, hm⟩ := need_some hm
  obtain ⟨hz107, hm⟩ := need_some hm
  refine C_perm (List.Perm.swap _ _ _) ?_
  refine C_as (M' := [[.obj b101 (.cells [v1].toArray 23 (0, 0))]].flatten ++ (.obj b102 (.cells [.int .i64 (p3_k)].toArray 3 (0, 0)) :: M)) rfl ?_
  refine C_region_tok0 11 (phiT [(fun H rs v => [] = rs ∧ v1 = v), (fun H rs v => [] = rs ∧ v1 = v), (fun H rs v => [] = rs ∧ .int .i64 ((p1_from.length : Int)) = v), (fun H rs v => [] = rs ∧ .int .i64 (min (p1_from.length : Int) 6) = v), (fun H rs v => ∃ v111 : Value, [] = rs ∧ v111 = v ∧ RdS H v111 (slc p1_from 0 ((min (p1_from.length : Int) 6 : Int).toNat))), (fun H rs v => [] = rs ∧ v2 = v), (fun H rs v => [] = rs ∧ v2 = v), (fun H rs v => [] = rs ∧ .int .i64 ((to.length : Int)) = v), (fun H rs v => [] = rs ∧ .int .i64 (min (to.length : Int) 6) = v), (fun H rs v => ∃ v114 : Value, [] = rs ∧ v114 = v ∧ RdS H v114 (slc to 0 ((min (to.length : Int) 6 : Int).toNat))), (fun H rs v => ∃ v111 : Value, [.obj b101 (.cells [v111].toArray 23 (0, 0))] = rs ∧ undef = v ∧ RdS H v111 (slc p1_from 0 ((min (p1_from.length : Int) 6 : Int).toNat)))]) [[], [], [], [], [], [], [], [], [], [], [11]] [[11], [11], [], [], [], [], [], [], [], [], []] [[.obj b101 (.cells [v1].toArray 23 (0, 0))]] [0, 1, 2, 3, 4, 5, 6, 7, 8, 9, 10] Facts.mixed (by kernel_rfl) rfl rfl rfl (by kernel_rfl) (phiT_mono ⟨eq_monoT _ _, eq_monoT _ _, eq_monoT _ _, eq_monoT _ _, (by rintro H1 H2 rs v hle ⟨v111, rfl, rfl, h112⟩; exact ⟨v111, rfl, rfl, (h112.mono hle)⟩), eq_monoT _ _, eq_monoT _ _, eq_monoT _ _, eq_monoT _ _, (by rintro H1 H2 rs v hle ⟨v114, rfl, rfl, h115⟩; exact ⟨v114, rfl, rfl, (h115.mono hle)⟩), (by rintro H1 H2 rs v hle ⟨v111, rfl, hv_, h112⟩; exact ⟨v111, rfl, hv_, (h112.mono hle)⟩), trivial⟩) ⟨?_, ?_, ?_, ?_, ?_, ?_, ?_, ?_, ?_, ?_, ?_, trivial⟩ ?_
  · intro HX hX X Rest hR
    intro hU
    have hU2 : ∀ s ∈ [.obj b101 (.cells [v1].toArray 23 (0, 0))], s ∈ Rest := hU
    refine W_load rfl rfl Proofs.Try.isAgg23 rfl (own_at (hU2 _ (List.mem_cons_self ..)) rfl) ?_
    exact W_end (OneT_end [] (Hp.le_refl _) ⟨rfl, rfl⟩)
  · intro HX hX X Rest hR
    intro hU
    have hU2 : ∀ s ∈ [.obj b101 (.cells [v1].toArray 23 (0, 0))], s ∈ Rest := hU
    refine W_load rfl rfl Proofs.Try.isAgg23 rfl (own_at (hU2 _ (List.mem_cons_self ..)) rfl) ?_
    exact W_end (OneT_end [] (Hp.le_refl _) ⟨rfl, rfl⟩)
  · intro HX hX X Rest hR
    rintro _ _ ⟨rfl, rfl⟩
    intro hU
    refine W_lenR rfl rfl Proofs.Try.runUnderlying23 rfl (h1.mono hX) ?_
    exact W_end (OneT_end [] (Hp.le_refl _) ⟨rfl, rfl⟩)
  · intro HX hX X Rest hR
    rintro _ _ ⟨rfl, rfl⟩
    intro hU
    refine W_min rfl rfl rfl rfl ?_
    exact W_end (OneT_end [] (Hp.le_refl _) ⟨rfl, rfl⟩)
  · intro HX hX X Rest hR
    rintro _ _ ⟨rfl, rfl⟩
    rintro _ _ ⟨rfl, rfl⟩
    intro hU
    refine W_sliceR (α := S_api_InterlockState) (l := 0) (h := (min (p1_from.length : Int) 6 : Int).toNat) (xs := p1_from) rfl rfl Proofs.Try.runUnderlying23 Proofs.Try.sizeOf33 rfl (h1.mono hX) (by omega) (by omega) (.inl rfl) (fun cap hcap => by rw [if_pos rfl]; exact (.inl ⟨rfl, rfl⟩)) (fun m hmm => (.inr ⟨_, _, _, rfl, rfl, by omega, by omega, rfl⟩)) (.inl ⟨rfl, rfl⟩) ?_
    intro v111 h112 hc113
    exact W_end (OneT_end [] (Hp.le_refl _) ⟨v111, rfl, rfl, (h112)⟩)
  · intro HX hX X Rest hR
    intro hU
    refine W_move rfl rfl rfl ?_
    exact W_end (OneT_end [] (Hp.le_refl _) ⟨rfl, rfl⟩)
  · intro HX hX X Rest hR
    intro hU
    refine W_move rfl rfl rfl ?_
    exact W_end (OneT_end [] (Hp.le_refl _) ⟨rfl, rfl⟩)
  · intro HX hX X Rest hR
    rintro _ _ ⟨rfl, rfl⟩
    intro hU
    refine W_lenR rfl rfl Proofs.Try.runUnderlying23 rfl (h2.mono hX) ?_
    exact W_end (OneT_end [] (Hp.le_refl _) ⟨rfl, rfl⟩)
  · intro HX hX X Rest hR
    rintro _ _ ⟨rfl, rfl⟩
    intro hU
    refine W_min rfl rfl rfl rfl ?_
    exact W_end (OneT_end [] (Hp.le_refl _) ⟨rfl, rfl⟩)
  · intro HX hX X Rest hR
    rintro _ _ ⟨rfl, rfl⟩
    rintro _ _ ⟨rfl, rfl⟩
    intro hU
    refine W_sliceR (α := S_api_InterlockState) (l := 0) (h := (min (to.length : Int) 6 : Int).toNat) (xs := to) rfl rfl Proofs.Try.runUnderlying23 Proofs.Try.sizeOf33 rfl (h2.mono hX) (by omega) (by omega) (.inl rfl) (fun cap hcap => by rw [if_pos rfl]; exact (.inl ⟨rfl, rfl⟩)) (fun m hmm => (.inr ⟨_, _, _, rfl, rfl, by omega, by omega, rfl⟩)) (.inl ⟨rfl, rfl⟩) ?_
    intro v114 h115 hc116
    exact W_end (OneT_end [] (Hp.le_refl _) ⟨v114, rfl, rfl, (h115)⟩)
  · intro HX hX X Rest hR
    rintro _ _ ⟨v111, rfl, rfl, h112⟩
    rintro _ _ ⟨rfl, rfl⟩
    rintro _ _ ⟨rfl, rfl⟩
    rintro _ _ ⟨rfl, rfl⟩
    rintro _ _ ⟨rfl, rfl⟩
    rintro _ _ ⟨v111, rfl, rfl, h112⟩
    intro hU
    refine W_as (M' := .obj b101 (.cells [v1].toArray 23 (0, 0)) :: Rest) rfl ?_
    refine W_store (cs := [v111]) (out := [v111]) rfl Proofs.Try.sizeOf23 rfl rfl (RdS.cells h112) rfl rfl (all_cons (RdS.one1 h112) all_nil) (over_all rfl) ?_
    exact W_end (OneT_end_ [.obj b101 (.cells [v111].toArray 23 (0, 0))] (Hp.le_refl _) ⟨v111, rfl, rfl, (h112)⟩)
  intro H117 hle118
  rintro _ _ ⟨rfl, rfl⟩
  rintro _ _ ⟨rfl, rfl⟩
  rintro _ _ ⟨rfl, rfl⟩
  rintro _ _ ⟨rfl, rfl⟩
  rintro _ _ ⟨v111, rfl, rfl, h112⟩
  rintro _ _ ⟨rfl, rfl⟩
  rintro _ _ ⟨rfl, rfl⟩
  rintro _ _ ⟨rfl, rfl⟩
  rintro _ _ ⟨rfl, rfl⟩
  rintro _ _ ⟨v114, rfl, rfl, h115⟩
  rintro _ ⟨v111, rfl, _, h112⟩
  refine W_as (M' := .obj b101 (.cells [v111].toArray 23 (0, 0)) :: .obj b102 (.cells [.int .i64 (p3_k)].toArray 3 (0, 0)) :: M) rfl ?_
  refine W_assign rfl rfl rfl ?_
  refine W_end ?_
  refine E_then ?_
  refine C_seq ?_
  refine C_seq ?_
  refine C_region ?_
  refine W_load rfl rfl Proofs.Try.isAgg23 rfl (own_at (List.mem_cons_self ..) rfl) ?_
  refine W_lenR rfl rfl Proofs.Try.runUnderlying23 rfl h112 ?_
  refine W_bin rfl rfl rfl rfl rfl ?_
  refine W_end ?_
  refine E_then ?_
  refine C_cond (b := decide (((slc p1_from 0 ((min (p1_from.length : Int) 6 : Int).toNat)).length : Int) = 0)) rfl (fun hb119 => ?_) (fun hb119 => ?_)
  · have hm := ite_t' hb119 hm
    refine C_seq ?_
    refine C_region ?_
    obtain ⟨r120, hc121, hm⟩ := bind_some hm
    refine W_call Proofs.Try.call9 rfl rfl rfl (fun w ht => by have h := m_gridhallkeep4_orderFact_c (hm := hc121)  ht; exact h) ?_
    rintro _ _ _ ⟨rfl, rfl, rfl⟩
    refine W_assign rfl rfl rfl ?_
    refine W_end ?_
    refine E_then ?_
    refine C_ret ?_
    refine E_ret_then ?_
    obtain rfl := Option.some.inj hm
    refine E_drop (List.Sublist.cons _ (List.Sublist.cons _ (List.Sublist.refl _))) ?_
    refine E_weak hle118 ?_
    exact end1 rfl rfl ⟨rfl, rfl, rfl⟩
  · have hm := ite_f' hb119 hm
    refine C_skip ?_
    refine E_then ?_
    refine C_seq ?_
    refine C_region ?_
    refine W_load rfl rfl Proofs.Try.isAgg3 rfl (own_at (List.mem_cons_of_mem _ (List.mem_cons_self ..)) rfl) ?_
    refine W_load rfl rfl Proofs.Try.isAgg23 rfl (own_at (List.mem_cons_self ..) rfl) ?_
    refine W_lenR rfl rfl Proofs.Try.runUnderlying23 rfl h112 ?_
    refine W_bin rfl rfl rfl rfl rfl ?_
    obtain ⟨r122, hc123, hm⟩ := bind_some hm
    refine W_call Proofs.Try.call10 rfl rfl rfl (fun w ht => by have h := m_gridhallref4_Cut_c (hm := hc123)  ht; exact h) ?_
    rintro _ _ _ ⟨rfl, rfl, rfl⟩
    refine W_perm (List.Perm.swap _ _ _) ?_
    refine W_store (cs := [.int .i64 (r122)]) (out := [.int .i64 (r122)]) rfl Proofs.Try.sizeOf3 rfl rfl rfl rfl rfl (all_cons rfl all_nil) (over_all rfl) ?_
    refine W_end ?_
    refine E_then ?_
    refine C_seq ?_
    obtain ⟨y124, h125, he126, hm⟩ := idx_some hm
    obtain ⟨_, ⟨rfl⟩, hc127⟩ := (h112).elem he126
    obtain ⟨r131, hc132, hm⟩ := bind_some hm
    refine C_region_tok0 14 (phiT [(fun H rs v => [] = rs ∧ v0 = v), (fun H rs v => [] = rs ∧ v111 = v), (fun H rs v => [] = rs ∧ v114 = v), (fun H rs v => [] = rs ∧ v111 = v), (fun H rs v => [] = rs ∧ .int .i64 (r122) = v), (fun H rs v => [] = rs ∧ .pointer (some ((Value.base (v111)).add ((r122 : Int).toNat * 2))) = v), (fun H rs v => [] = rs ∧ .pointer (some ((Value.base (v111)).add ((r122 : Int).toNat * 2))) = v), (fun H rs v => [] = rs ∧ .string (y124.Name) = v), (fun H rs v => ∃ v136 : Value, ∃ xs137 : List Value, [.row v136 9 (Rep.sz ByteArray) ([y124.Name]).length xs137] = rs ∧ v136 = v ∧ Rw H v136 xs137 ([y124.Name])), (fun H rs v => ∃ v136 : Value, ∃ xs137 : List Value, ∃ v139 : Value, ∃ xs140 : List Value, [.row v136 9 (Rep.sz ByteArray) ([y124.Name]).length xs137, .row v139 36 (Rep.sz S_api_OrderStep) r131.1.length xs140] = rs ∧ .tuple #[v139, .int .i64 (r131.2)] = v ∧ Rw H v136 xs137 ([y124.Name]) ∧ Rw H v139 xs140 r131.1), (fun H rs v => ∃ v136 : Value, ∃ xs137 : List Value, ∃ v139 : Value, ∃ xs140 : List Value, [.row v136 9 (Rep.sz ByteArray) ([y124.Name]).length xs137, .row v139 36 (Rep.sz S_api_OrderStep) r131.1.length xs140] = rs ∧ .tuple #[v139, .int .i64 (r131.2)] = v ∧ Rw H v136 xs137 ([y124.Name]) ∧ Rw H v139 xs140 r131.1), (fun H rs v => ∃ v136 : Value, ∃ xs137 : List Value, ∃ v139 : Value, ∃ xs140 : List Value, [.row v136 9 (Rep.sz ByteArray) ([y124.Name]).length xs137, .row v139 36 (Rep.sz S_api_OrderStep) r131.1.length xs140] = rs ∧ v139 = v ∧ Rw H v136 xs137 ([y124.Name]) ∧ Rw H v139 xs140 r131.1), (fun H rs v => [] = rs ∧ .int .i64 (r131.2) = v), (fun H rs v => ∃ v136 : Value, ∃ xs137 : List Value, ∃ v139 : Value, ∃ xs140 : List Value, [.row v136 9 (Rep.sz ByteArray) ([y124.Name]).length xs137, .row v139 36 (Rep.sz S_api_OrderStep) r131.1.length xs140] = rs ∧ v139 = v ∧ Rw H v136 xs137 ([y124.Name]) ∧ Rw H v139 xs140 r131.1)]) [[], [], [], [], [], [], [], [], [], [8], [9], [10], [], [11]] [[], [], [], [], [], [], [], [], [], [], [], [], [], []] [] [0, 1, 2, 3, 4, 5, 6, 7, 12, 13] Facts.mixed (by kernel_rfl) rfl rfl rfl (by kernel_rfl) (phiT_mono ⟨eq_monoT _ _, eq_monoT _ _, eq_monoT _ _, eq_monoT _ _, eq_monoT _ _, eq_monoT _ _, eq_monoT _ _, eq_monoT _ _, (by rintro H1 H2 rs v hle ⟨v136, xs137, rfl, rfl, hr138⟩; exact ⟨v136, xs137, rfl, rfl, (hr138.mono hle)⟩), (by rintro H1 H2 rs v hle ⟨v136, xs137, v139, xs140, rfl, rfl, hr138, h141⟩; exact ⟨v136, xs137, v139, xs140, rfl, rfl, (hr138.mono hle), (h141.mono hle)⟩), (by rintro H1 H2 rs v hle ⟨v136, xs137, v139, xs140, rfl, rfl, hr138, h141⟩; exact ⟨v136, xs137, v139, xs140, rfl, rfl, (hr138.mono hle), (h141.mono hle)⟩), (by rintro H1 H2 rs v hle ⟨v136, xs137, v139, xs140, rfl, rfl, hr138, h141⟩; exact ⟨v136, xs137, v139, xs140, rfl, rfl, (hr138.mono hle), (h141.mono hle)⟩), eq_monoT _ _, (by rintro H1 H2 rs v hle ⟨v136, xs137, v139, xs140, rfl, rfl, hr138, h141⟩; exact ⟨v136, xs137, v139, xs140, rfl, rfl, (hr138.mono hle), (h141.mono hle)⟩), trivial⟩) ⟨?_, ?_, ?_, ?_, ?_, ?_, ?_, ?_, ?_, ?_, ?_, ?_, ?_, ?_, trivial⟩ ?_
    · intro HX hX X Rest hR
      intro hU
      refine W_move rfl rfl rfl ?_
      exact W_end (OneT_end [] (Hp.le_refl _) ⟨rfl, rfl⟩)
    · intro HX hX X Rest hR
      intro hU
      refine W_load rfl rfl Proofs.Try.isAgg23 rfl (own_at (hR _ (List.mem_cons_of_mem _ (List.mem_cons_self ..))) rfl) ?_
      exact W_end (OneT_end [] (Hp.le_refl _) ⟨rfl, rfl⟩)
    · intro HX hX X Rest hR
      intro hU
      refine W_move rfl rfl rfl ?_
      exact W_end (OneT_end [] (Hp.le_refl _) ⟨rfl, rfl⟩)
    · intro HX hX X Rest hR
      intro hU
      refine W_load rfl rfl Proofs.Try.isAgg23 rfl (own_at (hR _ (List.mem_cons_of_mem _ (List.mem_cons_self ..))) rfl) ?_
      exact W_end (OneT_end [] (Hp.le_refl _) ⟨rfl, rfl⟩)
    · intro HX hX X Rest hR
      intro hU
      refine W_load rfl rfl Proofs.Try.isAgg3 rfl (own_at (hR _ (List.mem_cons_self ..)) rfl) ?_
      exact W_end (OneT_end [] (Hp.le_refl _) ⟨rfl, rfl⟩)
    · intro HX hX X Rest hR
      rintro _ _ ⟨rfl, rfl⟩
      rintro _ _ ⟨rfl, rfl⟩
      intro hU
      refine W_indexS rfl rfl Proofs.Try.runUnderlying23 Proofs.Try.sizeOf33 rfl (h112.mono hX) rfl h125 he126 ?_
      exact W_end (OneT_end [] (Hp.le_refl _) ⟨rfl, rfl⟩)
    · intro HX hX X Rest hR
      rintro _ _ ⟨rfl, rfl⟩
      intro hU
      refine W_field (o := 0) rfl rfl Proofs.Try.runUnderlying33 rfl Proofs.Try.sizeOf9 rfl rfl rfl ?_
      exact W_end (OneT_end [] (Hp.le_refl _) ⟨rfl, rfl⟩)
    · intro HX hX X Rest hR
      rintro _ _ ⟨rfl, rfl⟩
      intro hU
      refine W_load rfl rfl Proofs.Try.isAgg9 rfl (HCells.one (hc127.mono hX) 0 rfl).at ?_
      exact W_end (OneT_end [] (Hp.le_refl _) ⟨rfl, rfl⟩)
    · intro HX hX X Rest hR
      rintro _ _ ⟨rfl, rfl⟩
      intro hU
      refine W_buildSliceO (α := ByteArray) (css := [[.string (y124.Name)]]) (zs := [.string (⟨#[]⟩)]) (out := [.string (y124.Name)]) (ys := [y124.Name]) rfl rfl rfl ⟨rfl, trivial⟩ Proofs.Try.runUnderlying24 Proofs.Try.sizeOf9 rfl Proofs.Try.zeroValue9 (by kernel_rfl) rfl rfl rfl rfl ⟨[.string (y124.Name)], [], rfl, rfl, rfl⟩ rfl ?_
      intro v136 xs137 hr138
      exact W_end (OneT_end [.row v136 9 (Rep.sz ByteArray) ([y124.Name]).length xs137] (Hp.le_refl _) ⟨v136, xs137, rfl, rfl, (hr138)⟩)
    · intro HX hX X Rest hR
      rintro _ _ ⟨rfl, rfl⟩
      rintro _ _ ⟨rfl, rfl⟩
      rintro _ _ ⟨rfl, rfl⟩
      rintro _ _ ⟨v136, xs137, rfl, rfl, hr138⟩
      intro hU
      refine W_as (M' := .row v136 9 (Rep.sz ByteArray) ([y124.Name]).length xs137 :: Rest) rfl ?_
      refine W_call Proofs.Try.call8 rfl rfl rfl (fun w ht => by obtain ⟨H0_, hl0_, ht0_, hr0_, bk0_⟩ := ht.lendRow hr138 rfl; have h := m_order_Plan_c (hm := hc132) (((h0.mono hle118).mono hX).mono hl0_) ((h112.mono hX).mono hl0_) ((h115.mono hX).mono hl0_) hr0_ ht0_; exact lend_back bk0_ (h)) ?_
      rintro _ _ _ ⟨rfl, ⟨_, rfl, v139, xs140, rfl, rfl, h141⟩⟩
      have h141 := h141 HX
      exact W_end (OneT_end [.row v136 9 (Rep.sz ByteArray) ([y124.Name]).length xs137, .row v139 36 (Rep.sz S_api_OrderStep) r131.1.length xs140] (Hp.le_refl _) ⟨v136, xs137, v139, xs140, rfl, rfl, (hr138), (h141)⟩)
    · intro HX hX X Rest hR
      rintro _ _ ⟨v136, xs137, v139, xs140, rfl, rfl, hr138, h141⟩
      intro hU
      refine W_as (M' := .row v136 9 (Rep.sz ByteArray) ([y124.Name]).length xs137 :: .row v139 36 (Rep.sz S_api_OrderStep) r131.1.length xs140 :: Rest) rfl ?_
      refine W_move rfl rfl rfl ?_
      exact W_end (OneT_end [.row v136 9 (Rep.sz ByteArray) ([y124.Name]).length xs137, .row v139 36 (Rep.sz S_api_OrderStep) r131.1.length xs140] (Hp.le_refl _) ⟨v136, xs137, v139, xs140, rfl, rfl, (hr138), (h141)⟩)
    · intro HX hX X Rest hR
      rintro _ _ ⟨v136, xs137, v139, xs140, rfl, rfl, hr138, h141⟩
      intro hU
      refine W_as (M' := .row v136 9 (Rep.sz ByteArray) ([y124.Name]).length xs137 :: .row v139 36 (Rep.sz S_api_OrderStep) r131.1.length xs140 :: Rest) rfl ?_
      refine W_extract rfl rfl rfl rfl ?_
      exact W_end (OneT_end [.row v136 9 (Rep.sz ByteArray) ([y124.Name]).length xs137, .row v139 36 (Rep.sz S_api_OrderStep) r131.1.length xs140] (Hp.le_refl _) ⟨v136, xs137, v139, xs140, rfl, rfl, (hr138), (h141)⟩)
    · intro HX hX X Rest hR
      rintro _ _ ⟨v136, xs137, v139, xs140, rfl, rfl, hr138, h141⟩
      intro hU
      refine W_extract rfl rfl rfl rfl ?_
      exact W_end (OneT_end [] (Hp.le_refl _) ⟨rfl, rfl⟩)
    · intro HX hX X Rest hR
      rintro _ _ ⟨v136, xs137, v139, xs140, rfl, rfl, hr138, h141⟩
      rintro _ _ ⟨v136, xs137, v139, xs140, rfl, rfl, hr138, h141⟩
      rintro _ _ ⟨rfl, rfl⟩
      rintro _ _ ⟨rfl, rfl⟩
      rintro _ _ ⟨rfl, rfl⟩
      rintro _ _ ⟨rfl, rfl⟩
      rintro _ _ ⟨rfl, rfl⟩
      rintro _ _ ⟨rfl, rfl⟩
      rintro _ _ ⟨rfl, rfl⟩
      rintro _ _ ⟨rfl, rfl⟩
      rintro _ _ ⟨v136, xs137, rfl, rfl, hr138⟩
      rintro _ _ ⟨v136, xs137, v139, xs140, rfl, rfl, hr138, h141⟩
      rintro _ _ ⟨v136, xs137, v139, xs140, rfl, rfl, hr138, h141⟩
      rintro _ _ ⟨v136, xs137, v139, xs140, rfl, rfl, hr138, h141⟩
      intro hU
      refine W_as (M' := .row v136 9 (Rep.sz ByteArray) ([y124.Name]).length xs137 :: .row v139 36 (Rep.sz S_api_OrderStep) r131.1.length xs140 :: Rest) rfl ?_
      refine W_assign rfl rfl rfl ?_
      exact W_end (OneT_end [.row v136 9 (Rep.sz ByteArray) ([y124.Name]).length xs137, .row v139 36 (Rep.sz S_api_OrderStep) r131.1.length xs140] (Hp.le_refl _) ⟨v136, xs137, v139, xs140, rfl, rfl, (hr138), (h141)⟩)
    intro H142 hle143
    rintro _ _ ⟨rfl, rfl⟩
    rintro _ _ ⟨rfl, rfl⟩
    rintro _ _ ⟨rfl, rfl⟩
    rintro _ _ ⟨rfl, rfl⟩
    rintro _ _ ⟨rfl, rfl⟩
    rintro _ _ ⟨rfl, rfl⟩
    rintro _ _ ⟨rfl, rfl⟩
    rintro _ _ ⟨rfl, rfl⟩
    rintro _ _ ⟨v136, xs137, rfl, rfl, hr138⟩
    rintro _ _ ⟨v136, xs137, v139, xs140, rfl, rfl, hr138, h141⟩
    rintro _ _ ⟨v136, xs137, v139, xs140, rfl, rfl, hr138, h141⟩
    rintro _ _ ⟨v136, xs137, v139, xs140, rfl, rfl, hr138, h141⟩
    rintro _ _ ⟨rfl, rfl⟩
    rintro _ _ ⟨v136, xs137, v139, xs140, rfl, rfl, hr138, h141⟩
    refine W_as (M' := .row v136 9 (Rep.sz ByteArray) ([y124.Name]).length xs137 :: .row v139 36 (Rep.sz S_api_OrderStep) r131.1.length xs140 :: .obj b102 (.cells [.int .i64 (r122)].toArray 3 (0, 0)) :: .obj b101 (.cells [v111].toArray 23 (0, 0)) :: M) rfl ?_
    refine W_assign rfl rfl rfl ?_
    refine W_end ?_
    refine E_then ?_
    refine C_seq ?_
    refine C_seq ?_
    refine C_region ?_
    refine W_move rfl rfl rfl ?_
    refine W_bin rfl rfl rfl rfl rfl ?_
    refine W_end ?_
    refine E_then ?_
    refine C_cond (b := !decide (r131.2 = 0)) rfl (fun hb144 => ?_) (fun hb144 => ?_)
    · have hm := ite_t' hb144 hm
      obtain ⟨r148, hc149, hm⟩ := bind_some hm
      refine C_seq_join (fun H' M' L' => H142 = H' ∧ M = M' ∧ [(8, .bool (r148 && (decide ((r131.1.length : Int) = 0))))] = L') ?_ (fun J150 => ?_)
      · rintro _ _ _ ⟨rfl, rfl, rfl⟩
        refine C_ret ?_
        refine E_ret_then ?_
        obtain rfl := Option.some.inj hm
        refine E_weak (Hp.le_trans hle118 hle143) ?_
        exact end1 rfl rfl ⟨rfl, rfl, rfl⟩
      · refine C_region ?_
        refine W_call Proofs.Try.call9 rfl rfl rfl (fun w ht => by have h := m_gridhallkeep4_orderFact_c (hm := hc149)  ht; exact h) ?_
        rintro _ _ _ ⟨rfl, rfl, rfl⟩
        refine W_move rfl rfl rfl ?_
        cases hb151 : (r148)
        · refine W_no rfl rfl rfl ?_
          refine W_no rfl rfl rfl ?_
          refine W_no rfl rfl rfl ?_
          refine W_pick rfl rfl rfl rfl ?_
          refine W_assign rfl rfl rfl ?_
          refine W_end ?_
          refine E_drop (List.Sublist.cons _ (List.Sublist.cons _ (List.Sublist.cons _ (List.Sublist.cons _ (List.Sublist.refl _))))) ?_
          exact E_keepJ (J150 _ _ _ ⟨rfl, rfl, rfl⟩) (List.Perm.refl _) ⟨(by show some (Value.bool (false)) = some (Value.bool (r148 && (decide ((r131.1.length : Int) = 0)))); simp only [hb119, hb144, hb151, Bool.and_true, Bool.true_and, Bool.false_and, Bool.and_false, Bool.or_true, Bool.true_or, Bool.or_false, Bool.false_or, Bool.not_true, Bool.not_false]), trivial⟩
        · refine W_move rfl rfl rfl ?_
          refine W_lenO (List.mem_cons_of_mem _ (List.mem_cons_self ..)) rfl rfl Proofs.Try.runUnderlying25 rfl ?_
          refine W_bin rfl rfl rfl rfl rfl ?_
          refine W_pick rfl rfl rfl rfl ?_
          refine W_assign rfl rfl rfl ?_
          refine W_end ?_
          refine E_drop (List.Sublist.cons _ (List.Sublist.cons _ (List.Sublist.cons _ (List.Sublist.cons _ (List.Sublist.refl _))))) ?_
          exact E_keepJ (J150 _ _ _ ⟨rfl, rfl, rfl⟩) (List.Perm.refl _) ⟨(by show some (Value.bool (decide ((r131.1.length : Int) = 0))) = some (Value.bool (r148 && (decide ((r131.1.length : Int) = 0)))); simp only [hb119, hb144, hb151, Bool.and_true, Bool.true_and, Bool.false_and, Bool.and_false, Bool.or_true, Bool.true_or, Bool.or_false, Bool.false_or, Bool.not_true, Bool.not_false]), trivial⟩
    · have hm := ite_f' hb144 hm
      refine C_skip ?_
      refine E_then ?_
      refine C_seq ?_
      obtain ⟨r152, hc153, hm⟩ := bind_some hm
      cases hb154 : (r152)
      · have hm := ite_f' hb154 hm
        refine C_region_tok0 22 (phiT [(fun H rs v => [] = rs ∧ .bool (false) = v), (fun H rs v => [] = rs ∧ .bool (false) = v), (fun H rs v => [] = rs ∧ undef = v), (fun H rs v => [] = rs ∧ undef = v), (fun H rs v => [] = rs ∧ undef = v), (fun H rs v => [] = rs ∧ undef = v), (fun H rs v => [] = rs ∧ undef = v), (fun H rs v => [] = rs ∧ .bool (false) = v), (fun H rs v => [] = rs ∧ .bool (false) = v), (fun H rs v => [] = rs ∧ undef = v), (fun H rs v => [] = rs ∧ undef = v), (fun H rs v => [] = rs ∧ undef = v), (fun H rs v => [] = rs ∧ undef = v), (fun H rs v => [] = rs ∧ undef = v), (fun H rs v => [] = rs ∧ undef = v), (fun H rs v => [] = rs ∧ undef = v), (fun H rs v => [] = rs ∧ undef = v), (fun H rs v => [] = rs ∧ undef = v), (fun H rs v => [] = rs ∧ .bool (false) = v), (fun H rs v => [] = rs ∧ .bool (false) = v), (fun H rs v => [] = rs ∧ undef = v), (fun H rs v => [] = rs ∧ undef = v)]) [[], [], [], [], [], [], [], [], [], [], [], [], [], [], [], [], [], [], [], [], [], []] [[], [], [], [], [], [], [], [], [], [], [], [], [], [], [], [], [], [], [], [], [], []] [] [0, 1, 2, 3, 4, 5, 6, 7, 8, 9, 10, 11, 12, 13, 14, 15, 16, 17, 18, 19, 20, 21] Facts.mixed (by kernel_rfl) rfl rfl rfl (by kernel_rfl) (phiT_mono ⟨eq_monoT _ _, eq_monoT _ _, eq_monoT _ _, eq_monoT _ _, eq_monoT _ _, eq_monoT _ _, eq_monoT _ _, eq_monoT _ _, eq_monoT _ _, eq_monoT _ _, eq_monoT _ _, eq_monoT _ _, eq_monoT _ _, eq_monoT _ _, eq_monoT _ _, eq_monoT _ _, eq_monoT _ _, eq_monoT _ _, eq_monoT _ _, eq_monoT _ _, eq_monoT _ _, eq_monoT _ _, trivial⟩) ⟨?_, ?_, ?_, ?_, ?_, ?_, ?_, ?_, ?_, ?_, ?_, ?_, ?_, ?_, ?_, ?_, ?_, ?_, ?_, ?_, ?_, ?_, trivial⟩ ?_
        · intro HX hX X Rest hR
          intro hU
          refine W_call Proofs.Try.call9 rfl rfl rfl (fun w ht => by have h := m_gridhallkeep4_orderFact_c (hm := hc153)  ht; exact h) ?_
          rintro _ _ _ ⟨rfl, rfl, rfl⟩
          exact W_end (OneT_end [] (Hp.le_refl _) ⟨rfl, (by rw [hb154]; try rfl)⟩)
        · intro HX hX X Rest hR
          rintro _ _ ⟨rfl, rfl⟩
          rintro _ _ ⟨rfl, rfl⟩
          intro hU
          refine W_move rfl rfl rfl ?_
          exact W_end (OneT_end [] (Hp.le_refl _) ⟨rfl, rfl⟩)
        · intro HX hX X Rest hR
          rintro _ _ ⟨rfl, rfl⟩
          intro hU
          refine W_no rfl rfl rfl ?_
          exact W_end (OneT_end [] (Hp.le_refl _) ⟨rfl, rfl⟩)
        · intro HX hX X Rest hR
          rintro _ _ ⟨rfl, rfl⟩
          rintro _ _ ⟨rfl, rfl⟩
          intro hU
          refine W_no rfl rfl rfl ?_
          exact W_end (OneT_end [] (Hp.le_refl _) ⟨rfl, rfl⟩)
        · intro HX hX X Rest hR
          rintro _ _ ⟨rfl, rfl⟩
          intro hU
          refine W_no rfl rfl rfl ?_
          exact W_end (OneT_end [] (Hp.le_refl _) ⟨rfl, rfl⟩)
        · intro HX hX X Rest hR
          rintro _ _ ⟨rfl, rfl⟩
          rintro _ _ ⟨rfl, rfl⟩
          intro hU
          refine W_no rfl rfl rfl ?_
          exact W_end (OneT_end [] (Hp.le_refl _) ⟨rfl, rfl⟩)
        · intro HX hX X Rest hR
          rintro _ _ ⟨rfl, rfl⟩
          rintro _ _ ⟨rfl, rfl⟩
          rintro _ _ ⟨rfl, rfl⟩
          intro hU
          refine W_no rfl rfl rfl ?_
          exact W_end (OneT_end [] (Hp.le_refl _) ⟨rfl, rfl⟩)
        · intro HX hX X Rest hR
          rintro _ _ ⟨rfl, rfl⟩
          rintro _ _ ⟨rfl, rfl⟩
          intro hU
          refine W_pick rfl rfl rfl rfl ?_
          exact W_end (OneT_end [] (Hp.le_refl _) ⟨rfl, rfl⟩)
        · intro HX hX X Rest hR
          rintro _ _ ⟨rfl, rfl⟩
          rintro _ _ ⟨rfl, rfl⟩
          intro hU
          refine W_move rfl rfl rfl ?_
          exact W_end (OneT_end [] (Hp.le_refl _) ⟨rfl, rfl⟩)
        · intro HX hX X Rest hR
          rintro _ _ ⟨rfl, rfl⟩
          intro hU
          refine W_no rfl rfl rfl ?_
          exact W_end (OneT_end [] (Hp.le_refl _) ⟨rfl, rfl⟩)
        · intro HX hX X Rest hR
          rintro _ _ ⟨rfl, rfl⟩
          intro hU
          refine W_no rfl rfl rfl ?_
          exact W_end (OneT_end [] (Hp.le_refl _) ⟨rfl, rfl⟩)
        · intro HX hX X Rest hR
          rintro _ _ ⟨rfl, rfl⟩
          rintro _ _ ⟨rfl, rfl⟩
          rintro _ _ ⟨rfl, rfl⟩
          intro hU
          refine W_no rfl rfl rfl ?_
          exact W_end (OneT_end [] (Hp.le_refl _) ⟨rfl, rfl⟩)
        · intro HX hX X Rest hR
          rintro _ _ ⟨rfl, rfl⟩
          rintro _ _ ⟨rfl, rfl⟩
          intro hU
          refine W_no rfl rfl rfl ?_
          exact W_end (OneT_end [] (Hp.le_refl _) ⟨rfl, rfl⟩)
        · intro HX hX X Rest hR
          rintro _ _ ⟨rfl, rfl⟩
          intro hU
          refine W_no rfl rfl rfl ?_
          exact W_end (OneT_end [] (Hp.le_refl _) ⟨rfl, rfl⟩)
        · intro HX hX X Rest hR
          rintro _ _ ⟨rfl, rfl⟩
          intro hU
          refine W_no rfl rfl rfl ?_
          exact W_end (OneT_end [] (Hp.le_refl _) ⟨rfl, rfl⟩)
        · intro HX hX X Rest hR
          rintro _ _ ⟨rfl, rfl⟩
          rintro _ _ ⟨rfl, rfl⟩
          rintro _ _ ⟨rfl, rfl⟩
          intro hU
          refine W_no rfl rfl rfl ?_
          exact W_end (OneT_end [] (Hp.le_refl _) ⟨rfl, rfl⟩)
        · intro HX hX X Rest hR
          rintro _ _ ⟨rfl, rfl⟩
          rintro _ _ ⟨rfl, rfl⟩
          intro hU
          refine W_no rfl rfl rfl ?_
          exact W_end (OneT_end [] (Hp.le_refl _) ⟨rfl, rfl⟩)
        · intro HX hX X Rest hR
          rintro _ _ ⟨rfl, rfl⟩
          rintro _ _ ⟨rfl, rfl⟩
          rintro _ _ ⟨rfl, rfl⟩
          intro hU
          refine W_no rfl rfl rfl ?_
          exact W_end (OneT_end [] (Hp.le_refl _) ⟨rfl, rfl⟩)
        · intro HX hX X Rest hR
          rintro _ _ ⟨rfl, rfl⟩
          rintro _ _ ⟨rfl, rfl⟩
          intro hU
          refine W_pick rfl rfl rfl rfl ?_
          exact W_end (OneT_end [] (Hp.le_refl _) ⟨rfl, rfl⟩)
        · intro HX hX X Rest hR
          rintro _ _ ⟨rfl, rfl⟩
          rintro _ _ ⟨rfl, rfl⟩
          intro hU
          refine W_move rfl rfl rfl ?_
          exact W_end (OneT_end [] (Hp.le_refl _) ⟨rfl, rfl⟩)
        · intro HX hX X Rest hR
          rintro _ _ ⟨rfl, rfl⟩
          intro hU
          refine W_no rfl rfl rfl ?_
          exact W_end (OneT_end [] (Hp.le_refl _) ⟨rfl, rfl⟩)
        · intro HX hX X Rest hR
          rintro _ _ ⟨rfl, rfl⟩
          intro hU
          refine W_no rfl rfl rfl ?_
          exact W_end (OneT_end [] (Hp.le_refl _) ⟨rfl, rfl⟩)
        intro H155 hle156
        rintro _ _ ⟨rfl, rfl⟩
        rintro _ _ ⟨rfl, rfl⟩
        rintro _ _ ⟨rfl, rfl⟩
        rintro _ _ ⟨rfl, rfl⟩
        rintro _ _ ⟨rfl, rfl⟩
        rintro _ _ ⟨rfl, rfl⟩
        rintro _ _ ⟨rfl, rfl⟩
        rintro _ _ ⟨rfl, rfl⟩
        rintro _ _ ⟨rfl, rfl⟩
        rintro _ _ ⟨rfl, rfl⟩
        rintro _ _ ⟨rfl, rfl⟩
        rintro _ _ ⟨rfl, rfl⟩
        rintro _ _ ⟨rfl, rfl⟩
        rintro _ _ ⟨rfl, rfl⟩
        rintro _ _ ⟨rfl, rfl⟩
        rintro _ _ ⟨rfl, rfl⟩
        rintro _ _ ⟨rfl, rfl⟩
        rintro _ _ ⟨rfl, rfl⟩
        rintro _ _ ⟨rfl, rfl⟩
        rintro _ _ ⟨rfl, rfl⟩
        rintro _ _ ⟨rfl, rfl⟩
        rintro _ _ ⟨rfl, rfl⟩
        refine W_no rfl rfl rfl ?_
        refine W_no rfl rfl rfl ?_
        refine W_pick rfl rfl rfl rfl ?_
        refine W_assign rfl rfl rfl ?_
        refine W_end ?_
        refine E_then ?_
        refine C_ret ?_
        obtain rfl := Option.some.inj hm
        refine E_drop (List.Sublist.cons _ (List.Sublist.cons _ (List.Sublist.cons _ (List.Sublist.cons _ (List.Sublist.refl _))))) ?_
        refine E_weak (Hp.le_trans (Hp.le_trans hle118 hle143) hle156) ?_
        exact end1 rfl rfl ⟨rfl, rfl, rfl⟩
      · have hm := ite_t' hb154 hm
        cases hb157 : (decide (((slc to 0 ((min (to.length : Int) 6 : Int).toNat)).length : Int) = ((slc p1_from 0 ((min (p1_from.length : Int) 6 : Int).toNat)).length : Int)))
        · have hm := ite_f' hb157 hm
          refine C_region_tok0 22 (phiT [(fun H rs v => [] = rs ∧ .bool (true) = v), (fun H rs v => [] = rs ∧ .bool (true) = v), (fun H rs v => [] = rs ∧ v114 = v), (fun H rs v => [] = rs ∧ .int .i64 (((slc to 0 ((min (to.length : Int) 6 : Int).toNat)).length : Int)) = v), (fun H rs v => [] = rs ∧ v111 = v), (fun H rs v => [] = rs ∧ .int .i64 (((slc p1_from 0 ((min (p1_from.length : Int) 6 : Int).toNat)).length : Int)) = v), (fun H rs v => [] = rs ∧ .bool (false) = v), (fun H rs v => [] = rs ∧ .bool (false) = v), (fun H rs v => [] = rs ∧ .bool (false) = v), (fun H rs v => [] = rs ∧ undef = v), (fun H rs v => [] = rs ∧ undef = v), (fun H rs v => [] = rs ∧ undef = v), (fun H rs v => [] = rs ∧ undef = v), (fun H rs v => [] = rs ∧ undef = v), (fun H rs v => [] = rs ∧ undef = v), (fun H rs v => [] = rs ∧ undef = v), (fun H rs v => [] = rs ∧ undef = v), (fun H rs v => [] = rs ∧ undef = v), (fun H rs v => [] = rs ∧ .bool (false) = v), (fun H rs v => [] = rs ∧ .bool (false) = v), (fun H rs v => [] = rs ∧ undef = v), (fun H rs v => [] = rs ∧ undef = v)]) [[], [], [], [], [], [], [], [], [], [], [], [], [], [], [], [], [], [], [], [], [], []] [[], [], [], [], [], [], [], [], [], [], [], [], [], [], [], [], [], [], [], [], [], []] [] [0, 1, 2, 3, 4, 5, 6, 7, 8, 9, 10, 11, 12, 13, 14, 15, 16, 17, 18, 19, 20, 21] Facts.mixed (by kernel_rfl) rfl rfl rfl (by kernel_rfl) (phiT_mono ⟨eq_monoT _ _, eq_monoT _ _, eq_monoT _ _, eq_monoT _ _, eq_monoT _ _, eq_monoT _ _, eq_monoT _ _, eq_monoT _ _, eq_monoT _ _, eq_monoT _ _, eq_monoT _ _, eq_monoT _ _, eq_monoT _ _, eq_monoT _ _, eq_monoT _ _, eq_monoT _ _, eq_monoT _ _, eq_monoT _ _, eq_monoT _ _, eq_monoT _ _, eq_monoT _ _, eq_monoT _ _, trivial⟩) ⟨?_, ?_, ?_, ?_, ?_, ?_, ?_, ?_, ?_, ?_, ?_, ?_, ?_, ?_, ?_, ?_, ?_, ?_, ?_, ?_, ?_, ?_, trivial⟩ ?_
          · intro HX hX X Rest hR
            intro hU
            refine W_call Proofs.Try.call9 rfl rfl rfl (fun w ht => by have h := m_gridhallkeep4_orderFact_c (hm := hc153)  ht; exact h) ?_
            rintro _ _ _ ⟨rfl, rfl, rfl⟩
            exact W_end (OneT_end [] (Hp.le_refl _) ⟨rfl, (by rw [hb154]; try rfl)⟩)
          · intro HX hX X Rest hR
            rintro _ _ ⟨rfl, rfl⟩
            rintro _ _ ⟨rfl, rfl⟩
            intro hU
            refine W_move rfl rfl rfl ?_
            exact W_end (OneT_end [] (Hp.le_refl _) ⟨rfl, rfl⟩)
          · intro HX hX X Rest hR
            rintro _ _ ⟨rfl, rfl⟩
            intro hU
            refine W_move rfl rfl rfl ?_
            exact W_end (OneT_end [] (Hp.le_refl _) ⟨rfl, rfl⟩)
          · intro HX hX X Rest hR
            rintro _ _ ⟨rfl, rfl⟩
            rintro _ _ ⟨rfl, rfl⟩
            intro hU
            refine W_lenR rfl rfl Proofs.Try.runUnderlying23 rfl ((h115.mono hle143).mono hX) ?_
            exact W_end (OneT_end [] (Hp.le_refl _) ⟨rfl, rfl⟩)
          · intro HX hX X Rest hR
            rintro _ _ ⟨rfl, rfl⟩
            intro hU
            refine W_load rfl rfl Proofs.Try.isAgg23 rfl (own_at (hR _ (List.mem_cons_of_mem _ (List.mem_cons_of_mem _ (List.mem_cons_of_mem _ (List.mem_cons_self ..))))) rfl) ?_
            exact W_end (OneT_end [] (Hp.le_refl _) ⟨rfl, rfl⟩)
          · intro HX hX X Rest hR
            rintro _ _ ⟨rfl, rfl⟩
            rintro _ _ ⟨rfl, rfl⟩
            intro hU
            refine W_lenR rfl rfl Proofs.Try.runUnderlying23 rfl ((h112.mono hle143).mono hX) ?_
            exact W_end (OneT_end [] (Hp.le_refl _) ⟨rfl, rfl⟩)
          · intro HX hX X Rest hR
            rintro _ _ ⟨rfl, rfl⟩
            rintro _ _ ⟨rfl, rfl⟩
            rintro _ _ ⟨rfl, rfl⟩
            intro hU
            refine W_bin rfl rfl rfl rfl rfl ?_
            exact W_end (OneT_end [] (Hp.le_refl _) ⟨rfl, (by rw [hb157]; try rfl)⟩)
          · intro HX hX X Rest hR
            rintro _ _ ⟨rfl, rfl⟩
            rintro _ _ ⟨rfl, rfl⟩
            intro hU
            refine W_pick rfl rfl rfl rfl ?_
            exact W_end (OneT_end [] (Hp.le_refl _) ⟨rfl, rfl⟩)
          · intro HX hX X Rest hR
            rintro _ _ ⟨rfl, rfl⟩
            rintro _ _ ⟨rfl, rfl⟩
            intro hU
            refine W_move rfl rfl rfl ?_
            exact W_end (OneT_end [] (Hp.le_refl _) ⟨rfl, rfl⟩)
          · intro HX hX X Rest hR
            rintro _ _ ⟨rfl, rfl⟩
            intro hU
            refine W_no rfl rfl rfl ?_
            exact W_end (OneT_end [] (Hp.le_refl _) ⟨rfl, rfl⟩)
          · intro HX hX X Rest hR
            rintro _ _ ⟨rfl, rfl⟩
            intro hU
            refine W_no rfl rfl rfl ?_
            exact W_end (OneT_end [] (Hp.le_refl _) ⟨rfl, rfl⟩)
          · intro HX hX X Rest hR
            rintro _ _ ⟨rfl, rfl⟩
            rintro _ _ ⟨rfl, rfl⟩
            rintro _ _ ⟨rfl, rfl⟩
            intro hU
            refine W_no rfl rfl rfl ?_
            exact W_end (OneT_end [] (Hp.le_refl _) ⟨rfl, rfl⟩)
          · intro HX hX X Rest hR
            rintro _ _ ⟨rfl, rfl⟩
            rintro _ _ ⟨rfl, rfl⟩
            intro hU
            refine W_no rfl rfl rfl ?_
            exact W_end (OneT_end [] (Hp.le_refl _) ⟨rfl, rfl⟩)
          · intro HX hX X Rest hR
            rintro _ _ ⟨rfl, rfl⟩
            intro hU
            refine W_no rfl rfl rfl ?_
            exact W_end (OneT_end [] (Hp.le_refl _) ⟨rfl, rfl⟩)
          · intro HX hX X Rest hR
            rintro _ _ ⟨rfl, rfl⟩
            intro hU
            refine W_no rfl rfl rfl ?_
            exact W_end (OneT_end [] (Hp.le_refl _) ⟨rfl, rfl⟩)
          · intro HX hX X Rest hR
            rintro _ _ ⟨rfl, rfl⟩
            rintro _ _ ⟨rfl, rfl⟩
            rintro _ _ ⟨rfl, rfl⟩
            intro hU
            refine W_no rfl rfl rfl ?_
            exact W_end (OneT_end [] (Hp.le_refl _) ⟨rfl, rfl⟩)
          · intro HX hX X Rest hR
            rintro _ _ ⟨rfl, rfl⟩
            rintro _ _ ⟨rfl, rfl⟩
            intro hU
            refine W_no rfl rfl rfl ?_
            exact W_end (OneT_end [] (Hp.le_refl _) ⟨rfl, rfl⟩)
          · intro HX hX X Rest hR
            rintro _ _ ⟨rfl, rfl⟩
            rintro _ _ ⟨rfl, rfl⟩
            rintro _ _ ⟨rfl, rfl⟩
            intro hU
            refine W_no rfl rfl rfl ?_
            exact W_end (OneT_end [] (Hp.le_refl _) ⟨rfl, rfl⟩)
          · intro HX hX X Rest hR
            rintro _ _ ⟨rfl, rfl⟩
            rintro _ _ ⟨rfl, rfl⟩
            intro hU
            refine W_pick rfl rfl rfl rfl ?_
            exact W_end (OneT_end [] (Hp.le_refl _) ⟨rfl, rfl⟩)
          · intro HX hX X Rest hR
            rintro _ _ ⟨rfl, rfl⟩
            rintro _ _ ⟨rfl, rfl⟩
            intro hU
            refine W_move rfl rfl rfl ?_
            exact W_end (OneT_end [] (Hp.le_refl _) ⟨rfl, rfl⟩)
          · intro HX hX X Rest hR
            rintro _ _ ⟨rfl, rfl⟩
            intro hU
            refine W_no rfl rfl rfl ?_
            exact W_end (OneT_end [] (Hp.le_refl _) ⟨rfl, rfl⟩)
          · intro HX hX X Rest hR
            rintro _ _ ⟨rfl, rfl⟩
            intro hU
            refine W_no rfl rfl rfl ?_
            exact W_end (OneT_end [] (Hp.le_refl _) ⟨rfl, rfl⟩)
          intro H158 hle159
          rintro _ _ ⟨rfl, rfl⟩
          rintro _ _ ⟨rfl, rfl⟩
          rintro _ _ ⟨rfl, rfl⟩
          rintro _ _ ⟨rfl, rfl⟩
          rintro _ _ ⟨rfl, rfl⟩
          rintro _ _ ⟨rfl, rfl⟩
          rintro _ _ ⟨rfl, rfl⟩
          rintro _ _ ⟨rfl, rfl⟩
          rintro _ _ ⟨rfl, rfl⟩
          rintro _ _ ⟨rfl, rfl⟩
          rintro _ _ ⟨rfl, rfl⟩
          rintro _ _ ⟨rfl, rfl⟩
          rintro _ _ ⟨rfl, rfl⟩
          rintro _ _ ⟨rfl, rfl⟩
          rintro _ _ ⟨rfl, rfl⟩
          rintro _ _ ⟨rfl, rfl⟩
          rintro _ _ ⟨rfl, rfl⟩
          rintro _ _ ⟨rfl, rfl⟩
          rintro _ _ ⟨rfl, rfl⟩
          rintro _ _ ⟨rfl, rfl⟩
          rintro _ _ ⟨rfl, rfl⟩
          rintro _ _ ⟨rfl, rfl⟩
          refine W_no rfl rfl rfl ?_
          refine W_no rfl rfl rfl ?_
          refine W_pick rfl rfl rfl rfl ?_
          refine W_assign rfl rfl rfl ?_
          refine W_end ?_
          refine E_then ?_
          refine C_ret ?_
          obtain rfl := Option.some.inj hm
          refine E_drop (List.Sublist.cons _ (List.Sublist.cons _ (List.Sublist.cons _ (List.Sublist.cons _ (List.Sublist.refl _))))) ?_
          refine E_weak (Hp.le_trans (Hp.le_trans hle118 hle143) hle159) ?_
          exact end1 rfl rfl ⟨rfl, rfl, rfl⟩
        · have hm := ite_t' hb157 hm
          obtain ⟨y160, h161, he162, hm⟩ := idx_some hm
          obtain ⟨_, ⟨rfl⟩, hc163⟩ := (h115).elem he162
          obtain ⟨y164, h165, he166, hm⟩ := idx_some hm
          obtain ⟨_, ⟨rfl⟩, hc167⟩ := (h112).elem he166
          cases hb168 : (decide (y160.Name = y164.Name) && (decide (y160.Closed = y164.Closed) && true))
          · have hm := ite_f' hb168 hm
            refine C_region_tok0 22 (phiT [(fun H rs v => [] = rs ∧ .bool (true) = v), (fun H rs v => [] = rs ∧ .bool (true) = v), (fun H rs v => [] = rs ∧ v114 = v), (fun H rs v => [] = rs ∧ .int .i64 (((slc to 0 ((min (to.length : Int) 6 : Int).toNat)).length : Int)) = v), (fun H rs v => [] = rs ∧ v111 = v), (fun H rs v => [] = rs ∧ .int .i64 (((slc p1_from 0 ((min (p1_from.length : Int) 6 : Int).toNat)).length : Int)) = v), (fun H rs v => [] = rs ∧ .bool (true) = v), (fun H rs v => [] = rs ∧ .bool (true) = v), (fun H rs v => [] = rs ∧ .bool (true) = v), (fun H rs v => [] = rs ∧ v114 = v), (fun H rs v => [] = rs ∧ .int .i64 (r122) = v), (fun H rs v => [] = rs ∧ .pointer (some ((Value.base (v114)).add ((r122 : Int).toNat * 2))) = v), (fun H rs v => [] = rs ∧ .agg [.string (y160.Name), .bool (y160.Closed)].toArray = v), (fun H rs v => [] = rs ∧ v111 = v), (fun H rs v => [] = rs ∧ .int .i64 (r122) = v), (fun H rs v => [] = rs ∧ .pointer (some ((Value.base (v111)).add ((r122 : Int).toNat * 2))) = v), (fun H rs v => [] = rs ∧ .agg [.string (y164.Name), .bool (y164.Closed)].toArray = v), (fun H rs v => [] = rs ∧ .bool (false) = v), (fun H rs v => [] = rs ∧ .bool (false) = v), (fun H rs v => [] = rs ∧ .bool (false) = v), (fun H rs v => [] = rs ∧ undef = v), (fun H rs v => [] = rs ∧ undef = v)]) [[], [], [], [], [], [], [], [], [], [], [], [], [], [], [], [], [], [], [], [], [], []] [[], [], [], [], [], [], [], [], [], [], [], [], [], [], [], [], [], [], [], [], [], []] [] [0, 1, 2, 3, 4, 5, 6, 7, 8, 9, 10, 11, 12, 13, 14, 15, 16, 17, 18, 19, 20, 21] Facts.mixed (by kernel_rfl) rfl rfl rfl (by kernel_rfl) (phiT_mono ⟨eq_monoT _ _, eq_monoT _ _, eq_monoT _ _, eq_monoT _ _, eq_monoT _ _, eq_monoT _ _, eq_monoT _ _, eq_monoT _ _, eq_monoT _ _, eq_monoT _ _, eq_monoT _ _, eq_monoT _ _, eq_monoT _ _, eq_monoT _ _, eq_monoT _ _, eq_monoT _ _, eq_monoT _ _, eq_monoT _ _, eq_monoT _ _, eq_monoT _ _, eq_monoT _ _, eq_monoT _ _, trivial⟩) ⟨?_, ?_, ?_, ?_, ?_, ?_, ?_, ?_, ?_, ?_, ?_, ?_, ?_, ?_, ?_, ?_, ?_, ?_, ?_, ?_, ?_, ?_, trivial⟩ ?_
            · intro HX hX X Rest hR
              intro hU
              refine W_call Proofs.Try.call9 rfl rfl rfl (fun w ht => by have h := m_gridhallkeep4_orderFact_c (hm := hc153)  ht; exact h) ?_
              rintro _ _ _ ⟨rfl, rfl, rfl⟩
              exact W_end (OneT_end [] (Hp.le_refl _) ⟨rfl, (by rw [hb154]; try rfl)⟩)
            · intro HX hX X Rest hR
              rintro _ _ ⟨rfl, rfl⟩
              rintro _ _ ⟨rfl, rfl⟩
              intro hU
              refine W_move rfl rfl rfl ?_
              exact W_end (OneT_end [] (Hp.le_refl _) ⟨rfl, rfl⟩)
            · intro HX hX X Rest hR
              rintro _ _ ⟨rfl, rfl⟩
              intro hU
              refine W_move rfl rfl rfl ?_
              exact W_end (OneT_end [] (Hp.le_refl _) ⟨rfl, rfl⟩)
            · intro HX hX X Rest hR
              rintro _ _ ⟨rfl, rfl⟩
              rintro _ _ ⟨rfl, rfl⟩
              intro hU
              refine W_lenR rfl rfl Proofs.Try.runUnderlying23 rfl ((h115.mono hle143).mono hX) ?_
              exact W_end (OneT_end [] (Hp.le_refl _) ⟨rfl, rfl⟩)
            · intro HX hX X Rest hR
              rintro _ _ ⟨rfl, rfl⟩
              intro hU
              refine W_load rfl rfl Proofs.Try.isAgg23 rfl (own_at (hR _ (List.mem_cons_of_mem _ (List.mem_cons_of_mem _ (List.mem_cons_of_mem _ (List.mem_cons_self ..))))) rfl) ?_
              exact W_end (OneT_end [] (Hp.le_refl _) ⟨rfl, rfl⟩)
            · intro HX hX X Rest hR
              rintro _ _ ⟨rfl, rfl⟩
              rintro _ _ ⟨rfl, rfl⟩
              intro hU
              refine W_lenR rfl rfl Proofs.Try.runUnderlying23 rfl ((h112.mono hle143).mono hX) ?_
              exact W_end (OneT_end [] (Hp.le_refl _) ⟨rfl, rfl⟩)
            · intro HX hX X Rest hR
              rintro _ _ ⟨rfl, rfl⟩
              rintro _ _ ⟨rfl, rfl⟩
              rintro _ _ ⟨rfl, rfl⟩
              intro hU
              refine W_bin rfl rfl rfl rfl rfl ?_
              exact W_end (OneT_end [] (Hp.le_refl _) ⟨rfl, (by rw [hb157]; try rfl)⟩)
            · intro HX hX X Rest hR
              rintro _ _ ⟨rfl, rfl⟩
              rintro _ _ ⟨rfl, rfl⟩
              intro hU
              refine W_pick rfl rfl rfl rfl ?_
              exact W_end (OneT_end [] (Hp.le_refl _) ⟨rfl, rfl⟩)
            · intro HX hX X Rest hR
              rintro _ _ ⟨rfl, rfl⟩
              rintro _ _ ⟨rfl, rfl⟩
              intro hU
              refine W_move rfl rfl rfl ?_
              exact W_end (OneT_end [] (Hp.le_refl _) ⟨rfl, rfl⟩)
            · intro HX hX X Rest hR
              rintro _ _ ⟨rfl, rfl⟩
              intro hU
              refine W_move rfl rfl rfl ?_
              exact W_end (OneT_end [] (Hp.le_refl _) ⟨rfl, rfl⟩)
            · intro HX hX X Rest hR
              rintro _ _ ⟨rfl, rfl⟩
              intro hU
              refine W_load rfl rfl Proofs.Try.isAgg3 rfl (own_at (hR _ (List.mem_cons_of_mem _ (List.mem_cons_of_mem _ (List.mem_cons_self ..)))) rfl) ?_
              exact W_end (OneT_end [] (Hp.le_refl _) ⟨rfl, rfl⟩)
            · intro HX hX X Rest hR
              rintro _ _ ⟨rfl, rfl⟩
              rintro _ _ ⟨rfl, rfl⟩
              rintro _ _ ⟨rfl, rfl⟩
              intro hU
              refine W_indexS rfl rfl Proofs.Try.runUnderlying23 Proofs.Try.sizeOf33 rfl ((h115.mono hle143).mono hX) rfl h161 he162 ?_
              exact W_end (OneT_end [] (Hp.le_refl _) ⟨rfl, rfl⟩)
            · intro HX hX X Rest hR
              rintro _ _ ⟨rfl, rfl⟩
              rintro _ _ ⟨rfl, rfl⟩
              intro hU
              refine W_loadAgg rfl rfl Proofs.Try.isAgg33 Proofs.Try.sizeOf33 rfl ((hc163.mono hle143).mono hX).at rfl ?_
              exact W_end (OneT_end [] (Hp.le_refl _) ⟨rfl, rfl⟩)
            · intro HX hX X Rest hR
              rintro _ _ ⟨rfl, rfl⟩
              intro hU
              refine W_load rfl rfl Proofs.Try.isAgg23 rfl (own_at (hR _ (List.mem_cons_of_mem _ (List.mem_cons_of_mem _ (List.mem_cons_of_mem _ (List.mem_cons_self ..))))) rfl) ?_
              exact W_end (OneT_end [] (Hp.le_refl _) ⟨rfl, rfl⟩)
            · intro HX hX X Rest hR
              rintro _ _ ⟨rfl, rfl⟩
              intro hU
              refine W_load rfl rfl Proofs.Try.isAgg3 rfl (own_at (hR _ (List.mem_cons_of_mem _ (List.mem_cons_of_mem _ (List.mem_cons_self ..)))) rfl) ?_
              exact W_end (OneT_end [] (Hp.le_refl _) ⟨rfl, rfl⟩)
            · intro HX hX X Rest hR
              rintro _ _ ⟨rfl, rfl⟩
              rintro _ _ ⟨rfl, rfl⟩
              rintro _ _ ⟨rfl, rfl⟩
              intro hU
              refine W_indexS rfl rfl Proofs.Try.runUnderlying23 Proofs.Try.sizeOf33 rfl ((h112.mono hle143).mono hX) rfl h165 he166 ?_
              exact W_end (OneT_end [] (Hp.le_refl _) ⟨rfl, rfl⟩)
            · intro HX hX X Rest hR
              rintro _ _ ⟨rfl, rfl⟩
              rintro _ _ ⟨rfl, rfl⟩
              intro hU
              refine W_loadAgg rfl rfl Proofs.Try.isAgg33 Proofs.Try.sizeOf33 rfl ((hc167.mono hle143).mono hX).at rfl ?_
              exact W_end (OneT_end [] (Hp.le_refl _) ⟨rfl, rfl⟩)
            · intro HX hX X Rest hR
              rintro _ _ ⟨rfl, rfl⟩
              rintro _ _ ⟨rfl, rfl⟩
              rintro _ _ ⟨rfl, rfl⟩
              intro hU
              refine W_eqAgg (b := decide (y160.Name = y164.Name) && (decide (y160.Closed = y164.Closed) && true)) rfl rfl (by kernel_rfl) rfl rfl (fun w => run_equal_struct (bs := [decide (y160.Name = y164.Name), decide (y160.Closed = y164.Closed)]) Proofs.Try.runUnderlying33 (by kernel_rfl) ⟨(by decide), (fldEq_str Proofs.Try.isAgg9 Proofs.Try.runUnderlying9 rfl rfl), (by decide), (fldEq_bool Proofs.Try.isAgg4 Proofs.Try.runUnderlying4 rfl rfl), trivial⟩) ?_
              exact W_end (OneT_end [] (Hp.le_refl _) ⟨rfl, (by rw [hb168]; try rfl)⟩)
            · intro HX hX X Rest hR
              rintro _ _ ⟨rfl, rfl⟩
              rintro _ _ ⟨rfl, rfl⟩
              intro hU
              refine W_pick rfl rfl rfl rfl ?_
              exact W_end (OneT_end [] (Hp.le_refl _) ⟨rfl, rfl⟩)
            · intro HX hX X Rest hR
              rintro _ _ ⟨rfl, rfl⟩
              rintro _ _ ⟨rfl, rfl⟩
              intro hU
              refine W_move rfl rfl rfl ?_
              exact W_end (OneT_end [] (Hp.le_refl _) ⟨rfl, rfl⟩)
            · intro HX hX X Rest hR
              rintro _ _ ⟨rfl, rfl⟩
              intro hU
              refine W_no rfl rfl rfl ?_
              exact W_end (OneT_end [] (Hp.le_refl _) ⟨rfl, rfl⟩)
            · intro HX hX X Rest hR
              rintro _ _ ⟨rfl, rfl⟩
              intro hU
              refine W_no rfl rfl rfl ?_
              exact W_end (OneT_end [] (Hp.le_refl _) ⟨rfl, rfl⟩)
            intro H169 hle170
            rintro _ _ ⟨rfl, rfl⟩
            rintro _ _ ⟨rfl, rfl⟩
            rintro _ _ ⟨rfl, rfl⟩
            rintro _ _ ⟨rfl, rfl⟩
            rintro _ _ ⟨rfl, rfl⟩
            rintro _ _ ⟨rfl, rfl⟩
            rintro _ _ ⟨rfl, rfl⟩
            rintro _ _ ⟨rfl, rfl⟩
            rintro _ _ ⟨rfl, rfl⟩
            rintro _ _ ⟨rfl, rfl⟩
            rintro _ _ ⟨rfl, rfl⟩
            rintro _ _ ⟨rfl, rfl⟩
            rintro _ _ ⟨rfl, rfl⟩
            rintro _ _ ⟨rfl, rfl⟩
            rintro _ _ ⟨rfl, rfl⟩
            rintro _ _ ⟨rfl, rfl⟩
            rintro _ _ ⟨rfl, rfl⟩
            rintro _ _ ⟨rfl, rfl⟩
            rintro _ _ ⟨rfl, rfl⟩
            rintro _ _ ⟨rfl, rfl⟩
            rintro _ _ ⟨rfl, rfl⟩
            rintro _ _ ⟨rfl, rfl⟩
            refine W_no rfl rfl rfl ?_
            refine W_no rfl rfl rfl ?_
            refine W_pick rfl rfl rfl rfl ?_
            refine W_assign rfl rfl rfl ?_
            refine W_end ?_
            refine E_then ?_
            refine C_ret ?_
            obtain rfl := Option.some.inj hm
            refine E_drop (List.Sublist.cons _ (List.Sublist.cons _ (List.Sublist.cons _ (List.Sublist.cons _ (List.Sublist.refl _))))) ?_
            refine E_weak (Hp.le_trans (Hp.le_trans hle118 hle143) hle170) ?_
            exact end1 rfl rfl ⟨rfl, rfl, rfl⟩
          · have hm := ite_t' hb168 hm
            refine C_region_tok0 22 (phiT [(fun H rs v => [] = rs ∧ .bool (true) = v), (fun H rs v => [] = rs ∧ .bool (true) = v), (fun H rs v => [] = rs ∧ v114 = v), (fun H rs v => [] = rs ∧ .int .i64 (((slc to 0 ((min (to.length : Int) 6 : Int).toNat)).length : Int)) = v), (fun H rs v => [] = rs ∧ v111 = v), (fun H rs v => [] = rs ∧ .int .i64 (((slc p1_from 0 ((min (p1_from.length : Int) 6 : Int).toNat)).length : Int)) = v), (fun H rs v => [] = rs ∧ .bool (true) = v), (fun H rs v => [] = rs ∧ .bool (true) = v), (fun H rs v => [] = rs ∧ .bool (true) = v), (fun H rs v => [] = rs ∧ v114 = v), (fun H rs v => [] = rs ∧ .int .i64 (r122) = v), (fun H rs v => [] = rs ∧ .pointer (some ((Value.base (v114)).add ((r122 : Int).toNat * 2))) = v), (fun H rs v => [] = rs ∧ .agg [.string (y160.Name), .bool (y160.Closed)].toArray = v), (fun H rs v => [] = rs ∧ v111 = v), (fun H rs v => [] = rs ∧ .int .i64 (r122) = v), (fun H rs v => [] = rs ∧ .pointer (some ((Value.base (v111)).add ((r122 : Int).toNat * 2))) = v), (fun H rs v => [] = rs ∧ .agg [.string (y164.Name), .bool (y164.Closed)].toArray = v), (fun H rs v => [] = rs ∧ .bool (true) = v), (fun H rs v => [] = rs ∧ .bool (true) = v), (fun H rs v => [] = rs ∧ .bool (true) = v), (fun H rs v => [] = rs ∧ v139 = v), (fun H rs v => [] = rs ∧ .func (.func 12) [].toArray [.pointer (some ⟨b101, 0, none⟩), .pointer (some ⟨b102, 0, none⟩)].toArray = v)]) [[], [], [], [], [], [], [], [], [], [], [], [], [], [], [], [], [], [], [], [], [], []] [[], [], [], [], [], [], [], [], [], [], [], [], [], [], [], [], [], [], [], [], [], []] [] [0, 1, 2, 3, 4, 5, 6, 7, 8, 9, 10, 11, 12, 13, 14, 15, 16, 17, 18, 19, 20, 21] Facts.mixed (by kernel_rfl) rfl rfl rfl (by kernel_rfl) (phiT_mono ⟨eq_monoT _ _, eq_monoT _ _, eq_monoT _ _, eq_monoT _ _, eq_monoT _ _, eq_monoT _ _, eq_monoT _ _, eq_monoT _ _, eq_monoT _ _, eq_monoT _ _, eq_monoT _ _, eq_monoT _ _, eq_monoT _ _, eq_monoT _ _, eq_monoT _ _, eq_monoT _ _, eq_monoT _ _, eq_monoT _ _, eq_monoT _ _, eq_monoT _ _, eq_monoT _ _, eq_monoT _ _, trivial⟩) ⟨?_, ?_, ?_, ?_, ?_, ?_, ?_, ?_, ?_, ?_, ?_, ?_, ?_, ?_, ?_, ?_, ?_, ?_, ?_, ?_, ?_, ?_, trivial⟩ ?_
            · intro HX hX X Rest hR
              intro hU
              refine W_call Proofs.Try.call9 rfl rfl rfl (fun w ht => by have h := m_gridhallkeep4_orderFact_c (hm := hc153)  ht; exact h) ?_
              rintro _ _ _ ⟨rfl, rfl, rfl⟩
              exact W_end (OneT_end [] (Hp.le_refl _) ⟨rfl, (by rw [hb154]; try rfl)⟩)
            · intro HX hX X Rest hR
              rintro _ _ ⟨rfl, rfl⟩
              rintro _ _ ⟨rfl, rfl⟩
              intro hU
              refine W_move rfl rfl rfl ?_
              exact W_end (OneT_end [] (Hp.le_refl _) ⟨rfl, rfl⟩)
            · intro HX hX X Rest hR
              rintro _ _ ⟨rfl, rfl⟩
              intro hU
              refine W_move rfl rfl rfl ?_
              exact W_end (OneT_end [] (Hp.le_refl _) ⟨rfl, rfl⟩)
            · intro HX hX X Rest hR
              rintro _ _ ⟨rfl, rfl⟩
              rintro _ _ ⟨rfl, rfl⟩
              intro hU
              refine W_lenR rfl rfl Proofs.Try.runUnderlying23 rfl ((h115.mono hle143).mono hX) ?_
              exact W_end (OneT_end [] (Hp.le_refl _) ⟨rfl, rfl⟩)
            · intro HX hX X Rest hR
              rintro _ _ ⟨rfl, rfl⟩
              intro hU
              refine W_load rfl rfl Proofs.Try.isAgg23 rfl (own_at (hR _ (List.mem_cons_of_mem _ (List.mem_cons_of_mem _ (List.mem_cons_of_mem _ (List.mem_cons_self ..))))) rfl) ?_
              exact W_end (OneT_end [] (Hp.le_refl _) ⟨rfl, rfl⟩)
            · intro HX hX X Rest hR
              rintro _ _ ⟨rfl, rfl⟩
              rintro _ _ ⟨rfl, rfl⟩
              intro hU
              refine W_lenR rfl rfl Proofs.Try.runUnderlying23 rfl ((h112.mono hle143).mono hX) ?_
              exact W_end (OneT_end [] (Hp.le_refl _) ⟨rfl, rfl⟩)
            · intro HX hX X Rest hR
              rintro _ _ ⟨rfl, rfl⟩
              rintro _ _ ⟨rfl, rfl⟩
              rintro _ _ ⟨rfl, rfl⟩
              intro hU
              refine W_bin rfl rfl rfl rfl rfl ?_
              exact W_end (OneT_end [] (Hp.le_refl _) ⟨rfl, (by rw [hb157]; try rfl)⟩)
            · intro HX hX X Rest hR
              rintro _ _ ⟨rfl, rfl⟩
              rintro _ _ ⟨rfl, rfl⟩
              intro hU
              refine W_pick rfl rfl rfl rfl ?_
              exact W_end (OneT_end [] (Hp.le_refl _) ⟨rfl, rfl⟩)
            · intro HX hX X Rest hR
              rintro _ _ ⟨rfl, rfl⟩
              rintro _ _ ⟨rfl, rfl⟩
              intro hU
              refine W_move rfl rfl rfl ?_
              exact W_end (OneT_end [] (Hp.le_refl _) ⟨rfl, rfl⟩)
            · intro HX hX X Rest hR
              rintro _ _ ⟨rfl, rfl⟩
              intro hU
              refine W_move rfl rfl rfl ?_
              exact W_end (OneT_end [] (Hp.le_refl _) ⟨rfl, rfl⟩)
            · intro HX hX X Rest hR
              rintro _ _ ⟨rfl, rfl⟩
              intro hU
              refine W_load rfl rfl Proofs.Try.isAgg3 rfl (own_at (hR _ (List.mem_cons_of_mem _ (List.mem_cons_of_mem _ (List.mem_cons_self ..)))) rfl) ?_
              exact W_end (OneT_end [] (Hp.le_refl _) ⟨rfl, rfl⟩)
            · intro HX hX X Rest hR
              rintro _ _ ⟨rfl, rfl⟩
              rintro _ _ ⟨rfl, rfl⟩
              rintro _ _ ⟨rfl, rfl⟩
              intro hU
              refine W_indexS rfl rfl Proofs.Try.runUnderlying23 Proofs.Try.sizeOf33 rfl ((h115.mono hle143).mono hX) rfl h161 he162 ?_
              exact W_end (OneT_end [] (Hp.le_refl _) ⟨rfl, rfl⟩)
            · intro HX hX X Rest hR
              rintro _ _ ⟨rfl, rfl⟩
              rintro _ _ ⟨rfl, rfl⟩
              intro hU
              refine W_loadAgg rfl rfl Proofs.Try.isAgg33 Proofs.Try.sizeOf33 rfl ((hc163.mono hle143).mono hX).at rfl ?_
              exact W_end (OneT_end [] (Hp.le_refl _) ⟨rfl, rfl⟩)
            · intro HX hX X Rest hR
              rintro _ _ ⟨rfl, rfl⟩
              intro hU
              refine W_load rfl rfl Proofs.Try.isAgg23 rfl (own_at (hR _ (List.mem_cons_of_mem _ (List.mem_cons_of_mem _ (List.mem_cons_of_mem _ (List.mem_cons_self ..))))) rfl) ?_
              exact W_end (OneT_end [] (Hp.le_refl _) ⟨rfl, rfl⟩)
            · intro HX hX X Rest hR
              rintro _ _ ⟨rfl, rfl⟩
              intro hU
              refine W_load rfl rfl Proofs.Try.isAgg3 rfl (own_at (hR _ (List.mem_cons_of_mem _ (List.mem_cons_of_mem _ (List.mem_cons_self ..)))) rfl) ?_
              exact W_end (OneT_end [] (Hp.le_refl _) ⟨rfl, rfl⟩)
            · intro HX hX X Rest hR
              rintro _ _ ⟨rfl, rfl⟩
              rintro _ _ ⟨rfl, rfl⟩
              rintro _ _ ⟨rfl, rfl⟩
              intro hU
              refine W_indexS rfl rfl Proofs.Try.runUnderlying23 Proofs.Try.sizeOf33 rfl ((h112.mono hle143).mono hX) rfl h165 he166 ?_
              exact W_end (OneT_end [] (Hp.le_refl _) ⟨rfl, rfl⟩)
            · intro HX hX X Rest hR
              rintro _ _ ⟨rfl, rfl⟩
              rintro _ _ ⟨rfl, rfl⟩
              intro hU
              refine W_loadAgg rfl rfl Proofs.Try.isAgg33 Proofs.Try.sizeOf33 rfl ((hc167.mono hle143).mono hX).at rfl ?_
              exact W_end (OneT_end [] (Hp.le_refl _) ⟨rfl, rfl⟩)
            · intro HX hX X Rest hR
              rintro _ _ ⟨rfl, rfl⟩
              rintro _ _ ⟨rfl, rfl⟩
              rintro _ _ ⟨rfl, rfl⟩
              intro hU
              refine W_eqAgg (b := decide (y160.Name = y164.Name) && (decide (y160.Closed = y164.Closed) && true)) rfl rfl (by kernel_rfl) rfl rfl (fun w => run_equal_struct (bs := [decide (y160.Name = y164.Name), decide (y160.Closed = y164.Closed)]) Proofs.Try.runUnderlying33 (by kernel_rfl) ⟨(by decide), (fldEq_str Proofs.Try.isAgg9 Proofs.Try.runUnderlying9 rfl rfl), (by decide), (fldEq_bool Proofs.Try.isAgg4 Proofs.Try.runUnderlying4 rfl rfl), trivial⟩) ?_
              exact W_end (OneT_end [] (Hp.le_refl _) ⟨rfl, (by rw [hb168]; try rfl)⟩)
            · intro HX hX X Rest hR
              rintro _ _ ⟨rfl, rfl⟩
              rintro _ _ ⟨rfl, rfl⟩
              intro hU
              refine W_pick rfl rfl rfl rfl ?_
              exact W_end (OneT_end [] (Hp.le_refl _) ⟨rfl, rfl⟩)
            · intro HX hX X Rest hR
              rintro _ _ ⟨rfl, rfl⟩
              rintro _ _ ⟨rfl, rfl⟩
              intro hU
              refine W_move rfl rfl rfl ?_
              exact W_end (OneT_end [] (Hp.le_refl _) ⟨rfl, rfl⟩)
            · intro HX hX X Rest hR
              rintro _ _ ⟨rfl, rfl⟩
              intro hU
              refine W_move rfl rfl rfl ?_
              exact W_end (OneT_end [] (Hp.le_refl _) ⟨rfl, rfl⟩)
            · intro HX hX X Rest hR
              rintro _ _ ⟨rfl, rfl⟩
              intro hU
              refine W_makeFunc rfl rfl rfl rfl ?_
              exact W_end (OneT_end [] (Hp.le_refl _) ⟨rfl, rfl⟩)
            intro H171 hle172
            rintro _ _ ⟨rfl, rfl⟩
            rintro _ _ ⟨rfl, rfl⟩
            rintro _ _ ⟨rfl, rfl⟩
            rintro _ _ ⟨rfl, rfl⟩
            rintro _ _ ⟨rfl, rfl⟩
            rintro _ _ ⟨rfl, rfl⟩
            rintro _ _ ⟨rfl, rfl⟩
            rintro _ _ ⟨rfl, rfl⟩
            rintro _ _ ⟨rfl, rfl⟩
            rintro _ _ ⟨rfl, rfl⟩
            rintro _ _ ⟨rfl, rfl⟩
            rintro _ _ ⟨rfl, rfl⟩
            rintro _ _ ⟨rfl, rfl⟩
            rintro _ _ ⟨rfl, rfl⟩
            rintro _ _ ⟨rfl, rfl⟩
            rintro _ _ ⟨rfl, rfl⟩
            rintro _ _ ⟨rfl, rfl⟩
            rintro _ _ ⟨rfl, rfl⟩
            rintro _ _ ⟨rfl, rfl⟩
            rintro _ _ ⟨rfl, rfl⟩
            rintro _ _ ⟨rfl, rfl⟩
            rintro _ _ ⟨rfl, rfl⟩
            refine W_perm (List.Perm.trans (List.Perm.swap _ _ _) (List.Perm.trans (List.Perm.cons _ (List.Perm.cons _ (List.Perm.swap _ _ _))) (List.Perm.trans (List.Perm.cons _ (List.Perm.swap _ _ _)) (List.Perm.cons _ (List.Perm.cons _ (List.Perm.swap _ _ _)))))) ?_
            obtain ⟨r173, hc174, hm⟩ := bind_some hm
            refine W_call Proofs.Try.call11 rfl rfl rfl (fun w ht => by obtain ⟨H0_, hl0_, ht0_, hr0_, bk0_⟩ := ht.lendRow (h141.mono hle172) rfl; have h := m_slices_ContainsFunc_api_OrderStep_api_OrderStep__gridhallkeep4_OrderHeld_1_c (hm := hc174) hr0_ (((h112.mono hle143).mono hle172).mono hl0_) ht0_; exact lend_back bk0_ (h)) ?_
            rintro _ _ _ ⟨rfl, ⟨_, rfl, rfl, rfl⟩⟩
            refine W_un rfl rfl rfl rfl ?_
            refine W_pick rfl rfl rfl rfl ?_
            refine W_assign rfl rfl rfl ?_
            refine W_end ?_
            refine E_then ?_
            refine C_ret ?_
            obtain rfl := Option.some.inj hm
            refine E_drop (List.Sublist.cons _ (List.Sublist.cons _ (List.Sublist.cons _ (List.Sublist.cons _ (List.Sublist.refl _))))) ?_
            refine E_weak (Hp.le_trans (Hp.le_trans hle118 hle143) hle172) ?_
            exact end1 rfl rfl ⟨rfl, rfl, rfl⟩

theorem m_order_Reach_c {B : Nat} {w0 w : World} {H : Hp} {M : List Res} {rules : (List S_api_InterlockRule)} {p1_from : (List S_api_InterlockState)} {held : (List ByteArray)} {v0 : Value} {v1 : Value} {v2 : Value} {r : Int × Int} (hm : m_order_Reach rules p1_from held = some r) (h0 : RdS H v0 rules) (h1 : RdS H v1 p1_from) (h2 : RdS H v2 held) (ht : St B w0 H (M) w) :
    Calls Proofs.Try.prog 13 [v0, v1, v2].toArray w (Ret B w0 fun H' M' v => H = H' ∧ M = M' ∧ .tuple #[.int .i64 (r.1), .int .i64 (r.2)] = v) := by
  unfold m_order_Reach at hm
  refine enter Proofs.Try.func13 rfl rfl rfl ht ?_
  refine C_seq ?_
  refine C_region ?_
  refine W_assign rfl rfl rfl ?_
  refine W_assign rfl rfl rfl ?_
  refine W_end ?_
  refine E_then ?_
  refine C_seq ?_
  refine C_seq ?_
  refine C_region ?_
  refine W_move rfl rfl rfl ?_
  refine W_move rfl rfl rfl ?_
  refine W_move rfl rfl rfl ?_
  refine W_move rfl rfl rfl ?_
  obtain ⟨r101, hc102, hm⟩ := bind_some hm
  refine W_call Proofs.Try.call18 rfl rfl rfl (fun w ht => by have h := m_order_check_c (hm := hc102) h0 h1 h1 h2 ht; exact h) ?_
  rintro _ _ _ ⟨rfl, rfl, rfl⟩
  refine W_assign rfl rfl rfl ?_
  refine W_end ?_
  refine E_then ?_
  refine C_seq ?_
  refine C_region ?_
  refine W_move rfl rfl rfl ?_
  refine W_bin rfl rfl rfl rfl rfl ?_
  refine W_end ?_
  refine E_then ?_
  refine C_cond (b := !decide (r101 = 0)) rfl (fun hb103 => ?_) (fun hb103 => ?_)
  · have hm := ite_t' hb103 hm
    refine C_seq ?_
    refine C_region ?_
    refine W_move rfl rfl rfl ?_
    refine W_assign rfl rfl rfl ?_
    refine W_assign rfl rfl rfl ?_
    refine W_end ?_
    refine E_then ?_
    refine C_ret ?_
    refine E_ret_then ?_
    obtain rfl := Option.some.inj hm
    refine E_weak (Hp.le_refl _) ?_
    exact end2 rfl rfl rfl ⟨rfl, rfl, rfl⟩
  · have hm := ite_f' hb103 hm
    refine C_skip ?_
    refine E_then ?_
    refine C_seq ?_
    refine C_region ?_
    refine W_assign rfl rfl rfl ?_
    refine W_end ?_
    refine E_then ?_
    refine C_seq ?_
    refine C_seq ?_
    refine C_region ?_
    refine W_move rfl rfl rfl ?_
    refine W_move rfl rfl rfl ?_
    refine W_move rfl rfl rfl ?_
    obtain ⟨r104, hc105, hm⟩ := bind_some hm
    refine W_call Proofs.Try.call19 rfl rfl rfl (fun w ht => by have h := m_order_walk_c (hm := hc105) h0 h1 h2 ht; exact h) ?_
    rintro _ _ _ ⟨rfl, xs106, rfl, rfl, h107, hl108⟩
    have h107 := h107 H
    refine W_move rfl rfl rfl ?_
    refine W_end ?_
    refine E_then ?_
    refine C_block ?_
    refine C_keep (L' := [(9, .int .i64 (0)), (23, .agg (xs106).toArray), (24, .int .i64 (((0 : Nat) : Int)))]) ⟨rfl, rfl, rfl, trivial⟩ (List.Perm.refl _) ?_
    refine C_loop (fun n H' M' L' => ∃ (k109 : Nat) (zs144' : Nat), ∃ n136 : Int, k109 + zs144' = (256 : Int).toNat ∧ zs144' = n ∧ forN (fun k s139 n => m_order_Reach_b3 r104 k s139 n) (fun s139 => some (s139, 0)) zs144' k109 n136 = some r ∧ H.le H' ∧ M = M' ∧ [(9, .int .i64 (n136)), (23, .agg (xs106).toArray), (24, .int .i64 ((k109 : Int)))] = L') _ ⟨0, _, 0, Nat.zero_add _, rfl, hm, (Hp.le_refl _), rfl, rfl⟩ ?_
    rintro _ H137 _ _ ⟨k109, zs144', n136, hd146, rfl, hm, hle138, rfl, rfl⟩
    refine C_seq ?_
    refine C_region ?_
    refine W_bin rfl rfl rfl rfl rfl ?_
    refine W_end (E_then ?_)
    refine C_seq ?_
    refine C_cond (b := decide ((k109 : Int) < 256)) rfl (fun hb148 => ?_) (fun hb148 => ?_)
    · obtain ⟨zs144, rfl, hd147, hy145⟩ := rngN_t hd146 hb148
      have hm : m_order_Reach_b3 r104 k109 n136 (forN (fun k s139 n => m_order_Reach_b3 r104 k s139 n) (fun s139 => some (s139, 0)) zs144 (k109 + 1)) = some r := hm
      generalize hn141 : forN (fun k s139 n => m_order_Reach_b3 r104 k s139 n) (fun s139 => some (s139, 0)) zs144 (k109 + 1) = nx140 at hm
      unfold m_order_Reach_b3 at hm
      refine C_skip (E_then ?_)
      refine C_seq_join (fun H' M' L' => ∃ n154 : Int, m_order_Reach_b4 nx140 n154 = some r ∧ H137 = H' ∧ M = M' ∧ [(9, .int .i64 (n154)), (23, .agg (xs106).toArray), (24, .int .i64 ((k109 : Int)))] = L') ?_ (fun J155 => ?_)
      · rintro _ _ _ ⟨n154, hm, rfl, rfl, rfl⟩
        unfold m_order_Reach_b4 at hm
        refine C_region ?_
        refine W_bin rfl rfl rfl rfl rfl ?_
        refine W_move rfl rfl rfl ?_
        refine W_end ?_
        exact E_keepJ (E_back (Nat.lt_succ_self _) ⟨k109 + 1, zs144, n154, hd147, rfl, (by rw [hn141]; exact hm), hle138, rfl, rfl⟩) (List.Perm.refl _) ⟨rfl, rfl, (congrArg (fun z => some (Value.int .i64 z)) (i64_succN hy145 (toNat_max (by decide)))), trivial⟩
      · refine C_block ?_
        refine C_seq ?_
        refine C_region ?_
        obtain ⟨y156, h157, he158, hm⟩ := idx_some hm
        obtain ⟨_, rfl, hg159⟩ := (h107).get _ _ he158
        refine W_indexV rfl rfl Proofs.Try.runUnderlying53 Proofs.Try.isAgg3 Proofs.Try.sizeOf3 rfl rfl h157 (by have := (List.getElem?_eq_some_iff.1 he158).1; omega) (hg159 0 _ rfl) ?_
        refine W_assign rfl rfl rfl ?_
        refine W_end ?_
        refine E_then ?_
        refine C_seq ?_
        refine C_region ?_
        refine W_move rfl rfl rfl ?_
        refine W_bin rfl rfl rfl rfl rfl ?_
        refine W_end ?_
        refine E_then ?_
        refine C_cond (b := !decide (y156 = (-2))) rfl (fun hb160 => ?_) (fun hb160 => ?_)
        · have hm := ite_t' hb160 hm
          refine C_region ?_
          refine W_move rfl rfl rfl ?_
          refine W_bin rfl rfl rfl rfl rfl ?_
          refine W_assign rfl rfl rfl ?_
          refine W_end ?_
          refine E_normal_block ?_
          exact E_keepJ (J155 _ _ _ ⟨IntKind.i64.wrap (n136 + 1), hm, rfl, rfl, rfl⟩) (List.Perm.refl _) ⟨rfl, rfl, rfl, trivial⟩
        · have hm := ite_f' hb160 hm
          refine C_skip ?_
          refine E_normal_block ?_
          exact E_keepJ (J155 _ _ _ ⟨n136, hm, rfl, rfl, rfl⟩) (List.Perm.refl _) ⟨rfl, rfl, rfl, trivial⟩
    · obtain rfl := rngN_f hd146 hb148
      have hm : (some (n136, 0)) = some r := hm
      refine C_exit (E_exit_then ?_)
      refine E_exit_then ?_
      refine E_exit_hit ?_
      refine E_then ?_
      refine C_seq ?_
      refine C_region ?_
      refine W_move rfl rfl rfl ?_
      refine W_assign rfl rfl rfl ?_
      refine W_assign rfl rfl rfl ?_
      refine W_end ?_
      refine E_then ?_
      refine C_ret ?_
      obtain rfl := Option.some.inj hm
      refine E_weak hle138 ?_
      exact end2 rfl rfl rfl ⟨rfl, rfl, rfl⟩

theorem m_gridhallkeep4_OrderReach_c {B : Nat} {w0 w : World} {H : Hp} {M : List Res} {rules : (List S_api_InterlockRule)} {p1_from : (List S_api_InterlockState)} {held : (List ByteArray)} {v0 : Value} {v1 : Value} {v2 : Value} {r : Bool} (hm : m_gridhallkeep4_OrderReach rules p1_from held = some r) (h0 : RdS H v0 rules) (h1 : RdS H v1 p1_from) (h2 : RdS H v2 held) (ht : St B w0 H (M) w) :
    Calls Proofs.Try.prog 5 [v0, v1, v2].toArray w (Ret B w0 fun H' M' v => H = H' ∧ M = M' ∧ .bool (r) = v) := by
  unfold m_gridhallkeep4_OrderReach at hm
  refine enter Proofs.Try.func5 rfl rfl rfl ht ?_
  refine C_seq ?_
  refine C_region ?_
  refine W_assign rfl rfl rfl ?_
  refine W_end ?_
  refine E_then ?_
  refine C_seq ?_
  refine C_region ?_
  refine W_move rfl rfl rfl ?_
  refine W_move rfl rfl rfl ?_
  refine W_lenR rfl rfl Proofs.Try.runUnderlying23 rfl h1 ?_
  refine W_min rfl rfl rfl rfl ?_
  obtain ⟨hz101, hm⟩ := need_some hm
  refine W_sliceR (α := S_api_InterlockState) (l := 0) (h := (min (p1_from.length : Int) 4 : Int).toNat) (xs := p1_from) rfl rfl Proofs.Try.runUnderlying23 Proofs.Try.sizeOf33 rfl h1 (by omega) (by omega) (.inl rfl) (fun cap hcap => by rw [if_pos rfl]; exact (.inl ⟨rfl, rfl⟩)) (fun m hmm => (.inr ⟨_, _, _, rfl, rfl, by omega, by omega, rfl⟩)) (.inl ⟨rfl, rfl⟩) ?_
  intro v102 h103 hc104
  refine W_assign rfl rfl rfl ?_
  refine W_end ?_
  refine E_then ?_
  refine C_seq ?_
  refine C_region ?_
  refine W_move rfl rfl rfl ?_
  refine W_move rfl rfl rfl ?_
  refine W_move rfl rfl rfl ?_
  obtain ⟨r105, hc106, hm⟩ := bind_some hm
  refine W_call Proofs.Try.call13 rfl rfl rfl (fun w ht => by have h := m_order_Reach_c (hm := hc106) h0 h103 h2 ht; exact h) ?_
  rintro _ _ _ ⟨rfl, rfl, rfl⟩
  refine W_move rfl rfl rfl ?_
  refine W_extract rfl rfl rfl rfl ?_
  refine W_extract rfl rfl rfl rfl ?_
  refine W_assign rfl rfl rfl ?_
  refine W_assign rfl rfl rfl ?_
  refine W_end ?_
  refine E_then ?_
  refine C_seq ?_
  refine C_seq ?_
  refine C_region ?_
  refine W_move rfl rfl rfl ?_
  refine W_bin rfl rfl rfl rfl rfl ?_
  refine W_end ?_
  refine E_then ?_
  refine C_cond (b := !decide (r105.2 = 0)) rfl (fun hb107 => ?_) (fun hb107 => ?_)
  · have hm := ite_t' hb107 hm
    obtain ⟨r111, hc112, hm⟩ := bind_some hm
    refine C_seq_join (fun H' M' L' => H = H' ∧ M = M' ∧ [(6, .bool (r111 && (decide (r105.1 = 0))))] = L') ?_ (fun J113 => ?_)
    · rintro _ _ _ ⟨rfl, rfl, rfl⟩
      refine C_ret ?_
      refine E_ret_then ?_
      obtain rfl := Option.some.inj hm
      refine E_weak (Hp.le_refl _) ?_
      exact end1 rfl rfl ⟨rfl, rfl, rfl⟩
    · refine C_region ?_
      refine W_call Proofs.Try.call9 rfl rfl rfl (fun w ht => by have h := m_gridhallkeep4_orderFact_c (hm := hc112)  ht; exact h) ?_
      rintro _ _ _ ⟨rfl, rfl, rfl⟩
      refine W_move rfl rfl rfl ?_
      cases hb114 : (r111)
      · refine W_no rfl rfl rfl ?_
        refine W_no rfl rfl rfl ?_
        refine W_pick rfl rfl rfl rfl ?_
        refine W_assign rfl rfl rfl ?_
        refine W_end ?_
        exact E_keepJ (J113 _ _ _ ⟨rfl, rfl, rfl⟩) (List.Perm.refl _) ⟨(by show some (Value.bool (false)) = some (Value.bool (r111 && (decide (r105.1 = 0)))); simp only [hb107, hb114, Bool.and_true, Bool.true_and, Bool.false_and, Bool.and_false, Bool.or_true, Bool.true_or, Bool.or_false, Bool.false_or, Bool.not_true, Bool.not_false]), trivial⟩
      · refine W_move rfl rfl rfl ?_
        refine W_bin rfl rfl rfl rfl rfl ?_
        refine W_pick rfl rfl rfl rfl ?_
        refine W_assign rfl rfl rfl ?_
        refine W_end ?_
        exact E_keepJ (J113 _ _ _ ⟨rfl, rfl, rfl⟩) (List.Perm.refl _) ⟨(by show some (Value.bool (decide (r105.1 = 0))) = some (Value.bool (r111 && (decide (r105.1 = 0)))); simp only [hb107, hb114, Bool.and_true, Bool.true_and, Bool.false_and, Bool.and_false, Bool.or_true, Bool.true_or, Bool.or_false, Bool.false_or, Bool.not_true, Bool.not_false]), trivial⟩
  · have hm := ite_f' hb107 hm
    refine C_skip ?_
    refine E_then ?_
    refine C_seq ?_
    refine C_region ?_
    refine W_assign rfl rfl rfl ?_
    refine W_end ?_
    refine E_then ?_
    refine C_seq ?_
    refine C_seq ?_
    refine C_region ?_
    refine W_move rfl rfl rfl ?_
    refine W_lenR rfl rfl Proofs.Try.runUnderlying23 rfl h103 ?_
    obtain ⟨hq115, hm⟩ := need_some hm
    refine W_shl rfl rfl rfl rfl hq115 ?_
    refine W_move rfl rfl rfl ?_
    refine W_end ?_
    refine E_then ?_
    refine C_block ?_
    obtain ⟨hq390, hm⟩ := need_some hm
    refine C_keep (L' := [(0, v0), (1, v102), (2, v2), (7, .int .i64 (r105.1)), (9, .int .i64 (0)), (36, .int .i64 (shlV .i64 1 ((slc p1_from 0 ((min (p1_from.length : Int) 4 : Int).toNat)).length : Int))), (37, .int .i64 (((0 : Nat) : Int)))]) ⟨rfl, rfl, rfl, rfl, rfl, rfl, rfl, trivial⟩ (List.Perm.refl _) ?_
    refine C_loop (fun n H' M' L' => ∃ (k116 : Nat) (zs392' : Nat), ∃ n383 : Int, k116 + zs392' = (shlV .i64 1 ((slc p1_from 0 ((min (p1_from.length : Int) 4 : Int).toNat)).length : Int) : Int).toNat ∧ zs392' = n ∧ forN (fun k s386 n => m_gridhallkeep4_OrderReach_b7 rules p1_from held k s386 n) (fun s386 => (m_gridhallkeep4_orderFact).bind fun r530 => some (r530 && (decide (r105.1 = s386)))) zs392' k116 n383 = some r ∧ H.le H' ∧ M = M' ∧ [(0, v0), (1, v102), (2, v2), (7, .int .i64 (r105.1)), (9, .int .i64 (n383)), (36, .int .i64 (shlV .i64 1 ((slc p1_from 0 ((min (p1_from.length : Int) 4 : Int).toNat)).length : Int))), (37, .int .i64 ((k116 : Int)))] = L') _ ⟨0, _, 0, Nat.zero_add _, rfl, hm, (Hp.le_refl _), rfl, rfl⟩ ?_
    rintro _ H384 _ _ ⟨k116, zs392', n383, hd394, rfl, hm, hle385, rfl, rfl⟩
    refine C_seq ?_
    refine C_region ?_
    refine W_bin rfl rfl rfl rfl rfl ?_
    refine W_end (E_then ?_)
    refine C_seq ?_
    refine C_cond (b := decide ((k116 : Int) < (shlV .i64 1 ((slc p1_from 0 ((min (p1_from.length : Int) 4 : Int).toNat)).length : Int)))) rfl (fun hb396 => ?_) (fun hb396 => ?_)
    · obtain ⟨zs392, rfl, hd395, hy393⟩ := rngN_t hd394 hb396
      have hm : m_gridhallkeep4_OrderReach_b7 rules p1_from held k116 n383 (forN (fun k s386 n => m_gridhallkeep4_OrderReach_b7 rules p1_from held k s386 n) (fun s386 => (m_gridhallkeep4_orderFact).bind fun r530 => some (r530 && (decide (r105.1 = s386)))) zs392 (k116 + 1)) = some r := hm
      generalize hn388 : forN (fun k s386 n => m_gridhallkeep4_OrderReach_b7 rules p1_from held k s386 n) (fun s386 => (m_gridhallkeep4_orderFact).bind fun r530 => some (r530 && (decide (r105.1 = s386)))) zs392 (k116 + 1) = nx387 at hm
      unfold m_gridhallkeep4_OrderReach_b7 at hm
      refine C_skip (E_then ?_)
      refine C_seq_join (fun H' M' L' => ∃ n460 : Int, m_gridhallkeep4_OrderReach_b9 nx387 n460 = some r ∧ H384.le H' ∧ M = M' ∧ [(0, v0), (1, v102), (2, v2), (7, .int .i64 (r105.1)), (9, .int .i64 (n460)), (36, .int .i64 (shlV .i64 1 ((slc p1_from 0 ((min (p1_from.length : Int) 4 : Int).toNat)).length : Int))), (37, .int .i64 ((k116 : Int)))] = L') ?_ (fun J463 => ?_)
      · rintro H461 _ _ ⟨n460, hm, hle462, rfl, rfl⟩
        unfold m_gridhallkeep4_OrderReach_b9 at hm
        refine C_region ?_
        refine W_bin rfl rfl rfl rfl rfl ?_
        refine W_move rfl rfl rfl ?_
        refine W_end ?_
        exact E_keepJ (E_back (Nat.lt_succ_self _) ⟨k116 + 1, zs392, n460, hd395, rfl, (by rw [hn388]; exact hm), (Hp.le_trans hle385 hle462), rfl, rfl⟩) (List.Perm.refl _) ⟨rfl, rfl, rfl, rfl, rfl, rfl, (congrArg (fun z => some (Value.int .i64 z)) (i64_succN hy393 (toNat_max hq390))), trivial⟩
      · refine C_block ?_
        refine C_seq ?_
        refine C_region ?_
        refine W_move rfl rfl rfl ?_
        refine W_assign rfl rfl rfl ?_
        refine W_end ?_
        refine E_then ?_
        refine C_seq ?_
        refine C_region ?_
        refine W_move rfl rfl rfl ?_
        obtain ⟨hz464, hm⟩ := need_some hm
        refine W_call Proofs.Try.call14 rfl rfl rfl (fun w ht => by have h := clone14_c (s := slc p1_from 0 ((min (p1_from.length : Int) 4 : Int).toNat)) (h103.mono hle385) hz464 ht; exact h) ?_
        rintro _ _ _ ⟨rfl, v465, xs466, rfl, rfl, hr467⟩
        have hr467 := hr467 H384
        refine W_assign rfl rfl rfl ?_
        refine W_end ?_
        refine E_then ?_
        refine C_seq ?_
        refine C_seq ?_
        refine C_region ?_
        refine W_move rfl rfl rfl ?_
        refine W_lenO (List.mem_cons_self ..) rfl rfl Proofs.Try.runUnderlying23 rfl ?_
        refine W_move rfl rfl rfl ?_
        refine W_end ?_
        refine E_then ?_
        refine C_block ?_
        refine C_rowMax (List.mem_cons_self ..) (fun hmx505 => ?_)
        refine C_keep (L' := [(0, v0), (1, v102), (2, v2), (7, .int .i64 (r105.1)), (9, .int .i64 (n383)), (10, .int .i64 ((k116 : Int))), (11, v465), (36, .int .i64 (shlV .i64 1 ((slc p1_from 0 ((min (p1_from.length : Int) 4 : Int).toNat)).length : Int))), (37, .int .i64 ((k116 : Int))), (43, .int .i64 (((slc p1_from 0 ((min (p1_from.length : Int) 4 : Int).toNat)).length : Int))), (44, .int .i64 (((0 : Nat) : Int)))]) ⟨rfl, rfl, rfl, rfl, rfl, rfl, rfl, rfl, rfl, rfl, rfl, trivial⟩ (List.Perm.refl _) ?_
        refine C_loop (fun n H' M' L' => ∃ (k468 : Nat) (zs507' : Nat), ∃ l497 : List S_api_InterlockState, ∃ xs496 : List Value, k468 + zs507' = (((slc p1_from 0 ((min (p1_from.length : Int) 4 : Int).toNat)).length : Int) : Int).toNat ∧ zs507' = n ∧ forN (fun k s501 n => m_gridhallkeep4_OrderReach_b10 k116 k s501 n) (fun s501 => (m_order_Plan rules (slc p1_from 0 ((min (p1_from.length : Int) 4 : Int).toNat)) s501 held).bind fun r521 => if decide (r521.2 = 0) then (m_gridhallkeep4_OrderReach_b9 nx387 (IntKind.i64.wrap (n383 + 1))) else (m_gridhallkeep4_OrderReach_b9 nx387 n383)) zs507' k468 l497 = some r ∧ Rw H' v465 xs496 l497 ∧ H384.le H' ∧ .row v465 33 (Rep.sz S_api_InterlockState) l497.length xs496 :: M = M' ∧ [(0, v0), (1, v102), (2, v2), (7, .int .i64 (r105.1)), (9, .int .i64 (n383)), (10, .int .i64 ((k116 : Int))), (11, v465), (36, .int .i64 (shlV .i64 1 ((slc p1_from 0 ((min (p1_from.length : Int) 4 : Int).toNat)).length : Int))), (37, .int .i64 ((k116 : Int))), (43, .int .i64 (((slc p1_from 0 ((min (p1_from.length : Int) 4 : Int).toNat)).length : Int))), (44, .int .i64 ((k468 : Int)))] = L') _ ⟨0, _, (slc p1_from 0 ((min (p1_from.length : Int) 4 : Int).toNat)), xs466, Nat.zero_add _, rfl, hm, hr467, (Hp.le_refl _), rfl, rfl⟩ ?_
        rintro _ H499 _ _ ⟨k468, zs507', l497, xs496, hd509, rfl, hm, hr498, hle500, rfl, rfl⟩
        refine C_seq ?_
        refine C_region ?_
        refine W_bin rfl rfl rfl rfl rfl ?_
        refine W_end (E_then ?_)
        refine C_seq ?_
        refine C_cond (b := decide ((k468 : Int) < ((slc p1_from 0 ((min (p1_from.length : Int) 4 : Int).toNat)).length : Int))) rfl (fun hb511 => ?_) (fun hb511 => ?_)
        · obtain ⟨zs507, rfl, hd510, hy508⟩ := rngN_t hd509 hb511
          have hm : m_gridhallkeep4_OrderReach_b10 k116 k468 l497 (forN (fun k s501 n => m_gridhallkeep4_OrderReach_b10 k116 k s501 n) (fun s501 => (m_order_Plan rules (slc p1_from 0 ((min (p1_from.length : Int) 4 : Int).toNat)) s501 held).bind fun r521 => if decide (r521.2 = 0) then (m_gridhallkeep4_OrderReach_b9 nx387 (IntKind.i64.wrap (n383 + 1))) else (m_gridhallkeep4_OrderReach_b9 nx387 n383)) zs507 (k468 + 1)) = some r := hm
          generalize hn503 : forN (fun k s501 n => m_gridhallkeep4_OrderReach_b10 k116 k s501 n) (fun s501 => (m_order_Plan rules (slc p1_from 0 ((min (p1_from.length : Int) 4 : Int).toNat)) s501 held).bind fun r521 => if decide (r521.2 = 0) then (m_gridhallkeep4_OrderReach_b9 nx387 (IntKind.i64.wrap (n383 + 1))) else (m_gridhallkeep4_OrderReach_b9 nx387 n383)) zs507 (k468 + 1) = nx502 at hm
          unfold m_gridhallkeep4_OrderReach_b10 at hm
          refine C_skip (E_then ?_)
          refine C_seq ?_
          refine C_block ?_
          refine C_seq ?_
          refine C_region ?_
          refine W_move rfl rfl rfl ?_
          refine W_assign rfl rfl rfl ?_
          refine W_end ?_
          refine E_then ?_
          refine C_region ?_
          refine W_move rfl rfl rfl ?_
          refine W_move rfl rfl rfl ?_
          refine W_move rfl rfl rfl ?_
          refine W_move rfl rfl rfl ?_
          obtain ⟨hq512, hm⟩ := need_some hm
          refine W_shr rfl rfl rfl rfl hq512 ?_
          refine W_bin rfl rfl rfl rfl rfl ?_
          refine W_bin rfl rfl rfl rfl rfl ?_
          obtain ⟨y513, h514, he515, hm⟩ := idx_some hm
          refine W_indexO (List.mem_cons_self ..) rfl rfl Proofs.Try.runUnderlying23 Proofs.Try.sizeOf33 rfl rfl h514 (List.getElem?_eq_some_iff.1 he515).1 ?_
          obtain ⟨_, rfl, hg516⟩ := (hr498).elem he515
          refine W_field (o := 1) rfl rfl Proofs.Try.runUnderlying33 rfl Proofs.Try.sizeOf4 rfl rfl rfl ?_
          obtain ⟨hr517, he518, hg519⟩ := Rw.put (cs := [.bool (decide ((IntKind.i64.wrap ((BitVec.ofInt (IntKind.i64).bits (shrV .i64 (k116 : Int) (k468 : Int)) &&& BitVec.ofInt (IntKind.i64).bits 1).toNat)) = 1))]) (o := 1) (c := [.string (y513.Name), .bool (y513.Closed)]) (out := [.string (y513.Name), .bool (decide ((IntKind.i64.wrap ((BitVec.ofInt (IntKind.i64).bits (shrV .i64 (k116 : Int) (k468 : Int)) &&& BitVec.ofInt (IntKind.i64).bits 1).toNat)) = 1))]) (e2 := (S_api_InterlockState.mk y513.Name (decide ((IntKind.i64.wrap ((BitVec.ofInt (IntKind.i64).bits (shrV .i64 (k116 : Int) (k468 : Int)) &&& BitVec.ofInt (IntKind.i64).bits 1).toNat)) = 1)))) hr498 he515 rfl hg516 rfl rfl rfl
          refine W_storeO2 (i := ((k468 : Int) : Int).toNat * Rep.sz S_api_InterlockState + 1) (cs := [.bool (decide ((IntKind.i64.wrap ((BitVec.ofInt (IntKind.i64).bits (shrV .i64 (k116 : Int) (k468 : Int)) &&& BitVec.ofInt (IntKind.i64).bits 1).toNat)) = 1))]) rfl Proofs.Try.sizeOf4 rfl (row_ad _ _ _) rfl rfl rfl (Rw.room hr498 he515 rfl) rfl (all_cons rfl all_nil) (n' := (l497.set (((k468 : Int) : Int).toNat) (S_api_InterlockState.mk y513.Name (decide ((IntKind.i64.wrap ((BitVec.ofInt (IntKind.i64).bits (shrV .i64 (k116 : Int) (k468 : Int)) &&& BitVec.ofInt (IntKind.i64).bits 1).toNat)) = 1)))).length) List.length_set ?_
          generalize over xs496 (((k468 : Int) : Int).toNat * Rep.sz S_api_InterlockState + 1) [.bool (decide ((IntKind.i64.wrap ((BitVec.ofInt (IntKind.i64).bits (shrV .i64 (k116 : Int) (k468 : Int)) &&& BitVec.ofInt (IntKind.i64).bits 1).toNat)) = 1))] = xs520 at hr517 hg519 ⊢
          refine W_end ?_
          refine E_normal_block ?_
          refine E_then ?_
          refine C_region ?_
          refine W_bin rfl rfl rfl rfl rfl ?_
          refine W_move rfl rfl rfl ?_
          refine W_end ?_
          exact E_keepJ (E_back (Nat.lt_succ_self _) ⟨k468 + 1, zs507, (l497.set (((k468 : Int) : Int).toNat) (S_api_InterlockState.mk y513.Name (decide ((IntKind.i64.wrap ((BitVec.ofInt (IntKind.i64).bits (shrV .i64 (k116 : Int) (k468 : Int)) &&& BitVec.ofInt (IntKind.i64).bits 1).toNat)) = 1)))), xs520, hd510, rfl, (by rw [hn503]; exact hm), hr517, hle500, rfl, rfl⟩) (List.Perm.refl _) ⟨rfl, rfl, rfl, rfl, rfl, rfl, rfl, rfl, rfl, rfl, (congrArg (fun z => some (Value.int .i64 z)) (i64_succN hy508 (toNat_max (len_max hmx505)))), trivial⟩
        · obtain rfl := rngN_f hd509 hb511
          have hm : ((m_order_Plan rules (slc p1_from 0 ((min (p1_from.length : Int) 4 : Int).toNat)) l497 held).bind fun r521 => if decide (r521.2 = 0) then (m_gridhallkeep4_OrderReach_b9 nx387 (IntKind.i64.wrap (n383 + 1))) else (m_gridhallkeep4_OrderReach_b9 nx387 n383)) = some r := hm
          refine C_exit (E_exit_then ?_)
          refine E_exit_then ?_
          refine E_exit_hit ?_
          refine E_then ?_
          refine C_seq ?_
          refine C_region ?_
          refine W_move rfl rfl rfl ?_
          refine W_move rfl rfl rfl ?_
          refine W_move rfl rfl rfl ?_
          refine W_move rfl rfl rfl ?_
          obtain ⟨r521, hc522, hm⟩ := bind_some hm
          refine W_call Proofs.Try.call8 rfl rfl rfl (fun w ht => by obtain ⟨H0_, hl0_, ht0_, hr0_, bk0_⟩ := ht.lendRow hr498 rfl; have h := m_order_Plan_c (hm := hc522) (((h0.mono hle385).mono hle500).mono hl0_) (((h103.mono hle385).mono hle500).mono hl0_) hr0_ (((h2.mono hle385).mono hle500).mono hl0_) ht0_; exact lend_back bk0_ (h)) ?_
          rintro _ _ _ ⟨rfl, ⟨_, rfl, v523, xs524, rfl, rfl, h525⟩⟩
          have h525 := h525 H499
          refine W_move rfl rfl rfl ?_
          refine W_extract rfl rfl rfl rfl ?_
          refine W_extract rfl rfl rfl rfl ?_
          refine W_assign rfl rfl rfl ?_
          refine W_assign rfl rfl rfl ?_
          refine W_end ?_
          refine E_then ?_
          refine C_seq ?_
          refine C_region ?_
          refine W_move rfl rfl rfl ?_
          refine W_bin rfl rfl rfl rfl rfl ?_
          refine W_end ?_
          refine E_then ?_
          refine C_cond (b := decide (r521.2 = 0)) rfl (fun hb526 => ?_) (fun hb526 => ?_)
          · have hm := ite_t' hb526 hm
            refine C_region ?_
            refine W_move rfl rfl rfl ?_
            refine W_bin rfl rfl rfl rfl rfl ?_
            refine W_assign rfl rfl rfl ?_
            refine W_end ?_
            refine E_normal_block ?_
            refine E_drop (List.Sublist.cons _ (List.Sublist.cons _ (List.Sublist.refl _))) ?_
            exact E_keepJ (J463 _ _ _ ⟨IntKind.i64.wrap (n383 + 1), hm, hle500, rfl, rfl⟩) (List.Perm.refl _) ⟨rfl, rfl, rfl, rfl, rfl, rfl, rfl, trivial⟩
          · have hm := ite_f' hb526 hm
            refine C_skip ?_
            refine E_normal_block ?_
            refine E_drop (List.Sublist.cons _ (List.Sublist.cons _ (List.Sublist.refl _))) ?_
            exact E_keepJ (J463 _ _ _ ⟨n383, hm, hle500, rfl, rfl⟩) (List.Perm.refl _) ⟨rfl, rfl, rfl, rfl, rfl, rfl, rfl, trivial⟩
    · obtain rfl := rngN_f hd394 hb396
      have hm : ((m_gridhallkeep4_orderFact).bind fun r530 => some (r530 && (decide (r105.1 = n383)))) = some r := hm
      refine C_exit (E_exit_then ?_)
      refine E_exit_then ?_
      refine E_exit_hit ?_
      refine E_then ?_
      obtain ⟨r530, hc531, hm⟩ := bind_some hm
      refine C_seq_join (fun H' M' L' => H384 = H' ∧ M = M' ∧ [(6, .bool (r530 && (decide (r105.1 = n383))))] = L') ?_ (fun J532 => ?_)
      · rintro _ _ _ ⟨rfl, rfl, rfl⟩
        refine C_ret ?_
        obtain rfl := Option.some.inj hm
        refine E_weak hle385 ?_
        exact end1 rfl rfl ⟨rfl, rfl, rfl⟩
      · refine C_region ?_
        refine W_call Proofs.Try.call9 rfl rfl rfl (fun w ht => by have h := m_gridhallkeep4_orderFact_c (hm := hc531)  ht; exact h) ?_
        rintro _ _ _ ⟨rfl, rfl, rfl⟩
        refine W_move rfl rfl rfl ?_
        cases hb533 : (r530)
        · refine W_no rfl rfl rfl ?_
          refine W_no rfl rfl rfl ?_
          refine W_no rfl rfl rfl ?_
          refine W_pick rfl rfl rfl rfl ?_
          refine W_assign rfl rfl rfl ?_
          refine W_end ?_
          exact E_keepJ (J532 _ _ _ ⟨rfl, rfl, rfl⟩) (List.Perm.refl _) ⟨(by show some (Value.bool (false)) = some (Value.bool (r530 && (decide (r105.1 = n383)))); simp only [hb107, hb533, Bool.and_true, Bool.true_and, Bool.false_and, Bool.and_false, Bool.or_true, Bool.true_or, Bool.or_false, Bool.false_or, Bool.not_true, Bool.not_false]), trivial⟩
        · refine W_move rfl rfl rfl ?_
          refine W_move rfl rfl rfl ?_
          refine W_bin rfl rfl rfl rfl rfl ?_
          refine W_pick rfl rfl rfl rfl ?_
          refine W_assign rfl rfl rfl ?_
          refine W_end ?_
          exact E_keepJ (J532 _ _ _ ⟨rfl, rfl, rfl⟩) (List.Perm.refl _) ⟨(by show some (Value.bool (decide (r105.1 = n383))) = some (Value.bool (r530 && (decide (r105.1 = n383)))); simp only [hb107, hb533, Bool.and_true, Bool.true_and, Bool.false_and, Bool.and_false, Bool.or_true, Bool.true_or, Bool.or_false, Bool.false_or, Bool.not_true, Bool.not_false]), trivial⟩

theorem grow23_c {B : Nat} {w0 w : World} {H : Hp} {M : List Res} {n : Int} (hz : 0 ≤ n ∧ n * 48 ≤ 281474976710656) (ht : St B w0 H M w) :
    Calls Proofs.Try.prog 23 [.slice none 0 0, .int .i64 n].toArray w (Ret B w0 fun H' M' v => H = H' ∧ ∃ (v' : Value) (xs' : List Value), .row v' 46 (Rep.sz S_api_InterlockRule) ([] : List S_api_InterlockRule).length xs' :: M = M' ∧ v' = v ∧ Rw H v' xs' ([] : List S_api_InterlockRule) ∧ n ≤ Value.cap' v') := by
  refine enter Proofs.Try.func23 rfl rfl rfl ht ?_
  have hn : IntKind.i64.wrap (n - IntKind.i64.wrap (((0 : Nat) : Int) - ((0 : Nat) : Int))) = n := by
    rw [show IntKind.i64.wrap (((0 : Nat) : Int) - ((0 : Nat) : Int)) = 0 from rfl, Int.sub_zero, i64_of (by omega) (by omega)]
  refine C_seq ?_
  refine C_region ?_
  refine W_assign rfl rfl rfl ?_
  refine W_end (E_then ?_)
  refine C_seq ?_
  refine C_seq ?_
  refine C_region ?_
  refine W_move rfl rfl rfl ?_
  refine W_bin rfl rfl rfl rfl rfl ?_
  refine W_end (E_then ?_)
  refine C_cond (b := decide (n < 0)) rfl (fun hb => absurd (of_decide_eq_true hb) (by omega)) (fun _ => ?_)
  refine C_skip (E_then ?_)
  refine C_seq_join (fun H1 M1 L1 => ∃ (v' : Value) (xs' : List Value), H = H1 ∧ .row v' 46 (Rep.sz S_api_InterlockRule) ([] : List S_api_InterlockRule).length xs' :: M = M1 ∧ [(0, v')] = L1 ∧ Rw H v' xs' ([] : List S_api_InterlockRule) ∧ n ≤ Value.cap' v') ?_ (fun J => ?_)
  · rintro _ _ _ ⟨v', xs', rfl, rfl, rfl, h, hc⟩
    refine C_seq ?_
    refine C_region ?_
    refine W_move rfl rfl rfl ?_
    refine W_assign rfl rfl rfl ?_
    refine W_end (E_then ?_)
    refine C_ret ?_
    exact end1 rfl rfl ⟨rfl, v', xs', rfl, rfl, h, hc⟩
  · refine C_seq ?_
    refine C_region ?_
    refine W_move rfl rfl rfl ?_
    refine W_move rfl rfl rfl ?_
    refine W_capS rfl rfl Proofs.Try.runUnderlying22 rfl ?_
    refine W_move rfl rfl rfl ?_
    refine W_lenS rfl rfl Proofs.Try.runUnderlying22 rfl ?_
    refine W_bin rfl rfl rfl rfl rfl ?_
    refine W_bin rfl rfl rfl rfl rfl ?_
    refine W_assign rfl rfl rfl ?_
    refine W_end (E_then ?_)
    rw [hn]
    refine C_seq ?_
    refine C_region ?_
    refine W_move rfl rfl rfl ?_
    refine W_bin rfl rfl rfl rfl rfl ?_
    refine W_end (E_then ?_)
    refine C_cond (b := decide (0 < n)) rfl (fun hb => ?_) (fun hb => ?_)
    · refine C_region ?_
      refine W_move rfl rfl rfl ?_
      refine W_move rfl rfl rfl ?_
      refine W_capS rfl rfl Proofs.Try.runUnderlying22 rfl ?_
      refine W_sliceNil rfl rfl Proofs.Try.runUnderlying22 Proofs.Try.sizeOf46 rfl rfl ?_
      refine W_move rfl rfl rfl ?_
      refine W_growNil (α := S_api_InterlockRule) (ze := (S_api_InterlockRule.mk false (⟨#[]⟩) [])) (bytes := 48) rfl rfl Proofs.Try.underlying22 Proofs.Try.underlying3 ⟨_, rfl, rfl, rfl, rfl⟩ rfl rfl rfl ⟨.slice none 0 0, rfl, RdS.nil⟩ rfl rfl (of_decide_eq_true hb) hz.2 ?_
      intro v1 xs1 l1 h1 hl1 hc1
      refine W_move rfl rfl rfl ?_
      refine W_lenS rfl rfl Proofs.Try.runUnderlying22 rfl ?_
      refine W_sliceOC (α := S_api_InterlockRule) (l := 0) (h := 0) rfl rfl Proofs.Try.runUnderlying22 Proofs.Try.sizeOf46 rfl rfl h1 (by omega) (by omega) (fun m hmm => (.inr ⟨_, _, _, rfl, rfl, by omega, by omega, rfl⟩)) (.inl ⟨rfl, rfl⟩) ?_
      intro v2 xs2 h2 hc2
      refine W_assign rfl rfl rfl ?_
      refine W_end ?_
      exact E_keepJ (J _ _ _ ⟨v2, xs2, rfl, rfl, rfl, h2, by rw [hc2, Nat.sub_zero]; exact hc1⟩) (List.Perm.refl _) ⟨rfl, trivial⟩
    · refine C_skip ?_
      refine E_nilRow 46 (Rep.sz S_api_InterlockRule) ?_
      exact E_keepJ (J _ _ _ ⟨.slice none 0 0, [], rfl, rfl, rfl, Rw.nil, by have := of_decide_eq_false hb; simp only [Value.cap']; omega⟩) (List.Perm.refl _) ⟨rfl, trivial⟩

theorem m_slices_Concat_api_InterlockRule_api_InterlockRule_c {B : Nat} {w0 w : World} {H : Hp} {M : List Res} {slices : (List (List S_api_InterlockRule))} {v0 : Value} {r : (List S_api_InterlockRule)} (hm : m_slices_Concat_api_InterlockRule_api_InterlockRule slices = some r) (h0 : RdS H v0 slices) (ht : St B w0 H (M) w) :
    Calls Proofs.Try.prog 15 [v0].toArray w (Ret B w0 fun H' M' v => H.le H' ∧ ∃ qv0 : Value, ∃ qxs0 : List Value, .row qv0 46 (Rep.sz S_api_InterlockRule) r.length qxs0 :: M = M' ∧ qv0 = v ∧ Rw H' qv0 qxs0 r) := by
  unfold m_slices_Concat_api_InterlockRule_api_InterlockRule at hm
  refine enter Proofs.Try.func15 rfl rfl rfl ht ?_
  refine C_seq ?_
  refine C_region ?_
  refine W_assign rfl rfl rfl ?_
  refine W_end ?_
  refine E_then ?_
  refine C_seq ?_
  refine C_region ?_
  refine W_assign rfl rfl rfl ?_
  refine W_end ?_
  refine E_then ?_
  refine C_seq ?_
  refine C_seq ?_
  refine C_region ?_
  refine W_move rfl rfl rfl ?_
  refine W_lenR rfl rfl Proofs.Try.runUnderlying60 rfl h0 ?_
  refine W_move rfl rfl rfl ?_
  refine W_end ?_
  refine E_then ?_
  refine C_block ?_
  refine C_keep (L' := [(0, v0), (3, .int .i64 (0)), (9, v0), (10, .int .i64 ((slices.length : Int))), (11, .int .i64 (((0 : Nat) : Int)))]) ⟨rfl, rfl, rfl, rfl, rfl, trivial⟩ (List.Perm.refl _) ?_
  refine C_loop (fun n H' M' L' => ∃ (k101 : Nat) (zs120' : List (List S_api_InterlockRule)), ∃ n112 : Int, (slices).drop k101 = zs120' ∧ zs120'.length = n ∧ forI (fun k y s115 n => m_slices_Concat_api_InterlockRule_api_InterlockRule_b1 k y s115 n) (fun s115 => need (0 ≤ s115 ∧ s115 * 48 ≤ 281474976710656) (forI (fun k y s170 n => m_slices_Concat_api_InterlockRule_api_InterlockRule_b2 s115 k y s170 n) (fun s170 => some s170) 0 slices ([] : List S_api_InterlockRule))) k101 zs120' n112 = some r ∧ H.le H' ∧ M = M' ∧ [(0, v0), (3, .int .i64 (n112)), (9, v0), (10, .int .i64 ((slices.length : Int))), (11, .int .i64 ((k101 : Int)))] = L') _ ⟨0, _, 0, rfl, rfl, hm, (Hp.le_refl _), rfl, rfl⟩ ?_
  rintro _ H113 _ _ ⟨k101, zs120', n112, hd122, rfl, hm, hle114, rfl, rfl⟩
  refine C_seq ?_
  refine C_region ?_
  refine W_bin rfl rfl rfl rfl rfl ?_
  refine W_end (E_then ?_)
  refine C_seq ?_
  refine C_cond (b := decide ((k101 : Int) < (slices.length : Int))) rfl (fun hb124 => ?_) (fun hb124 => ?_)
  · obtain ⟨y119, zs120, rfl, hy121, hd123⟩ := rng_t hd122 hb124
    have hm : m_slices_Concat_api_InterlockRule_api_InterlockRule_b1 k101 y119 n112 (forI (fun k y s115 n => m_slices_Concat_api_InterlockRule_api_InterlockRule_b1 k y s115 n) (fun s115 => need (0 ≤ s115 ∧ s115 * 48 ≤ 281474976710656) (forI (fun k y s170 n => m_slices_Concat_api_InterlockRule_api_InterlockRule_b2 s115 k y s170 n) (fun s170 => some s170) 0 slices ([] : List S_api_InterlockRule))) (k101 + 1) zs120) = some r := hm
    generalize hn117 : forI (fun k y s115 n => m_slices_Concat_api_InterlockRule_api_InterlockRule_b1 k y s115 n) (fun s115 => need (0 ≤ s115 ∧ s115 * 48 ≤ 281474976710656) (forI (fun k y s170 n => m_slices_Concat_api_InterlockRule_api_InterlockRule_b2 s115 k y s170 n) (fun s170 => some s170) 0 slices ([] : List S_api_InterlockRule))) (k101 + 1) zs120 = nx116 at hm
    unfold m_slices_Concat_api_InterlockRule_api_InterlockRule_b1 at hm
    refine C_skip (E_then ?_)
    refine C_seq ?_
    refine C_block ?_
    refine C_seq ?_
    refine C_region ?_
    obtain ⟨_, ⟨v126, rfl, h127⟩, hc125⟩ := (h0).elem hy121
    refine W_indexS rfl rfl Proofs.Try.runUnderlying60 Proofs.Try.sizeOf22 rfl (h0.mono hle114) rfl (Int.natCast_nonneg _) hy121 ?_
    refine W_load rfl rfl Proofs.Try.isAgg22 rfl (HCells.one (hc125.mono hle114) 0 rfl).at ?_
    refine W_assign rfl rfl rfl ?_
    refine W_end ?_
    refine E_then ?_
    refine C_seq ?_
    refine C_region ?_
    refine W_move rfl rfl rfl ?_
    refine W_move rfl rfl rfl ?_
    refine W_lenR rfl rfl Proofs.Try.runUnderlying22 rfl (h127.mono hle114) ?_
    refine W_bin rfl rfl rfl rfl rfl ?_
    refine W_assign rfl rfl rfl ?_
    refine W_end ?_
    refine E_then ?_
    refine C_seq ?_
    refine C_region ?_
    refine W_move rfl rfl rfl ?_
    refine W_bin rfl rfl rfl rfl rfl ?_
    refine W_end ?_
    refine E_then ?_
    refine C_cond (b := decide ((IntKind.i64.wrap (n112 + (y119.length : Int))) < 0)) rfl (fun hb128 => ?_) (fun hb128 => ?_)
    · have hm := ite_t' hb128 hm
      cases hm
    · have hm := ite_f' hb128 hm
      refine C_skip ?_
      refine E_normal_block ?_
      refine E_then ?_
      refine C_region ?_
      refine W_bin rfl rfl rfl rfl rfl ?_
      refine W_move rfl rfl rfl ?_
      refine W_end ?_
      exact E_keepJ (E_back (Nat.lt_succ_self _) ⟨k101 + 1, zs120, IntKind.i64.wrap (n112 + (y119.length : Int)), hd123, rfl, (by rw [hn117]; exact hm), hle114, rfl, rfl⟩) (List.Perm.refl _) ⟨rfl, rfl, rfl, rfl, (congrArg (fun z => some (Value.int .i64 z)) (i64_succ hy121 ((h0.mono hle114)).lenMax)), trivial⟩
  · obtain rfl := rng_f hd122 hb124
    have hm : (need (0 ≤ n112 ∧ n112 * 48 ≤ 281474976710656) (forI (fun k y s170 n => m_slices_Concat_api_InterlockRule_api_InterlockRule_b2 n112 k y s170 n) (fun s170 => some s170) 0 slices ([] : List S_api_InterlockRule))) = some r := hm
    refine C_exit (E_exit_then ?_)
    refine E_exit_then ?_
    refine E_exit_hit ?_
    refine E_then ?_
    refine C_seq ?_
    refine C_region ?_
    refine W_move rfl rfl rfl ?_
    obtain ⟨hz129, hm⟩ := need_some hm
    refine W_call Proofs.Try.call23 rfl rfl rfl (fun w ht => by have h := grow23_c hz129 ht; exact h) ?_
    rintro _ _ _ ⟨rfl, v131, xs132, rfl, rfl, hr133, hcap130⟩
    refine W_assign rfl rfl rfl ?_
    refine W_end ?_
    refine E_then ?_
    refine C_seq ?_
    refine C_seq ?_
    refine C_region ?_
    refine W_move rfl rfl rfl ?_
    refine W_lenR rfl rfl Proofs.Try.runUnderlying60 rfl (h0.mono hle114) ?_
    refine W_move rfl rfl rfl ?_
    refine W_end ?_
    refine E_then ?_
    refine C_block ?_
    refine C_keep (L' := [(6, v131), (25, v0), (26, .int .i64 ((slices.length : Int))), (27, .int .i64 (((0 : Nat) : Int)))]) ⟨rfl, rfl, rfl, rfl, trivial⟩ (List.Perm.refl _) ?_
    refine C_loop (fun n H' M' L' => ∃ (k134 : Nat) (zs175' : List (List S_api_InterlockRule)), ∃ l165 : List S_api_InterlockRule, ∃ v163 : Value, ∃ xs164 : List Value, (slices).drop k134 = zs175' ∧ zs175'.length = n ∧ forI (fun k y s170 n => m_slices_Concat_api_InterlockRule_api_InterlockRule_b2 n112 k y s170 n) (fun s170 => some s170) k134 zs175' l165 = some r ∧ Rw H' v163 xs164 l165 ∧ n112 ≤ (Value.cap' v163 : Int) ∧ H113.le H' ∧ .row v163 46 (Rep.sz S_api_InterlockRule) l165.length xs164 :: M = M' ∧ [(6, v163), (25, v0), (26, .int .i64 ((slices.length : Int))), (27, .int .i64 ((k134 : Int)))] = L') _ ⟨0, _, ([] : List S_api_InterlockRule), v131, xs132, rfl, rfl, hm, hr133, hcap130, (Hp.le_refl _), rfl, rfl⟩ ?_
    rintro _ H168 _ _ ⟨k134, zs175', l165, v163, xs164, hd177, rfl, hm, hr166, hcap167, hle169, rfl, rfl⟩
    refine C_seq ?_
    refine C_region ?_
    refine W_bin rfl rfl rfl rfl rfl ?_
    refine W_end (E_then ?_)
    refine C_seq ?_
    refine C_cond (b := decide ((k134 : Int) < (slices.length : Int))) rfl (fun hb179 => ?_) (fun hb179 => ?_)
    · obtain ⟨y174, zs175, rfl, hy176, hd178⟩ := rng_t hd177 hb179
      have hm : m_slices_Concat_api_InterlockRule_api_InterlockRule_b2 n112 k134 y174 l165 (forI (fun k y s170 n => m_slices_Concat_api_InterlockRule_api_InterlockRule_b2 n112 k y s170 n) (fun s170 => some s170) (k134 + 1) zs175) = some r := hm
      generalize hn172 : forI (fun k y s170 n => m_slices_Concat_api_InterlockRule_api_InterlockRule_b2 n112 k y s170 n) (fun s170 => some s170) (k134 + 1) zs175 = nx171 at hm
      unfold m_slices_Concat_api_InterlockRule_api_InterlockRule_b2 at hm
      refine C_skip (E_then ?_)
      refine C_seq ?_
      refine C_block ?_
      refine C_seq ?_
      refine C_region ?_
      obtain ⟨_, ⟨v181, rfl, h182⟩, hc180⟩ := (h0).elem hy176
      refine W_indexS rfl rfl Proofs.Try.runUnderlying60 Proofs.Try.sizeOf22 rfl ((h0.mono hle114).mono hle169) rfl (Int.natCast_nonneg _) hy176 ?_
      refine W_load rfl rfl Proofs.Try.isAgg22 rfl (HCells.one ((hc180.mono hle114).mono hle169) 0 rfl).at ?_
      refine W_assign rfl rfl rfl ?_
      refine W_end ?_
      refine E_then ?_
      refine C_region ?_
      refine W_move rfl rfl rfl ?_
      refine W_move rfl rfl rfl ?_
      obtain ⟨hz183, hm⟩ := need_some hm
      refine W_appendC (α := S_api_InterlockRule) (l := l165) (ys := y174) rfl rfl Proofs.Try.underlying22 ⟨_, rfl, rfl, rfl, rfl⟩ rfl rfl rfl rfl hr166 ((h182.mono hle114).mono hle169) (by have h1_ := hz183; have h2_ := hcap167; omega) ?_
      intro v186 xs187 hr188 hc184
      have hcap185 : n112 ≤ (Value.cap' v186 : Int) := by rw [hc184]; exact hcap167
      refine W_assign rfl rfl rfl ?_
      refine W_end ?_
      refine E_normal_block ?_
      refine E_then ?_
      refine C_region ?_
      refine W_bin rfl rfl rfl rfl rfl ?_
      refine W_move rfl rfl rfl ?_
      refine W_end ?_
      exact E_keepJ (E_back (Nat.lt_succ_self _) ⟨k134 + 1, zs175, (l165 ++ y174), v186, xs187, hd178, rfl, (by rw [hn172]; exact hm), hr188, hcap185, hle169, rfl, rfl⟩) (List.Perm.refl _) ⟨rfl, rfl, rfl, (congrArg (fun z => some (Value.int .i64 z)) (i64_succ hy176 (((h0.mono hle114).mono hle169)).lenMax)), trivial⟩
    · obtain rfl := rng_f hd177 hb179
      have hm : (some l165) = some r := hm
      refine C_exit (E_exit_then ?_)
      refine E_exit_then ?_
      refine E_exit_hit ?_
      refine E_then ?_
      refine C_seq ?_
      refine C_region ?_
      refine W_move rfl rfl rfl ?_
      refine W_assign rfl rfl rfl ?_
      refine W_end ?_
      refine E_then ?_
      refine C_ret ?_
      obtain rfl := Option.some.inj hm
      exact end1 rfl rfl ⟨(Hp.le_trans hle114 hle169), v163, xs164, rfl, rfl, hr166⟩

theorem m_gridhallkeep4_OrderMore_c {B : Nat} {w0 w : World} {H : Hp} {M : List Res} {rules : (List S_api_InterlockRule)} {more : (List S_api_InterlockRule)} {p2_from : (List S_api_InterlockState)} {to : (List S_api_InterlockState)} {v0 : Value} {v1 : Value} {v2 : Value} {v3 : Value} {r : Bool} (hm : m_gridhallkeep4_OrderMore rules more p2_from to = some r) (h0 : RdS H v0 rules) (h1 : RdS H v1 more) (h2 : RdS H v2 p2_from) (h3 : RdS H v3 to) (ht : St B w0 H (M) w) :
    Calls Proofs.Try.prog 6 [v0, v1, v2, v3].toArray w (Ret B w0 fun H' M' v => H = H' ∧ M = M' ∧ .bool (r) = v) := by
  unfold m_gridhallkeep4_OrderMore at hm
  refine enter Proofs.Try.func6 rfl rfl rfl ht ?_
  refine C_seq ?_
  refine C_region ?_
  refine W_assign rfl rfl rfl ?_
  refine W_end ?_
  refine E_then ?_
  refine C_seq ?_
  obtain ⟨hz101, hm⟩ := need_some hm
  obtain ⟨hz105, hm⟩ := need_some hm
  refine C_region_tok 11 (phiT [(fun H rs v => [] = rs ∧ v2 = v), (fun H rs v => [] = rs ∧ v2 = v), (fun H rs v => [] = rs ∧ .int .i64 ((p2_from.length : Int)) = v), (fun H rs v => [] = rs ∧ .int .i64 (min (p2_from.length : Int) 5) = v), (fun H rs v => ∃ v109 : Value, [] = rs ∧ v109 = v ∧ RdS H v109 (slc p2_from 0 ((min (p2_from.length : Int) 5 : Int).toNat))), (fun H rs v => [] = rs ∧ v3 = v), (fun H rs v => [] = rs ∧ v3 = v), (fun H rs v => [] = rs ∧ .int .i64 ((to.length : Int)) = v), (fun H rs v => [] = rs ∧ .int .i64 (min (to.length : Int) 5) = v), (fun H rs v => ∃ v112 : Value, [] = rs ∧ v112 = v ∧ RdS H v112 (slc to 0 ((min (to.length : Int) 5 : Int).toNat))), (fun H rs v => ∃ v109 : Value, [] = rs ∧ v109 = v ∧ RdS H v109 (slc p2_from 0 ((min (p2_from.length : Int) 5 : Int).toNat)))]) [[], [], [], [], [], [], [], [], [], [], []] [[], [], [], [], [], [], [], [], [], [], []] [] [0, 1, 2, 3, 4, 5, 6, 7, 8, 9, 10] [(0, v0), (1, v1), (3, v3), (8, .bool (false))] [[(2, v2)], [(2, v2)], [], [], [], [], [], [], [], [], []] Facts.mixed (by kernel_rfl) rfl rfl (by kernel_rfl) (Kept.lk ⟨rfl, rfl, rfl, rfl, trivial⟩) ⟨⟨rfl, trivial⟩, ⟨rfl, trivial⟩, trivial, trivial, trivial, trivial, trivial, trivial, trivial, trivial, trivial, trivial⟩ rfl (by kernel_rfl) (phiT_mono ⟨eq_monoT _ _, eq_monoT _ _, eq_monoT _ _, eq_monoT _ _, (by rintro H1 H2 rs v hle ⟨v109, rfl, rfl, h110⟩; exact ⟨v109, rfl, rfl, (h110.mono hle)⟩), eq_monoT _ _, eq_monoT _ _, eq_monoT _ _, eq_monoT _ _, (by rintro H1 H2 rs v hle ⟨v112, rfl, rfl, h113⟩; exact ⟨v112, rfl, rfl, (h113.mono hle)⟩), (by rintro H1 H2 rs v hle ⟨v109, rfl, rfl, h110⟩; exact ⟨v109, rfl, rfl, (h110.mono hle)⟩), trivial⟩) ⟨?_, ?_, ?_, ?_, ?_, ?_, ?_, ?_, ?_, ?_, ?_, trivial⟩ ?_
  · intro HX hX X Rest hR
    intro hU
    refine W_move rfl rfl rfl ?_
    exact W_end (OneT_end [] (Hp.le_refl _) ⟨rfl, rfl⟩)
  · intro HX hX X Rest hR
    intro hU
    refine W_move rfl rfl rfl ?_
    exact W_end (OneT_end [] (Hp.le_refl _) ⟨rfl, rfl⟩)
  · intro HX hX X Rest hR
    rintro _ _ ⟨rfl, rfl⟩
    intro hU
    refine W_lenR rfl rfl Proofs.Try.runUnderlying23 rfl (h2.mono hX) ?_
    exact W_end (OneT_end [] (Hp.le_refl _) ⟨rfl, rfl⟩)
  · intro HX hX X Rest hR
    rintro _ _ ⟨rfl, rfl⟩
    intro hU
    refine W_min rfl rfl rfl rfl ?_
    exact W_end (OneT_end [] (Hp.le_refl _) ⟨rfl, rfl⟩)
  · intro HX hX X Rest hR
    rintro _ _ ⟨rfl, rfl⟩
    rintro _ _ ⟨rfl, rfl⟩
    intro hU
    refine W_sliceR (α := S_api_InterlockState) (l := 0) (h := (min (p2_from.length : Int) 5 : Int).toNat) (xs := p2_from) rfl rfl Proofs.Try.runUnderlying23 Proofs.Try.sizeOf33 rfl (h2.mono hX) (by omega) (by omega) (.inl rfl) (fun cap hcap => by rw [if_pos rfl]; exact (.inl ⟨rfl, rfl⟩)) (fun m hmm => (.inr ⟨_, _, _, rfl, rfl, by omega, by omega, rfl⟩)) (.inl ⟨rfl, rfl⟩) ?_
    intro v109 h110 hc111
    exact W_end (OneT_end [] (Hp.le_refl _) ⟨v109, rfl, rfl, (h110)⟩)
  · intro HX hX X Rest hR
    intro hU
    refine W_move rfl rfl rfl ?_
    exact W_end (OneT_end [] (Hp.le_refl _) ⟨rfl, rfl⟩)
  · intro HX hX X Rest hR
    intro hU
    refine W_move rfl rfl rfl ?_
    exact W_end (OneT_end [] (Hp.le_refl _) ⟨rfl, rfl⟩)
  · intro HX hX X Rest hR
    rintro _ _ ⟨rfl, rfl⟩
    intro hU
    refine W_lenR rfl rfl Proofs.Try.runUnderlying23 rfl (h3.mono hX) ?_
    exact W_end (OneT_end [] (Hp.le_refl _) ⟨rfl, rfl⟩)
  · intro HX hX X Rest hR
    rintro _ _ ⟨rfl, rfl⟩
    intro hU
    refine W_min rfl rfl rfl rfl ?_
    exact W_end (OneT_end [] (Hp.le_refl _) ⟨rfl, rfl⟩)
  · intro HX hX X Rest hR
    rintro _ _ ⟨rfl, rfl⟩
    rintro _ _ ⟨rfl, rfl⟩
    intro hU
    refine W_sliceR (α := S_api_InterlockState) (l := 0) (h := (min (to.length : Int) 5 : Int).toNat) (xs := to) rfl rfl Proofs.Try.runUnderlying23 Proofs.Try.sizeOf33 rfl (h3.mono hX) (by omega) (by omega) (.inl rfl) (fun cap hcap => by rw [if_pos rfl]; exact (.inl ⟨rfl, rfl⟩)) (fun m hmm => (.inr ⟨_, _, _, rfl, rfl, by omega, by omega, rfl⟩)) (.inl ⟨rfl, rfl⟩) ?_
    intro v112 h113 hc114
    exact W_end (OneT_end [] (Hp.le_refl _) ⟨v112, rfl, rfl, (h113)⟩)
  · intro HX hX X Rest hR
    rintro _ _ ⟨v109, rfl, rfl, h110⟩
    rintro _ _ ⟨rfl, rfl⟩
    rintro _ _ ⟨rfl, rfl⟩
    rintro _ _ ⟨rfl, rfl⟩
    rintro _ _ ⟨rfl, rfl⟩
    rintro _ _ ⟨v109, rfl, rfl, h110⟩
    intro hU
    refine W_assign rfl rfl rfl ?_
    exact W_end (OneT_end [] (Hp.le_refl _) ⟨v109, rfl, rfl, (h110)⟩)
  intro H115 hle116
  rintro _ _ ⟨rfl, rfl⟩
  rintro _ _ ⟨rfl, rfl⟩
  rintro _ _ ⟨rfl, rfl⟩
  rintro _ _ ⟨rfl, rfl⟩
  rintro _ _ ⟨v109, rfl, rfl, h110⟩
  rintro _ _ ⟨rfl, rfl⟩
  rintro _ _ ⟨rfl, rfl⟩
  rintro _ _ ⟨rfl, rfl⟩
  rintro _ _ ⟨rfl, rfl⟩
  rintro _ _ ⟨v112, rfl, rfl, h113⟩
  rintro _ _ ⟨v109, rfl, rfl, h110⟩
  refine W_assign rfl rfl rfl ?_
  refine W_end ?_
  refine E_then ?_
  refine C_seq ?_
  refine C_region ?_
  refine W_move rfl rfl rfl ?_
  refine W_move rfl rfl rfl ?_
  refine W_buildSliceO (α := (List S_api_InterlockRule)) (css := [[v0], [v1]]) (zs := [.slice none 0 0, .slice none 0 0]) (out := [v0, v1]) (ys := [rules, more]) rfl rfl rfl ⟨(RdS.cells (h0.mono hle116)), (RdS.cells (h1.mono hle116)), trivial⟩ Proofs.Try.runUnderlying60 Proofs.Try.sizeOf22 rfl Proofs.Try.zeroValue22 (by kernel_rfl) rfl rfl rfl rfl ⟨[v0], [v1], rfl, ⟨v0, rfl, (h0.mono hle116)⟩, ⟨[v1], [], rfl, ⟨v1, rfl, (h1.mono hle116)⟩, rfl⟩⟩ rfl ?_
  intro v117 xs118 hr119
  refine W_freeze (hr119).rd rfl (fun H120 hle121 h122 => ?_)
  obtain ⟨r123, hc124, hm⟩ := bind_some hm
  refine W_call Proofs.Try.call15 rfl rfl rfl (fun w ht => by have h := m_slices_Concat_api_InterlockRule_api_InterlockRule_c (hm := hc124) h122 ht; exact h) ?_
  rintro _ H128 _ ⟨hle129, v125, xs126, rfl, rfl, h127⟩
  refine W_move rfl rfl rfl ?_
  refine W_move rfl rfl rfl ?_
  obtain ⟨r130, hc131, hm⟩ := bind_some hm
  refine W_call Proofs.Try.call8 rfl rfl rfl (fun w ht => by obtain ⟨H0_, hl0_, ht0_, hr0_, bk0_⟩ := ht.lendRow h127 rfl; have h := m_order_Plan_c (hm := hc131) hr0_ (((h110.mono hle121).mono hle129).mono hl0_) (((h113.mono hle121).mono hle129).mono hl0_) RdS.nil ht0_; exact lend_back bk0_ (h)) ?_
  rintro _ _ _ ⟨rfl, ⟨_, rfl, v132, xs133, rfl, rfl, h134⟩⟩
  have h134 := h134 H128
  refine W_move rfl rfl rfl ?_
  refine W_extract rfl rfl rfl rfl ?_
  refine W_extract rfl rfl rfl rfl ?_
  refine W_assign rfl rfl rfl ?_
  refine W_assign rfl rfl rfl ?_
  refine W_end ?_
  refine E_then ?_
  refine C_seq ?_
  refine C_region ?_
  refine W_move rfl rfl rfl ?_
  refine W_move rfl rfl rfl ?_
  refine W_move rfl rfl rfl ?_
  obtain ⟨r135, hc136, hm⟩ := bind_some hm
  refine W_call Proofs.Try.call8 rfl rfl rfl (fun w ht => by have h := m_order_Plan_c (hm := hc136) (((h0.mono hle116).mono hle121).mono hle129) ((h110.mono hle121).mono hle129) ((h113.mono hle121).mono hle129) RdS.nil ht; exact h) ?_
  rintro _ _ _ ⟨rfl, v137, xs138, rfl, rfl, h139⟩
  have h139 := h139 H128
  refine W_move rfl rfl rfl ?_
  refine W_extract rfl rfl rfl rfl ?_
  refine W_extract rfl rfl rfl rfl ?_
  refine W_assign rfl rfl rfl ?_
  refine W_assign rfl rfl rfl ?_
  refine W_end ?_
  refine E_then ?_
  refine C_seq ?_
  refine C_seq ?_
  refine C_region ?_
  refine W_move rfl rfl rfl ?_
  refine W_bin rfl rfl rfl rfl rfl ?_
  refine W_end ?_
  refine E_then ?_
  refine C_cond (b := !decide (r130.2 = 0)) rfl (fun hb140 => ?_) (fun hb140 => ?_)
  · have hm := ite_t' hb140 hm
    obtain ⟨r144, hc145, hm⟩ := bind_some hm
    refine C_seq_join (fun H' M' L' => H128 = H' ∧ M = M' ∧ [(8, .bool (r144 && (decide ((r130.1.length : Int) = 0))))] = L') ?_ (fun J146 => ?_)
    · rintro _ _ _ ⟨rfl, rfl, rfl⟩
      refine C_ret ?_
      refine E_ret_then ?_
      obtain rfl := Option.some.inj hm
      refine E_weak (Hp.le_trans (Hp.le_trans hle116 hle121) hle129) ?_
      exact end1 rfl rfl ⟨rfl, rfl, rfl⟩
    · refine C_region ?_
      refine W_call Proofs.Try.call9 rfl rfl rfl (fun w ht => by have h := m_gridhallkeep4_orderFact_c (hm := hc145)  ht; exact h) ?_
      rintro _ _ _ ⟨rfl, rfl, rfl⟩
      refine W_move rfl rfl rfl ?_
      cases hb147 : (r144)
      · refine W_no rfl rfl rfl ?_
        refine W_no rfl rfl rfl ?_
        refine W_no rfl rfl rfl ?_
        refine W_pick rfl rfl rfl rfl ?_
        refine W_assign rfl rfl rfl ?_
        refine W_end ?_
        refine E_drop (List.Sublist.cons _ (List.Sublist.cons _ (List.Sublist.cons _ (List.Sublist.refl _)))) ?_
        exact E_keepJ (J146 _ _ _ ⟨rfl, rfl, rfl⟩) (List.Perm.refl _) ⟨(by show some (Value.bool (false)) = some (Value.bool (r144 && (decide ((r130.1.length : Int) = 0)))); simp only [hb140, hb147, Bool.and_true, Bool.true_and, Bool.false_and, Bool.and_false, Bool.or_true, Bool.true_or, Bool.or_false, Bool.false_or, Bool.not_true, Bool.not_false]), trivial⟩
      · refine W_move rfl rfl rfl ?_
        refine W_lenO (List.mem_cons_of_mem _ (List.mem_cons_of_mem _ (List.mem_cons_self ..))) rfl rfl Proofs.Try.runUnderlying25 rfl ?_
        refine W_bin rfl rfl rfl rfl rfl ?_
        refine W_pick rfl rfl rfl rfl ?_
        refine W_assign rfl rfl rfl ?_
        refine W_end ?_
        refine E_drop (List.Sublist.cons _ (List.Sublist.cons _ (List.Sublist.cons _ (List.Sublist.refl _)))) ?_
        exact E_keepJ (J146 _ _ _ ⟨rfl, rfl, rfl⟩) (List.Perm.refl _) ⟨(by show some (Value.bool (decide ((r130.1.length : Int) = 0))) = some (Value.bool (r144 && (decide ((r130.1.length : Int) = 0)))); simp only [hb140, hb147, Bool.and_true, Bool.true_and, Bool.false_and, Bool.and_false, Bool.or_true, Bool.true_or, Bool.or_false, Bool.false_or, Bool.not_true, Bool.not_false]), trivial⟩
  · have hm := ite_f' hb140 hm
    refine C_skip ?_
    refine E_then ?_
    obtain ⟨r152, hc153, hm⟩ := bind_some hm
    refine C_seq_join (fun H' M' L' => H128 = H' ∧ M = M' ∧ [(8, .bool ((r152 && (decide (r135.2 = 0))) && (decide ((r135.1.length : Int) ≤ (r130.1.length : Int)))))] = L') ?_ (fun J154 => ?_)
    · rintro _ _ _ ⟨rfl, rfl, rfl⟩
      refine C_ret ?_
      obtain rfl := Option.some.inj hm
      refine E_weak (Hp.le_trans (Hp.le_trans hle116 hle121) hle129) ?_
      exact end1 rfl rfl ⟨rfl, rfl, rfl⟩
    · refine C_region ?_
      refine W_call Proofs.Try.call9 rfl rfl rfl (fun w ht => by have h := m_gridhallkeep4_orderFact_c (hm := hc153)  ht; exact h) ?_
      rintro _ _ _ ⟨rfl, rfl, rfl⟩
      refine W_move rfl rfl rfl ?_
      cases hb155 : (r152)
      · refine W_no rfl rfl rfl ?_
        refine W_no rfl rfl rfl ?_
        refine W_pick rfl rfl rfl rfl ?_
        refine W_move rfl rfl rfl ?_
        refine W_no rfl rfl rfl ?_
        refine W_no rfl rfl rfl ?_
        refine W_no rfl rfl rfl ?_
        refine W_no rfl rfl rfl ?_
        refine W_no rfl rfl rfl ?_
        refine W_pick rfl rfl rfl rfl ?_
        refine W_assign rfl rfl rfl ?_
        refine W_end ?_
        refine E_drop (List.Sublist.cons _ (List.Sublist.cons _ (List.Sublist.cons _ (List.Sublist.refl _)))) ?_
        exact E_keepJ (J154 _ _ _ ⟨rfl, rfl, rfl⟩) (List.Perm.refl _) ⟨(by show some (Value.bool (false)) = some (Value.bool ((r152 && (decide (r135.2 = 0))) && (decide ((r135.1.length : Int) ≤ (r130.1.length : Int))))); simp only [hb140, hb155, Bool.and_true, Bool.true_and, Bool.false_and, Bool.and_false, Bool.or_true, Bool.true_or, Bool.or_false, Bool.false_or, Bool.not_true, Bool.not_false]), trivial⟩
      · refine W_move rfl rfl rfl ?_
        refine W_bin rfl rfl rfl rfl rfl ?_
        refine W_pick rfl rfl rfl rfl ?_
        refine W_move rfl rfl rfl ?_
        cases hb156 : (decide (r135.2 = 0))
        · refine W_no rfl rfl rfl ?_
          refine W_no rfl rfl rfl ?_
          refine W_no rfl rfl rfl ?_
          refine W_no rfl rfl rfl ?_
          refine W_no rfl rfl rfl ?_
          refine W_pick rfl rfl rfl rfl ?_
          refine W_assign rfl rfl rfl ?_
          refine W_end ?_
          refine E_drop (List.Sublist.cons _ (List.Sublist.cons _ (List.Sublist.cons _ (List.Sublist.refl _)))) ?_
          exact E_keepJ (J154 _ _ _ ⟨rfl, rfl, rfl⟩) (List.Perm.refl _) ⟨(by show some (Value.bool (false)) = some (Value.bool ((r152 && (decide (r135.2 = 0))) && (decide ((r135.1.length : Int) ≤ (r130.1.length : Int))))); simp only [hb140, hb155, hb156, Bool.and_true, Bool.true_and, Bool.false_and, Bool.and_false, Bool.or_true, Bool.true_or, Bool.or_false, Bool.false_or, Bool.not_true, Bool.not_false]), trivial⟩
        · refine W_move rfl rfl rfl ?_
          refine W_lenO (List.mem_cons_self ..) rfl rfl Proofs.Try.runUnderlying25 rfl ?_
          refine W_move rfl rfl rfl ?_
          refine W_lenO (List.mem_cons_of_mem _ (List.mem_cons_of_mem _ (List.mem_cons_self ..))) rfl rfl Proofs.Try.runUnderlying25 rfl ?_
          refine W_bin rfl rfl rfl rfl rfl ?_
          refine W_pick rfl rfl rfl rfl ?_
          refine W_assign rfl rfl rfl ?_
          refine W_end ?_
          refine E_drop (List.Sublist.cons _ (List.Sublist.cons _ (List.Sublist.cons _ (List.Sublist.refl _)))) ?_
          exact E_keepJ (J154 _ _ _ ⟨rfl, rfl, rfl⟩) (List.Perm.refl _) ⟨(by show some (Value.bool (decide ((r135.1.length : Int) ≤ (r130.1.length : Int)))) = some (Value.bool ((r152 && (decide (r135.2 = 0))) && (decide ((r135.1.length : Int) ≤ (r130.1.length : Int))))); simp only [hb140, hb155, hb156, Bool.and_true, Bool.true_and, Bool.false_and, Bool.and_false, Bool.or_true, Bool.true_or, Bool.or_false, Bool.false_or, Bool.not_true, Bool.not_false]), trivial⟩

theorem m_order_Verify_c {B : Nat} {w0 w : World} {H : Hp} {M : List Res} {rules : (List S_api_InterlockRule)} {p1_from : (List S_api_InterlockState)} {held : (List ByteArray)} {p3_l : (List S_api_OrderStep)} {v0 : Value} {v1 : Value} {v2 : Value} {v3 : Value} {r : (List S_api_InterlockState) × Int × Int} (hm : m_order_Verify rules p1_from held p3_l = some r) (h0 : RdS H v0 rules) (h1 : RdS H v1 p1_from) (h2 : RdS H v2 held) (h3 : RdS H v3 p3_l) (ht : St B w0 H (M) w) :
    Calls Proofs.Try.prog 16 [v0, v1, v2, v3].toArray w (Ret B w0 fun H' M' v => H = H' ∧ ∃ qv0 : Value, ∃ qxs0 : List Value, .row qv0 33 (Rep.sz S_api_InterlockState) r.1.length qxs0 :: M = M' ∧ .tuple #[qv0, .int .i64 (r.2.1), .int .i64 (r.2.2)] = v ∧ RwF qv0 qxs0 r.1) := by
  unfold m_order_Verify at hm
  refine enter Proofs.Try.func16 rfl rfl rfl ht ?_
  refine C_seq ?_
  refine C_region ?_
  refine W_assign rfl rfl rfl ?_
  refine W_assign rfl rfl rfl ?_
  refine W_assign rfl rfl rfl ?_
  refine W_end ?_
  refine E_then ?_
  refine C_seq ?_
  refine C_seq ?_
  refine C_region ?_
  refine W_move rfl rfl rfl ?_
  obtain ⟨r101, hc102, hm⟩ := bind_some hm
  refine W_call Proofs.Try.call24 rfl rfl rfl (fun w ht => by have h := m_interlock_Check_c (hm := hc102) h0 ht; exact h) ?_
  rintro _ _ _ ⟨rfl, rfl, rfl⟩
  refine W_assign rfl rfl rfl ?_
  refine W_end ?_
  refine E_then ?_
  refine C_seq ?_
  refine C_region ?_
  refine W_move rfl rfl rfl ?_
  refine W_bin rfl rfl rfl rfl rfl ?_
  refine W_end ?_
  refine E_then ?_
  refine C_cond (b := !decide (r101 = 0)) rfl (fun hb103 => ?_) (fun hb103 => ?_)
  · have hm := ite_t' hb103 hm
    refine C_seq ?_
    refine C_region ?_
    refine W_move rfl rfl rfl ?_
    refine W_assign rfl rfl rfl ?_
    refine W_assign rfl rfl rfl ?_
    refine W_assign rfl rfl rfl ?_
    refine W_end ?_
    refine E_then ?_
    refine C_ret ?_
    refine E_ret_then ?_
    refine E_nilRow 33 (Rep.sz S_api_InterlockState) ?_
    obtain rfl := Option.some.inj hm
    refine E_weak (Hp.le_refl _) ?_
    exact end3 rfl rfl rfl rfl ⟨rfl, (.slice none 0 0), [], rfl, rfl, (Rw.nil (H := H)).toF⟩
  · have hm := ite_f' hb103 hm
    refine C_skip ?_
    refine E_then ?_
    refine C_seq ?_
    refine C_seq ?_
    refine C_region ?_
    refine W_move rfl rfl rfl ?_
    obtain ⟨r104, hc105, hm⟩ := bind_some hm
    refine W_call Proofs.Try.call25 rfl rfl rfl (fun w ht => by have h := m_interlock_CheckStates_c (hm := hc105) h1 ht; exact h) ?_
    rintro _ _ _ ⟨rfl, rfl, rfl⟩
    refine W_assign rfl rfl rfl ?_
    refine W_end ?_
    refine E_then ?_
    refine C_seq ?_
    refine C_region ?_
    refine W_move rfl rfl rfl ?_
    refine W_bin rfl rfl rfl rfl rfl ?_
    refine W_end ?_
    refine E_then ?_
    refine C_cond (b := !decide (r104 = 0)) rfl (fun hb106 => ?_) (fun hb106 => ?_)
    · have hm := ite_t' hb106 hm
      refine C_seq ?_
      refine C_region ?_
      refine W_move rfl rfl rfl ?_
      refine W_assign rfl rfl rfl ?_
      refine W_assign rfl rfl rfl ?_
      refine W_assign rfl rfl rfl ?_
      refine W_end ?_
      refine E_then ?_
      refine C_ret ?_
      refine E_ret_then ?_
      refine E_nilRow 33 (Rep.sz S_api_InterlockState) ?_
      obtain rfl := Option.some.inj hm
      refine E_weak (Hp.le_refl _) ?_
      exact end3 rfl rfl rfl rfl ⟨rfl, (.slice none 0 0), [], rfl, rfl, (Rw.nil (H := H)).toF⟩
    · have hm := ite_f' hb106 hm
      refine C_skip ?_
      refine E_then ?_
      refine C_seq ?_
      refine C_seq_join (fun H' M' L' => H = H' ∧ M = M' ∧ [(0, v0), (1, v1), (2, v2), (3, v3), (37, .bool ((decide (256 < (p3_l.length : Int))) || (decide (256 < (held.length : Int)))))] = L') ?_ (fun J108 => ?_)
      · rintro _ _ _ ⟨rfl, rfl, rfl⟩
        refine C_cond (b := (decide (256 < (p3_l.length : Int))) || (decide (256 < (held.length : Int)))) rfl (fun hb109 => ?_) (fun hb109 => ?_)
        · have hm := ite_t' hb109 hm
          refine C_seq ?_
          refine C_region ?_
          refine W_assign rfl rfl rfl ?_
          refine W_assign rfl rfl rfl ?_
          refine W_assign rfl rfl rfl ?_
          refine W_end ?_
          refine E_then ?_
          refine C_ret ?_
          refine E_ret_then ?_
          refine E_nilRow 33 (Rep.sz S_api_InterlockState) ?_
          obtain rfl := Option.some.inj hm
          refine E_weak (Hp.le_refl _) ?_
          exact end3 rfl rfl rfl rfl ⟨rfl, (.slice none 0 0), [], rfl, rfl, (Rw.nil (H := H)).toF⟩
        · have hm := ite_f' hb109 hm
          refine C_skip ?_
          refine E_then ?_
          refine C_seq ?_
          refine C_region ?_
          refine W_move rfl rfl rfl ?_
          obtain ⟨hz110, hm⟩ := need_some hm
          refine W_call Proofs.Try.call14 rfl rfl rfl (fun w ht => by have h := clone14_c (s := p1_from) h1 hz110 ht; exact h) ?_
          rintro _ _ _ ⟨rfl, v111, xs112, rfl, rfl, hr113⟩
          have hr113 := hr113 H
          refine W_assign rfl rfl rfl ?_
          refine W_end ?_
          refine E_then ?_
          refine C_seq ?_
          refine C_seq ?_
          refine C_region ?_
          refine W_move rfl rfl rfl ?_
          refine W_lenR rfl rfl Proofs.Try.runUnderlying25 rfl h3 ?_
          refine W_move rfl rfl rfl ?_
          refine W_end ?_
          refine E_then ?_
          refine C_block ?_
          refine C_keep (L' := [(0, v0), (2, v2), (13, v111), (40, v3), (41, .int .i64 ((p3_l.length : Int))), (42, .int .i64 (((0 : Nat) : Int)))]) ⟨rfl, rfl, rfl, rfl, rfl, rfl, trivial⟩ (List.Perm.refl _) ?_
          refine C_loop (fun n H' M' L' => ∃ (k114 : Nat) (zs162' : List S_api_OrderStep), ∃ l153 : List S_api_InterlockState, ∃ v151 : Value, ∃ xs152 : List Value, (p3_l).drop k114 = zs162' ∧ zs162'.length = n ∧ forI (fun k y s157 n => m_order_Verify_b1 rules held k y s157 n) (fun s157 => some (s157, 0, 0)) k114 zs162' l153 = some r ∧ Rw H' v151 xs152 l153 ∧ H.le H' ∧ .row v151 33 (Rep.sz S_api_InterlockState) l153.length xs152 :: M = M' ∧ [(0, v0), (2, v2), (13, v151), (40, v3), (41, .int .i64 ((p3_l.length : Int))), (42, .int .i64 ((k114 : Int)))] = L') _ ⟨0, _, p1_from, v111, xs112, rfl, rfl, hm, hr113, (Hp.le_refl _), rfl, rfl⟩ ?_
          rintro _ H155 _ _ ⟨k114, zs162', l153, v151, xs152, hd164, rfl, hm, hr154, hle156, rfl, rfl⟩
          refine C_seq ?_
          refine C_region ?_
          refine W_bin rfl rfl rfl rfl rfl ?_
          refine W_end (E_then ?_)
          refine C_seq ?_
          refine C_cond (b := decide ((k114 : Int) < (p3_l.length : Int))) rfl (fun hb166 => ?_) (fun hb166 => ?_)
          · obtain ⟨y161, zs162, rfl, hy163, hd165⟩ := rng_t hd164 hb166
            have hm : m_order_Verify_b1 rules held k114 y161 l153 (forI (fun k y s157 n => m_order_Verify_b1 rules held k y s157 n) (fun s157 => some (s157, 0, 0)) (k114 + 1) zs162) = some r := hm
            generalize hn159 : forI (fun k y s157 n => m_order_Verify_b1 rules held k y s157 n) (fun s157 => some (s157, 0, 0)) (k114 + 1) zs162 = nx158 at hm
            unfold m_order_Verify_b1 at hm
            refine C_skip (E_then ?_)
            refine C_seq ?_
            refine C_block ?_
            refine C_seq ?_
            refine C_region ?_
            refine W_move rfl rfl rfl ?_
            obtain ⟨_, ⟨rfl⟩, hc167⟩ := (h3).elem hy163
            refine W_indexS rfl rfl Proofs.Try.runUnderlying25 Proofs.Try.sizeOf36 rfl (h3.mono hle156) rfl (Int.natCast_nonneg _) hy163 ?_
            refine W_loadAgg rfl rfl Proofs.Try.isAgg36 Proofs.Try.sizeOf36 rfl (hc167.mono hle156).at rfl ?_
            refine W_alloc (cs := [.bool (false), .string (⟨#[]⟩)]) rfl rfl Proofs.Try.zeroValue36 rfl (fun b168 => ?_)
            refine W_assign rfl rfl rfl ?_
            refine W_store (cs := [.bool (y161.Close), .string (y161.Switch)]) (out := [.bool (y161.Close), .string (y161.Switch)]) rfl Proofs.Try.sizeOf36 rfl rfl rfl rfl rfl (all_cons rfl (all_cons rfl all_nil)) (over_all rfl) ?_
            refine W_end ?_
            refine E_then ?_
            refine C_seq ?_
            refine C_region ?_
            refine W_move rfl rfl rfl ?_
            refine W_field (o := 0) rfl rfl Proofs.Try.runUnderlying36 rfl Proofs.Try.sizeOf4 rfl rfl rfl ?_
            refine W_load rfl rfl Proofs.Try.isAgg4 rfl (own_at (List.mem_cons_self ..) rfl) ?_
            refine W_field (o := 1) rfl rfl Proofs.Try.runUnderlying36 rfl Proofs.Try.sizeOf9 rfl rfl rfl ?_
            refine W_load rfl rfl Proofs.Try.isAgg9 rfl (own_at (List.mem_cons_self ..) rfl) ?_
            refine W_perm (List.Perm.swap _ _ _) ?_
            obtain ⟨r169, hc170, hm⟩ := bind_some hm
            refine W_call Proofs.Try.call26 rfl rfl rfl (fun w ht => by obtain ⟨H0_, hl0_, ht0_, hr0_, bk0_⟩ := ht.lendRow hr154 rfl; have h := m_interlock_Set_c (hm := hc170) hr0_ ht0_; exact lend_back bk0_ (h)) ?_
            rintro _ _ _ ⟨rfl, ⟨_, rfl, v171, xs172, rfl, rfl, h173⟩⟩
            have h173 := h173 H155
            refine W_move rfl rfl rfl ?_
            refine W_extract rfl rfl rfl rfl ?_
            refine W_extract rfl rfl rfl rfl ?_
            refine W_assign rfl rfl rfl ?_
            refine W_assign rfl rfl rfl ?_
            refine W_end ?_
            refine E_then ?_
            refine C_seq ?_
            refine C_seq ?_
            refine C_region ?_
            refine W_move rfl rfl rfl ?_
            refine W_bin rfl rfl rfl rfl rfl ?_
            refine W_end ?_
            refine E_then ?_
            refine C_cond (b := !decide (r169.2 = 0)) rfl (fun hb174 => ?_) (fun hb174 => ?_)
            · have hm := ite_t' hb174 hm
              refine C_seq ?_
              refine C_region ?_
              refine W_move rfl rfl rfl ?_
              refine W_move rfl rfl rfl ?_
              refine W_assign rfl rfl rfl ?_
              refine W_assign rfl rfl rfl ?_
              refine W_assign rfl rfl rfl ?_
              refine W_end ?_
              refine E_then ?_
              refine C_ret ?_
              refine E_ret_then ?_
              refine E_ret_block ?_
              refine E_ret_then ?_
              refine E_ret_then ?_
              refine E_ret_block ?_
              refine E_ret_then ?_
              refine E_nilRow 33 (Rep.sz S_api_InterlockState) ?_
              obtain rfl := Option.some.inj hm
              refine E_drop (List.Sublist.cons_cons _ (List.Sublist.cons _ (List.Sublist.cons _ (List.Sublist.cons _ (List.Sublist.refl _))))) ?_
              refine E_weak hle156 ?_
              exact end3 rfl rfl rfl rfl ⟨rfl, (.slice none 0 0), [], rfl, rfl, (Rw.nil (H := H)).toF⟩
            · have hm := ite_f' hb174 hm
              refine C_skip ?_
              refine E_then ?_
              refine C_seq ?_
              refine C_seq ?_
              refine C_region ?_
              refine W_move rfl rfl rfl ?_
              refine W_field (o := 1) rfl rfl Proofs.Try.runUnderlying36 rfl Proofs.Try.sizeOf9 rfl rfl rfl ?_
              refine W_load rfl rfl Proofs.Try.isAgg9 rfl (own_at (List.mem_cons_of_mem _ (List.mem_cons_of_mem _ (List.mem_cons_self ..))) rfl) ?_
              obtain ⟨r175, hc176, hm⟩ := bind_some hm
              refine W_call Proofs.Try.call27 rfl rfl rfl (fun w ht => by have h := m_slices_Contains_string_string_c (hm := hc176) (h2.mono hle156) ht; exact h) ?_
              rintro _ _ _ ⟨rfl, rfl, rfl⟩
              refine W_end ?_
              refine E_then ?_
              refine C_cond (b := r175) rfl (fun hb177 => ?_) (fun hb177 => ?_)
              · have hm := ite_t' hb177 hm
                refine C_seq ?_
                refine C_region ?_
                refine W_move rfl rfl rfl ?_
                refine W_assign rfl rfl rfl ?_
                refine W_assign rfl rfl rfl ?_
                refine W_assign rfl rfl rfl ?_
                refine W_end ?_
                refine E_then ?_
                refine C_ret ?_
                refine E_ret_then ?_
                refine E_ret_block ?_
                refine E_ret_then ?_
                refine E_ret_then ?_
                refine E_ret_block ?_
                refine E_ret_then ?_
                refine E_nilRow 33 (Rep.sz S_api_InterlockState) ?_
                obtain rfl := Option.some.inj hm
                refine E_drop (List.Sublist.cons_cons _ (List.Sublist.cons _ (List.Sublist.cons _ (List.Sublist.cons _ (List.Sublist.refl _))))) ?_
                refine E_weak hle156 ?_
                exact end3 rfl rfl rfl rfl ⟨rfl, (.slice none 0 0), [], rfl, rfl, (Rw.nil (H := H)).toF⟩
              · have hm := ite_f' hb177 hm
                refine C_skip ?_
                refine E_then ?_
                refine C_seq ?_
                refine C_seq ?_
                refine C_region ?_
                refine W_move rfl rfl rfl ?_
                refine W_move rfl rfl rfl ?_
                refine W_field (o := 0) rfl rfl Proofs.Try.runUnderlying36 rfl Proofs.Try.sizeOf4 rfl rfl rfl ?_
                refine W_load rfl rfl Proofs.Try.isAgg4 rfl (own_at (List.mem_cons_of_mem _ (List.mem_cons_of_mem _ (List.mem_cons_self ..))) rfl) ?_
                refine W_field (o := 1) rfl rfl Proofs.Try.runUnderlying36 rfl Proofs.Try.sizeOf9 rfl rfl rfl ?_
                refine W_load rfl rfl Proofs.Try.isAgg9 rfl (own_at (List.mem_cons_of_mem _ (List.mem_cons_of_mem _ (List.mem_cons_self ..))) rfl) ?_
                obtain ⟨r178, hc179, hm⟩ := bind_some hm
                refine W_call Proofs.Try.call28 rfl rfl rfl (fun w ht => by obtain ⟨H0_, hl0_, ht0_, hr0_, bk0_⟩ := ht.lendRow hr154 rfl; have h := m_interlock_Permitted_c (hm := hc179) ((h0.mono hle156).mono hl0_) hr0_ ht0_; exact lend_back bk0_ (h)) ?_
                rintro _ _ _ ⟨rfl, ⟨_, rfl, rfl, rfl⟩⟩
                refine W_move rfl rfl rfl ?_
                refine W_extract rfl rfl rfl rfl ?_
                refine W_extract rfl rfl rfl rfl ?_
                refine W_assign rfl rfl rfl ?_
                refine W_assign rfl rfl rfl ?_
                refine W_end ?_
                refine E_then ?_
                refine C_seq ?_
                refine C_region ?_
                refine W_move rfl rfl rfl ?_
                refine W_un rfl rfl rfl rfl ?_
                refine W_end ?_
                refine E_then ?_
                refine C_cond (b := !r178.1) rfl (fun hb180 => ?_) (fun hb180 => ?_)
                · have hm := ite_t' hb180 hm
                  refine C_seq ?_
                  refine C_region ?_
                  refine W_move rfl rfl rfl ?_
                  refine W_assign rfl rfl rfl ?_
                  refine W_assign rfl rfl rfl ?_
                  refine W_assign rfl rfl rfl ?_
                  refine W_end ?_
                  refine E_then ?_
                  refine C_ret ?_
                  refine E_ret_then ?_
                  refine E_ret_block ?_
                  refine E_ret_then ?_
                  refine E_ret_then ?_
                  refine E_ret_block ?_
                  refine E_ret_then ?_
                  refine E_nilRow 33 (Rep.sz S_api_InterlockState) ?_
                  obtain rfl := Option.some.inj hm
                  refine E_drop (List.Sublist.cons_cons _ (List.Sublist.cons _ (List.Sublist.cons _ (List.Sublist.cons _ (List.Sublist.refl _))))) ?_
                  refine E_weak hle156 ?_
                  exact end3 rfl rfl rfl rfl ⟨rfl, (.slice none 0 0), [], rfl, rfl, (Rw.nil (H := H)).toF⟩
                · have hm := ite_f' hb180 hm
                  refine C_skip ?_
                  refine E_then ?_
                  refine C_region ?_
                  refine W_move rfl rfl rfl ?_
                  refine W_assign rfl rfl rfl ?_
                  refine W_end ?_
                  refine E_normal_block ?_
                  refine E_then ?_
                  refine C_region ?_
                  refine W_bin rfl rfl rfl rfl rfl ?_
                  refine W_move rfl rfl rfl ?_
                  refine W_end ?_
                  refine E_drop (List.Sublist.cons _ (List.Sublist.cons_cons _ (List.Sublist.cons _ (List.Sublist.refl _)))) ?_
                  exact E_keepJ (E_back (Nat.lt_succ_self _) ⟨k114 + 1, zs162, r169.1, v171, xs172, hd165, rfl, (by rw [hn159]; exact hm), h173, hle156, rfl, rfl⟩) (List.Perm.refl _) ⟨rfl, rfl, rfl, rfl, rfl, (congrArg (fun z => some (Value.int .i64 z)) (i64_succ hy163 ((h3.mono hle156)).lenMax)), trivial⟩
          · obtain rfl := rng_f hd164 hb166
            have hm : (some (l153, 0, 0)) = some r := hm
            refine C_exit (E_exit_then ?_)
            refine E_exit_then ?_
            refine E_exit_hit ?_
            refine E_then ?_
            refine C_seq ?_
            refine C_region ?_
            refine W_move rfl rfl rfl ?_
            refine W_assign rfl rfl rfl ?_
            refine W_assign rfl rfl rfl ?_
            refine W_assign rfl rfl rfl ?_
            refine W_end ?_
            refine E_then ?_
            refine C_ret ?_
            obtain rfl := Option.some.inj hm
            refine E_weak hle156 ?_
            exact end3 rfl rfl rfl rfl ⟨rfl, v151, xs152, rfl, rfl, (hr154).toF⟩
      · refine C_region ?_
        refine W_move rfl rfl rfl ?_
        refine W_lenR rfl rfl Proofs.Try.runUnderlying25 rfl h3 ?_
        refine W_bin rfl rfl rfl rfl rfl ?_
        refine W_move rfl rfl rfl ?_
        cases hb181 : (decide (256 < (p3_l.length : Int)))
        · refine W_move rfl rfl rfl ?_
          refine W_lenR rfl rfl Proofs.Try.runUnderlying24 rfl h2 ?_
          refine W_bin rfl rfl rfl rfl rfl ?_
          refine W_pick rfl rfl rfl rfl ?_
          refine W_end ?_
          exact E_keepJ (J108 _ _ _ ⟨rfl, rfl, rfl⟩) (List.Perm.refl _) ⟨rfl, rfl, rfl, rfl, (by show some (Value.bool (decide (256 < (held.length : Int)))) = some (Value.bool ((decide (256 < (p3_l.length : Int))) || (decide (256 < (held.length : Int))))); simp only [hb103, hb106, hb181, Bool.and_true, Bool.true_and, Bool.false_and, Bool.and_false, Bool.or_true, Bool.true_or, Bool.or_false, Bool.false_or, Bool.not_true, Bool.not_false]), trivial⟩
        · refine W_no rfl rfl rfl ?_
          refine W_no rfl rfl rfl ?_
          refine W_no rfl rfl rfl ?_
          refine W_pick rfl rfl rfl rfl ?_
          refine W_end ?_
          exact E_keepJ (J108 _ _ _ ⟨rfl, rfl, rfl⟩) (List.Perm.refl _) ⟨rfl, rfl, rfl, rfl, (by show some (Value.bool (true)) = some (Value.bool ((decide (256 < (p3_l.length : Int))) || (decide (256 < (held.length : Int))))); simp only [hb103, hb106, hb181, Bool.and_true, Bool.true_and, Bool.false_and, Bool.and_false, Bool.or_true, Bool.true_or, Bool.or_false, Bool.false_or, Bool.not_true, Bool.not_false]), trivial⟩

theorem m_slices_Equal_api_InterlockState_api_InterlockState_c {B : Nat} {w0 w : World} {H : Hp} {M : List Res} {p0_s1 : (List S_api_InterlockState)} {p1_s2 : (List S_api_InterlockState)} {v0 : Value} {v1 : Value} {r : Bool} (hm : m_slices_Equal_api_InterlockState_api_InterlockState p0_s1 p1_s2 = some r) (h0 : RdS H v0 p0_s1) (h1 : RdS H v1 p1_s2) (ht : St B w0 H (M) w) :
    Calls Proofs.Try.prog 17 [v0, v1].toArray w (Ret B w0 fun H' M' v => H = H' ∧ M = M' ∧ .bool (r) = v) := by
  unfold m_slices_Equal_api_InterlockState_api_InterlockState at hm
  refine enter Proofs.Try.func17 rfl rfl rfl ht ?_
  refine C_seq ?_
  refine C_region ?_
  refine W_assign rfl rfl rfl ?_
  refine W_end ?_
  refine E_then ?_
  refine C_seq ?_
  refine C_seq ?_
  refine C_region ?_
  refine W_move rfl rfl rfl ?_
  refine W_lenR rfl rfl Proofs.Try.runUnderlying23 rfl h0 ?_
  refine W_move rfl rfl rfl ?_
  refine W_lenR rfl rfl Proofs.Try.runUnderlying23 rfl h1 ?_
  refine W_bin rfl rfl rfl rfl rfl ?_
  refine W_end ?_
  refine E_then ?_
  refine C_cond (b := !decide ((p0_s1.length : Int) = (p1_s2.length : Int))) rfl (fun hb101 => ?_) (fun hb101 => ?_)
  · have hm := ite_t' hb101 hm
    refine C_seq ?_
    refine C_region ?_
    refine W_assign rfl rfl rfl ?_
    refine W_end ?_
    refine E_then ?_
    refine C_ret ?_
    refine E_ret_then ?_
    obtain rfl := Option.some.inj hm
    refine E_weak (Hp.le_refl _) ?_
    exact end1 rfl rfl ⟨rfl, rfl, rfl⟩
  · have hm := ite_f' hb101 hm
    refine C_skip ?_
    refine E_then ?_
    refine C_seq ?_
    refine C_seq ?_
    refine C_region ?_
    refine W_move rfl rfl rfl ?_
    refine W_lenR rfl rfl Proofs.Try.runUnderlying23 rfl h0 ?_
    refine W_move rfl rfl rfl ?_
    refine W_end ?_
    refine E_then ?_
    refine C_block ?_
    refine C_keep (L' := [(0, v0), (1, v1), (12, .int .i64 ((p0_s1.length : Int))), (13, .int .i64 (((0 : Nat) : Int)))]) ⟨rfl, rfl, rfl, rfl, trivial⟩ (List.Perm.refl _) ?_
    refine C_loop (fun n H' M' L' => ∃ (k102 : Nat) (zs136' : Nat), k102 + zs136' = ((p0_s1.length : Int) : Int).toNat ∧ zs136' = n ∧ forN (fun k s131 n => m_slices_Equal_api_InterlockState_api_InterlockState_b1 p0_s1 p1_s2 k n) (fun _ => some true) zs136' k102 () = some r ∧ H.le H' ∧ M = M' ∧ [(0, v0), (1, v1), (12, .int .i64 ((p0_s1.length : Int))), (13, .int .i64 ((k102 : Int)))] = L') _ ⟨0, _, Nat.zero_add _, rfl, hm, (Hp.le_refl _), rfl, rfl⟩ ?_
    rintro _ H129 _ _ ⟨k102, zs136', hd138, rfl, hm, hle130, rfl, rfl⟩
    refine C_seq ?_
    refine C_region ?_
    refine W_bin rfl rfl rfl rfl rfl ?_
    refine W_end (E_then ?_)
    refine C_seq ?_
    refine C_cond (b := decide ((k102 : Int) < (p0_s1.length : Int))) rfl (fun hb140 => ?_) (fun hb140 => ?_)
    · obtain ⟨zs136, rfl, hd139, hy137⟩ := rngN_t hd138 hb140
      have hm : m_slices_Equal_api_InterlockState_api_InterlockState_b1 p0_s1 p1_s2 k102 (forN (fun k s131 n => m_slices_Equal_api_InterlockState_api_InterlockState_b1 p0_s1 p1_s2 k n) (fun _ => some true) zs136 (k102 + 1)) = some r := hm
      generalize hn133 : forN (fun k s131 n => m_slices_Equal_api_InterlockState_api_InterlockState_b1 p0_s1 p1_s2 k n) (fun _ => some true) zs136 (k102 + 1) = nx132 at hm
      unfold m_slices_Equal_api_InterlockState_api_InterlockState_b1 at hm
      refine C_skip (E_then ?_)
      refine C_seq ?_
      refine C_block ?_
      refine C_seq ?_
      refine C_region ?_
      refine W_move rfl rfl rfl ?_
      refine W_assign rfl rfl rfl ?_
      refine W_end ?_
      refine E_then ?_
      refine C_seq ?_
      obtain ⟨y141, h142, he143, hm⟩ := idx_some hm
      obtain ⟨_, ⟨rfl⟩, hc144⟩ := (h0).elem he143
      obtain ⟨y145, h146, he147, hm⟩ := idx_some hm
      obtain ⟨_, ⟨rfl⟩, hc148⟩ := (h1).elem he147
      refine C_region_tok0 8 (phiT [(fun H rs v => [] = rs ∧ v0 = v), (fun H rs v => [] = rs ∧ .int .i64 ((k102 : Int)) = v), (fun H rs v => [] = rs ∧ .pointer (some ((Value.base (v0)).add (((k102 : Int) : Int).toNat * 2))) = v), (fun H rs v => [] = rs ∧ .agg [.string (y141.Name), .bool (y141.Closed)].toArray = v), (fun H rs v => [] = rs ∧ v1 = v), (fun H rs v => [] = rs ∧ .int .i64 ((k102 : Int)) = v), (fun H rs v => [] = rs ∧ .pointer (some ((Value.base (v1)).add (((k102 : Int) : Int).toNat * 2))) = v), (fun H rs v => [] = rs ∧ .agg [.string (y145.Name), .bool (y145.Closed)].toArray = v)]) [[], [], [], [], [], [], [], []] [[], [], [], [], [], [], [], []] [] [0, 1, 2, 3, 4, 5, 6, 7] Facts.mixed (by kernel_rfl) rfl rfl rfl (by kernel_rfl) (phiT_mono ⟨eq_monoT _ _, eq_monoT _ _, eq_monoT _ _, eq_monoT _ _, eq_monoT _ _, eq_monoT _ _, eq_monoT _ _, eq_monoT _ _, trivial⟩) ⟨?_, ?_, ?_, ?_, ?_, ?_, ?_, ?_, trivial⟩ ?_
      · intro HX hX X Rest hR
        intro hU
        refine W_move rfl rfl rfl ?_
        exact W_end (OneT_end [] (Hp.le_refl _) ⟨rfl, rfl⟩)
      · intro HX hX X Rest hR
        intro hU
        refine W_move rfl rfl rfl ?_
        exact W_end (OneT_end [] (Hp.le_refl _) ⟨rfl, rfl⟩)
      · intro HX hX X Rest hR
        rintro _ _ ⟨rfl, rfl⟩
        rintro _ _ ⟨rfl, rfl⟩
        intro hU
        refine W_indexS rfl rfl Proofs.Try.runUnderlying23 Proofs.Try.sizeOf33 rfl ((h0.mono hle130).mono hX) rfl h142 he143 ?_
        exact W_end (OneT_end [] (Hp.le_refl _) ⟨rfl, rfl⟩)
      · intro HX hX X Rest hR
        rintro _ _ ⟨rfl, rfl⟩
        intro hU
        refine W_loadAgg rfl rfl Proofs.Try.isAgg33 Proofs.Try.sizeOf33 rfl ((hc144.mono hle130).mono hX).at rfl ?_
        exact W_end (OneT_end [] (Hp.le_refl _) ⟨rfl, rfl⟩)
      · intro HX hX X Rest hR
        intro hU
        refine W_move rfl rfl rfl ?_
        exact W_end (OneT_end [] (Hp.le_refl _) ⟨rfl, rfl⟩)
      · intro HX hX X Rest hR
        intro hU
        refine W_move rfl rfl rfl ?_
        exact W_end (OneT_end [] (Hp.le_refl _) ⟨rfl, rfl⟩)
      · intro HX hX X Rest hR
        rintro _ _ ⟨rfl, rfl⟩
        rintro _ _ ⟨rfl, rfl⟩
        intro hU
        refine W_indexS rfl rfl Proofs.Try.runUnderlying23 Proofs.Try.sizeOf33 rfl ((h1.mono hle130).mono hX) rfl h146 he147 ?_
        exact W_end (OneT_end [] (Hp.le_refl _) ⟨rfl, rfl⟩)
      · intro HX hX X Rest hR
        rintro _ _ ⟨rfl, rfl⟩
        intro hU
        refine W_loadAgg rfl rfl Proofs.Try.isAgg33 Proofs.Try.sizeOf33 rfl ((hc148.mono hle130).mono hX).at rfl ?_
        exact W_end (OneT_end [] (Hp.le_refl _) ⟨rfl, rfl⟩)
      intro H149 hle150
      rintro _ _ ⟨rfl, rfl⟩
      rintro _ _ ⟨rfl, rfl⟩
      rintro _ _ ⟨rfl, rfl⟩
      rintro _ _ ⟨rfl, rfl⟩
      rintro _ _ ⟨rfl, rfl⟩
      rintro _ _ ⟨rfl, rfl⟩
      rintro _ _ ⟨rfl, rfl⟩
      rintro _ _ ⟨rfl, rfl⟩
      refine W_neAgg (b := decide (y141.Name = y145.Name) && (decide (y141.Closed = y145.Closed) && true)) rfl rfl (by kernel_rfl) rfl rfl (fun w => run_equal_struct (bs := [decide (y141.Name = y145.Name), decide (y141.Closed = y145.Closed)]) Proofs.Try.runUnderlying33 (by kernel_rfl) ⟨(by decide), (fldEq_str Proofs.Try.isAgg9 Proofs.Try.runUnderlying9 rfl rfl), (by decide), (fldEq_bool Proofs.Try.isAgg4 Proofs.Try.runUnderlying4 rfl rfl), trivial⟩) ?_
      refine W_end ?_
      refine E_then ?_
      refine C_cond (b := !(decide (y141.Name = y145.Name) && (decide (y141.Closed = y145.Closed) && true))) rfl (fun hb151 => ?_) (fun hb151 => ?_)
      · have hm := ite_t' hb151 hm
        refine C_seq ?_
        refine C_region ?_
        refine W_assign rfl rfl rfl ?_
        refine W_end ?_
        refine E_then ?_
        refine C_ret ?_
        refine E_ret_block ?_
        refine E_ret_then ?_
        refine E_ret_then ?_
        refine E_ret_block ?_
        refine E_ret_then ?_
        obtain rfl := Option.some.inj hm
        refine E_weak (Hp.le_trans hle130 hle150) ?_
        exact end1 rfl rfl ⟨rfl, rfl, rfl⟩
      · have hm := ite_f' hb151 hm
        refine C_skip ?_
        refine E_normal_block ?_
        refine E_then ?_
        refine C_region ?_
        refine W_bin rfl rfl rfl rfl rfl ?_
        refine W_move rfl rfl rfl ?_
        refine W_end ?_
        exact E_keepJ (E_back (Nat.lt_succ_self _) ⟨k102 + 1, zs136, hd139, rfl, (by rw [hn133]; exact hm), (Hp.le_trans hle130 hle150), rfl, rfl⟩) (List.Perm.refl _) ⟨rfl, rfl, rfl, (congrArg (fun z => some (Value.int .i64 z)) (i64_succN hy137 (toNat_max (len_max (h0).lenMax)))), trivial⟩
    · obtain rfl := rngN_f hd138 hb140
      have hm : (some true) = some r := hm
      refine C_exit (E_exit_then ?_)
      refine E_exit_then ?_
      refine E_exit_hit ?_
      refine E_then ?_
      refine C_seq ?_
      refine C_region ?_
      refine W_assign rfl rfl rfl ?_
      refine W_end ?_
      refine E_then ?_
      refine C_ret ?_
      obtain rfl := Option.some.inj hm
      refine E_weak hle130 ?_
      exact end1 rfl rfl ⟨rfl, rfl, rfl⟩
end Go.Sim
