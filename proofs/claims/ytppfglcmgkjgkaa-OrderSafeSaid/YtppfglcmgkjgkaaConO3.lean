/-
  Printed by a program: each Go function computes its model.
-/
import Derived.Test.YtppfglcmgkjgkaaConO2
namespace Go.Sim
open Go
set_option linter.unusedVariables false
set_option linter.unusedSimpArgs false
set_option maxRecDepth 100000
theorem m_gridhallkeep4_OrderThrough_c {B : Nat} {w0 w : World} {H : Hp} {M : List Res} {rules : (List S_api_InterlockRule)} {p1_a : (List S_api_InterlockState)} {p2_b : (List S_api_InterlockState)} {p3_c : (List S_api_InterlockState)} {held : (List ByteArray)} {v0 : Value} {v1 : Value} {v2 : Value} {v3 : Value} {v4 : Value} {r : Bool} (hm : m_gridhallkeep4_OrderThrough rules p1_a p2_b p3_c held = some r) (h0 : RdS H v0 rules) (h1 : RdS H v1 p1_a) (h2 : RdS H v2 p2_b) (h3 : RdS H v3 p3_c) (h4 : RdS H v4 held) (ht : St B w0 H (M) w) :
    Calls Proofs.Try.prog 3 [v0, v1, v2, v3, v4].toArray w (Ret B w0 fun H' M' v => H = H' ∧ M = M' ∧ .bool (r) = v) := by
  unfold m_gridhallkeep4_OrderThrough at hm
  refine enter Proofs.Try.func3 rfl rfl rfl ht ?_
  refine C_seq ?_
  refine C_region ?_
  refine W_assign rfl rfl rfl ?_
  refine W_end ?_
  refine E_then ?_
  refine C_seq ?_
  obtain ⟨hz101, hm⟩ := need_some hm
  obtain ⟨hz105, hm⟩ := need_some hm
  obtain ⟨hz109, hm⟩ := need_some hm
  refine C_region_tok 17 (phiT [(fun H rs v => [] = rs ∧ v1 = v), (fun H rs v => [] = rs ∧ v1 = v), (fun H rs v => [] = rs ∧ .int .i64 ((p1_a.length : Int)) = v), (fun H rs v => [] = rs ∧ .int .i64 (min (p1_a.length : Int) 5) = v), (fun H rs v => ∃ v113 : Value, [] = rs ∧ v113 = v ∧ RdS H v113 (slc p1_a 0 ((min (p1_a.length : Int) 5 : Int).toNat))), (fun H rs v => [] = rs ∧ v2 = v), (fun H rs v => [] = rs ∧ v2 = v), (fun H rs v => [] = rs ∧ .int .i64 ((p2_b.length : Int)) = v), (fun H rs v => [] = rs ∧ .int .i64 (min (p2_b.length : Int) 5) = v), (fun H rs v => ∃ v116 : Value, [] = rs ∧ v116 = v ∧ RdS H v116 (slc p2_b 0 ((min (p2_b.length : Int) 5 : Int).toNat))), (fun H rs v => [] = rs ∧ v3 = v), (fun H rs v => [] = rs ∧ v3 = v), (fun H rs v => [] = rs ∧ .int .i64 ((p3_c.length : Int)) = v), (fun H rs v => [] = rs ∧ .int .i64 (min (p3_c.length : Int) 5) = v), (fun H rs v => ∃ v119 : Value, [] = rs ∧ v119 = v ∧ RdS H v119 (slc p3_c 0 ((min (p3_c.length : Int) 5 : Int).toNat))), (fun H rs v => ∃ v113 : Value, [] = rs ∧ v113 = v ∧ RdS H v113 (slc p1_a 0 ((min (p1_a.length : Int) 5 : Int).toNat))), (fun H rs v => ∃ v116 : Value, [] = rs ∧ v116 = v ∧ RdS H v116 (slc p2_b 0 ((min (p2_b.length : Int) 5 : Int).toNat)))]) [[], [], [], [], [], [], [], [], [], [], [], [], [], [], [], [], []] [[], [], [], [], [], [], [], [], [], [], [], [], [], [], [], [], []] [] [0, 1, 2, 3, 4, 5, 6, 7, 8, 9, 10, 11, 12, 13, 14, 15, 16] [(0, v0), (3, v3), (4, v4), (10, .bool (false))] [[(1, v1)], [(1, v1)], [], [], [], [(2, v2)], [(2, v2)], [], [], [], [], [], [], [], [], [], []] Facts.mixed (by kernel_rfl) rfl rfl (by kernel_rfl) (Kept.lk ⟨rfl, rfl, rfl, rfl, trivial⟩) ⟨⟨rfl, trivial⟩, ⟨rfl, trivial⟩, trivial, trivial, trivial, ⟨rfl, trivial⟩, ⟨rfl, trivial⟩, trivial, trivial, trivial, trivial, trivial, trivial, trivial, trivial, trivial, trivial, trivial⟩ rfl (by kernel_rfl) (phiT_mono ⟨eq_monoT _ _, eq_monoT _ _, eq_monoT _ _, eq_monoT _ _, (by rintro H1 H2 rs v hle ⟨v113, rfl, rfl, h114⟩; exact ⟨v113, rfl, rfl, (h114.mono hle)⟩), eq_monoT _ _, eq_monoT _ _, eq_monoT _ _, eq_monoT _ _, (by rintro H1 H2 rs v hle ⟨v116, rfl, rfl, h117⟩; exact ⟨v116, rfl, rfl, (h117.mono hle)⟩), eq_monoT _ _, eq_monoT _ _, eq_monoT _ _, eq_monoT _ _, (by rintro H1 H2 rs v hle ⟨v119, rfl, rfl, h120⟩; exact ⟨v119, rfl, rfl, (h120.mono hle)⟩), (by rintro H1 H2 rs v hle ⟨v113, rfl, rfl, h114⟩; exact ⟨v113, rfl, rfl, (h114.mono hle)⟩), (by rintro H1 H2 rs v hle ⟨v116, rfl, rfl, h117⟩; exact ⟨v116, rfl, rfl, (h117.mono hle)⟩), trivial⟩) ⟨?_, ?_, ?_, ?_, ?_, ?_, ?_, ?_, ?_, ?_, ?_, ?_, ?_, ?_, ?_, ?_, ?_, trivial⟩ ?_
  · intro HX hX X Rest hR
    intro hU
    refine W_move rfl rfl rfl ?_
    exact W_end (OneT_end [] (Hp.le_refl _) ⟨rfl, rfl⟩)
  · intro HX hX X Rest hR
    intro hU
    refine W_move rfl rfl rfl ?_
    exact W_end (OneT_end [] (Hp.le_refl _) ⟨rfl, rfl⟩)
  · intro HX hX X Rest hR
    rintro _ _ ⟨rfl, rfl⟩
    intro hU
    refine W_lenR rfl rfl Proofs.Try.runUnderlying23 rfl (h1.mono hX) ?_
    exact W_end (OneT_end [] (Hp.le_refl _) ⟨rfl, rfl⟩)
  · intro HX hX X Rest hR
    rintro _ _ ⟨rfl, rfl⟩
    intro hU
    refine W_min rfl rfl rfl rfl ?_
    exact W_end (OneT_end [] (Hp.le_refl _) ⟨rfl, rfl⟩)
  · intro HX hX X Rest hR
    rintro _ _ ⟨rfl, rfl⟩
    rintro _ _ ⟨rfl, rfl⟩
    intro hU
    refine W_sliceR (α := S_api_InterlockState) (l := 0) (h := (min (p1_a.length : Int) 5 : Int).toNat) (xs := p1_a) rfl rfl Proofs.Try.runUnderlying23 Proofs.Try.sizeOf33 rfl (h1.mono hX) (by omega) (by omega) (.inl rfl) (fun cap hcap => by rw [if_pos rfl]; exact (.inl ⟨rfl, rfl⟩)) (fun m hmm => (.inr ⟨_, _, _, rfl, rfl, by omega, by omega, rfl⟩)) (.inl ⟨rfl, rfl⟩) ?_
    intro v113 h114 hc115
    exact W_end (OneT_end [] (Hp.le_refl _) ⟨v113, rfl, rfl, (h114)⟩)
  · intro HX hX X Rest hR
    intro hU
    refine W_move rfl rfl rfl ?_
    exact W_end (OneT_end [] (Hp.le_refl _) ⟨rfl, rfl⟩)
  · intro HX hX X Rest hR
    intro hU
    refine W_move rfl rfl rfl ?_
    exact W_end (OneT_end [] (Hp.le_refl _) ⟨rfl, rfl⟩)
  · intro HX hX X Rest hR
    rintro _ _ ⟨rfl, rfl⟩
    intro hU
    refine W_lenR rfl rfl Proofs.Try.runUnderlying23 rfl (h2.mono hX) ?_
    exact W_end (OneT_end [] (Hp.le_refl _) ⟨rfl, rfl⟩)
  · intro HX hX X Rest hR
    rintro _ _ ⟨rfl, rfl⟩
    intro hU
    refine W_min rfl rfl rfl rfl ?_
    exact W_end (OneT_end [] (Hp.le_refl _) ⟨rfl, rfl⟩)
  · intro HX hX X Rest hR
    rintro _ _ ⟨rfl, rfl⟩
    rintro _ _ ⟨rfl, rfl⟩
    intro hU
    refine W_sliceR (α := S_api_InterlockState) (l := 0) (h := (min (p2_b.length : Int) 5 : Int).toNat) (xs := p2_b) rfl rfl Proofs.Try.runUnderlying23 Proofs.Try.sizeOf33 rfl (h2.mono hX) (by omega) (by omega) (.inl rfl) (fun cap hcap => by rw [if_pos rfl]; exact (.inl ⟨rfl, rfl⟩)) (fun m hmm => (.inr ⟨_, _, _, rfl, rfl, by omega, by omega, rfl⟩)) (.inl ⟨rfl, rfl⟩) ?_
    intro v116 h117 hc118
    exact W_end (OneT_end [] (Hp.le_refl _) ⟨v116, rfl, rfl, (h117)⟩)
  · intro HX hX X Rest hR
    intro hU
    refine W_move rfl rfl rfl ?_
    exact W_end (OneT_end [] (Hp.le_refl _) ⟨rfl, rfl⟩)
  · intro HX hX X Rest hR
    intro hU
    refine W_move rfl rfl rfl ?_
    exact W_end (OneT_end [] (Hp.le_refl _) ⟨rfl, rfl⟩)
  · intro HX hX X Rest hR
    rintro _ _ ⟨rfl, rfl⟩
    intro hU
    refine W_lenR rfl rfl Proofs.Try.runUnderlying23 rfl (h3.mono hX) ?_
    exact W_end (OneT_end [] (Hp.le_refl _) ⟨rfl, rfl⟩)
  · intro HX hX X Rest hR
    rintro _ _ ⟨rfl, rfl⟩
    intro hU
    refine W_min rfl rfl rfl rfl ?_
    exact W_end (OneT_end [] (Hp.le_refl _) ⟨rfl, rfl⟩)
  · intro HX hX X Rest hR
    rintro _ _ ⟨rfl, rfl⟩
    rintro _ _ ⟨rfl, rfl⟩
    intro hU
    refine W_sliceR (α := S_api_InterlockState) (l := 0) (h := (min (p3_c.length : Int) 5 : Int).toNat) (xs := p3_c) rfl rfl Proofs.Try.runUnderlying23 Proofs.Try.sizeOf33 rfl (h3.mono hX) (by omega) (by omega) (.inl rfl) (fun cap hcap => by rw [if_pos rfl]; exact (.inl ⟨rfl, rfl⟩)) (fun m hmm => (.inr ⟨_, _, _, rfl, rfl, by omega, by omega, rfl⟩)) (.inl ⟨rfl, rfl⟩) ?_
    intro v119 h120 hc121
    exact W_end (OneT_end [] (Hp.le_refl _) ⟨v119, rfl, rfl, (h120)⟩)
  · intro HX hX X Rest hR
    rintro _ _ ⟨v113, rfl, rfl, h114⟩
    rintro _ _ ⟨rfl, rfl⟩
    rintro _ _ ⟨rfl, rfl⟩
    rintro _ _ ⟨rfl, rfl⟩
    rintro _ _ ⟨rfl, rfl⟩
    rintro _ _ ⟨v113, rfl, rfl, h114⟩
    intro hU
    refine W_assign rfl rfl rfl ?_
    exact W_end (OneT_end [] (Hp.le_refl _) ⟨v113, rfl, rfl, (h114)⟩)
  · intro HX hX X Rest hR
    rintro _ _ ⟨v116, rfl, rfl, h117⟩
    rintro _ _ ⟨v113, rfl, rfl, h114⟩
    rintro _ _ ⟨rfl, rfl⟩
    rintro _ _ ⟨rfl, rfl⟩
    rintro _ _ ⟨rfl, rfl⟩
    rintro _ _ ⟨rfl, rfl⟩
    rintro _ _ ⟨v113, rfl, rfl, h114⟩
    rintro _ _ ⟨rfl, rfl⟩
    rintro _ _ ⟨rfl, rfl⟩
    rintro _ _ ⟨rfl, rfl⟩
    rintro _ _ ⟨rfl, rfl⟩
    rintro _ _ ⟨v116, rfl, rfl, h117⟩
    rintro _ _ ⟨v113, rfl, rfl, h114⟩
    intro hU
    refine W_assign rfl rfl rfl ?_
    exact W_end (OneT_end [] (Hp.le_refl _) ⟨v116, rfl, rfl, (h117)⟩)
  intro H122 hle123
  rintro _ _ ⟨rfl, rfl⟩
  rintro _ _ ⟨rfl, rfl⟩
  rintro _ _ ⟨rfl, rfl⟩
  rintro _ _ ⟨rfl, rfl⟩
  rintro _ _ ⟨v113, rfl, rfl, h114⟩
  rintro _ _ ⟨rfl, rfl⟩
  rintro _ _ ⟨rfl, rfl⟩
  rintro _ _ ⟨rfl, rfl⟩
  rintro _ _ ⟨rfl, rfl⟩
  rintro _ _ ⟨v116, rfl, rfl, h117⟩
  rintro _ _ ⟨rfl, rfl⟩
  rintro _ _ ⟨rfl, rfl⟩
  rintro _ _ ⟨rfl, rfl⟩
  rintro _ _ ⟨rfl, rfl⟩
  rintro _ _ ⟨v119, rfl, rfl, h120⟩
  rintro _ _ ⟨v113, rfl, rfl, h114⟩
  rintro _ _ ⟨v116, rfl, rfl, h117⟩
  refine W_assign rfl rfl rfl ?_
  refine W_end ?_
  refine E_then ?_
  refine C_seq ?_
  refine C_region ?_
  refine W_move rfl rfl rfl ?_
  refine W_move rfl rfl rfl ?_
  refine W_move rfl rfl rfl ?_
  refine W_move rfl rfl rfl ?_
  obtain ⟨r124, hc125, hm⟩ := bind_some hm
  refine W_call Proofs.Try.call8 rfl rfl rfl (fun w ht => by have h := m_order_Plan_c (hm := hc125) (h0.mono hle123) h114 h117 (h4.mono hle123) ht; exact h) ?_
  rintro _ _ _ ⟨rfl, v126, xs127, rfl, rfl, h128⟩
  have h128 := h128 H122
  refine W_move rfl rfl rfl ?_
  refine W_extract rfl rfl rfl rfl ?_
  refine W_extract rfl rfl rfl rfl ?_
  refine W_assign rfl rfl rfl ?_
  refine W_assign rfl rfl rfl ?_
  refine W_end ?_
  refine E_then ?_
  refine C_seq ?_
  refine C_region ?_
  refine W_move rfl rfl rfl ?_
  refine W_move rfl rfl rfl ?_
  refine W_move rfl rfl rfl ?_
  refine W_move rfl rfl rfl ?_
  obtain ⟨r129, hc130, hm⟩ := bind_some hm
  refine W_call Proofs.Try.call8 rfl rfl rfl (fun w ht => by have h := m_order_Plan_c (hm := hc130) (h0.mono hle123) h117 h120 (h4.mono hle123) ht; exact h) ?_
  rintro _ _ _ ⟨rfl, v131, xs132, rfl, rfl, h133⟩
  have h133 := h133 H122
  refine W_move rfl rfl rfl ?_
  refine W_extract rfl rfl rfl rfl ?_
  refine W_extract rfl rfl rfl rfl ?_
  refine W_assign rfl rfl rfl ?_
  refine W_assign rfl rfl rfl ?_
  refine W_end ?_
  refine E_then ?_
  refine C_seq ?_
  refine C_region ?_
  refine W_move rfl rfl rfl ?_
  refine W_move rfl rfl rfl ?_
  refine W_move rfl rfl rfl ?_
  refine W_move rfl rfl rfl ?_
  obtain ⟨r134, hc135, hm⟩ := bind_some hm
  refine W_call Proofs.Try.call8 rfl rfl rfl (fun w ht => by have h := m_order_Plan_c (hm := hc135) (h0.mono hle123) h114 h120 (h4.mono hle123) ht; exact h) ?_
  rintro _ _ _ ⟨rfl, v136, xs137, rfl, rfl, h138⟩
  have h138 := h138 H122
  refine W_move rfl rfl rfl ?_
  refine W_extract rfl rfl rfl rfl ?_
  refine W_extract rfl rfl rfl rfl ?_
  refine W_assign rfl rfl rfl ?_
  refine W_assign rfl rfl rfl ?_
  refine W_end ?_
  refine E_then ?_
  refine C_seq ?_
  refine C_seq_join (fun H' M' L' => H122 = H' ∧ .row v136 36 (Rep.sz S_api_OrderStep) r134.1.length xs137 :: .row v131 36 (Rep.sz S_api_OrderStep) r129.1.length xs132 :: .row v126 36 (Rep.sz S_api_OrderStep) r124.1.length xs127 :: M = M' ∧ [(11, v126), (13, v131), (15, v136), (16, .int .i64 (r134.2)), (61, .bool ((!decide (r124.2 = 0)) || (!decide (r129.2 = 0))))] = L') ?_ (fun J140 => ?_)
  · rintro _ _ _ ⟨rfl, rfl, rfl⟩
    refine C_cond (b := (!decide (r124.2 = 0)) || (!decide (r129.2 = 0))) rfl (fun hb141 => ?_) (fun hb141 => ?_)
    · have hm := ite_t' hb141 hm
      refine C_seq ?_
      refine C_region ?_
      obtain ⟨r142, hc143, hm⟩ := bind_some hm
      refine W_call Proofs.Try.call9 rfl rfl rfl (fun w ht => by have h := m_gridhallkeep4_orderFact_c (hm := hc143)  ht; exact h) ?_
      rintro _ _ _ ⟨rfl, rfl, rfl⟩
      refine W_assign rfl rfl rfl ?_
      refine W_end ?_
      refine E_then ?_
      refine C_ret ?_
      refine E_ret_then ?_
      obtain rfl := Option.some.inj hm
      refine E_drop (List.Sublist.cons _ (List.Sublist.cons _ (List.Sublist.cons _ (List.Sublist.refl _)))) ?_
      refine E_weak hle123 ?_
      exact end1 rfl rfl ⟨rfl, rfl, rfl⟩
    · have hm := ite_f' hb141 hm
      refine C_skip ?_
      refine E_then ?_
      obtain ⟨r148, hc149, hm⟩ := bind_some hm
      refine C_seq_join (fun H' M' L' => H122 = H' ∧ M = M' ∧ [(10, .bool ((r148 && (decide (r134.2 = 0))) && (decide ((r134.1.length : Int) ≤ (IntKind.i64.wrap ((r124.1.length : Int) + (r129.1.length : Int)))))))] = L') ?_ (fun J150 => ?_)
      · rintro _ _ _ ⟨rfl, rfl, rfl⟩
        refine C_ret ?_
        obtain rfl := Option.some.inj hm
        refine E_weak hle123 ?_
        exact end1 rfl rfl ⟨rfl, rfl, rfl⟩
      · refine C_region ?_
        refine W_call Proofs.Try.call9 rfl rfl rfl (fun w ht => by have h := m_gridhallkeep4_orderFact_c (hm := hc149)  ht; exact h) ?_
        rintro _ _ _ ⟨rfl, rfl, rfl⟩
        refine W_move rfl rfl rfl ?_
        cases hb151 : (r148)
        · refine W_no rfl rfl rfl ?_
          refine W_no rfl rfl rfl ?_
          refine W_pick rfl rfl rfl rfl ?_
          refine W_move rfl rfl rfl ?_
          refine W_no rfl rfl rfl ?_
          refine W_no rfl rfl rfl ?_
          refine W_no rfl rfl rfl ?_
          refine W_no rfl rfl rfl ?_
          refine W_no rfl rfl rfl ?_
          refine W_no rfl rfl rfl ?_
          refine W_no rfl rfl rfl ?_
          refine W_no rfl rfl rfl ?_
          refine W_pick rfl rfl rfl rfl ?_
          refine W_assign rfl rfl rfl ?_
          refine W_end ?_
          refine E_drop (List.Sublist.cons _ (List.Sublist.cons _ (List.Sublist.cons _ (List.Sublist.refl _)))) ?_
          exact E_keepJ (J150 _ _ _ ⟨rfl, rfl, rfl⟩) (List.Perm.refl _) ⟨(by show some (Value.bool (false)) = some (Value.bool ((r148 && (decide (r134.2 = 0))) && (decide ((r134.1.length : Int) ≤ (IntKind.i64.wrap ((r124.1.length : Int) + (r129.1.length : Int))))))); simp only [hb141, hb151, Bool.and_true, Bool.true_and, Bool.false_and, Bool.and_false, Bool.or_true, Bool.true_or, Bool.or_false, Bool.false_or, Bool.not_true, Bool.not_false]), trivial⟩
        · refine W_move rfl rfl rfl ?_
          refine W_bin rfl rfl rfl rfl rfl ?_
          refine W_pick rfl rfl rfl rfl ?_
          refine W_move rfl rfl rfl ?_
          cases hb152 : (decide (r134.2 = 0))
          · refine W_no rfl rfl rfl ?_
            refine W_no rfl rfl rfl ?_
            refine W_no rfl rfl rfl ?_
            refine W_no rfl rfl rfl ?_
            refine W_no rfl rfl rfl ?_
            refine W_no rfl rfl rfl ?_
            refine W_no rfl rfl rfl ?_
            refine W_no rfl rfl rfl ?_
            refine W_pick rfl rfl rfl rfl ?_
            refine W_assign rfl rfl rfl ?_
            refine W_end ?_
            refine E_drop (List.Sublist.cons _ (List.Sublist.cons _ (List.Sublist.cons _ (List.Sublist.refl _)))) ?_
            exact E_keepJ (J150 _ _ _ ⟨rfl, rfl, rfl⟩) (List.Perm.refl _) ⟨(by show some (Value.bool (false)) = some (Value.bool ((r148 && (decide (r134.2 = 0))) && (decide ((r134.1.length : Int) ≤ (IntKind.i64.wrap ((r124.1.length : Int) + (r129.1.length : Int))))))); simp only [hb141, hb151, hb152, Bool.and_true, Bool.true_and, Bool.false_and, Bool.and_false, Bool.or_true, Bool.true_or, Bool.or_false, Bool.false_or, Bool.not_true, Bool.not_false]), trivial⟩
          · refine W_move rfl rfl rfl ?_
            refine W_lenO (List.mem_cons_self ..) rfl rfl Proofs.Try.runUnderlying25 rfl ?_
            refine W_move rfl rfl rfl ?_
            refine W_lenO (List.mem_cons_of_mem _ (List.mem_cons_of_mem _ (List.mem_cons_self ..))) rfl rfl Proofs.Try.runUnderlying25 rfl ?_
            refine W_move rfl rfl rfl ?_
            refine W_lenO (List.mem_cons_of_mem _ (List.mem_cons_self ..)) rfl rfl Proofs.Try.runUnderlying25 rfl ?_
            refine W_bin rfl rfl rfl rfl rfl ?_
            refine W_bin rfl rfl rfl rfl rfl ?_
            refine W_pick rfl rfl rfl rfl ?_
            refine W_assign rfl rfl rfl ?_
            refine W_end ?_
            refine E_drop (List.Sublist.cons _ (List.Sublist.cons _ (List.Sublist.cons _ (List.Sublist.refl _)))) ?_
            exact E_keepJ (J150 _ _ _ ⟨rfl, rfl, rfl⟩) (List.Perm.refl _) ⟨(by show some (Value.bool (decide ((r134.1.length : Int) ≤ (IntKind.i64.wrap ((r124.1.length : Int) + (r129.1.length : Int)))))) = some (Value.bool ((r148 && (decide (r134.2 = 0))) && (decide ((r134.1.length : Int) ≤ (IntKind.i64.wrap ((r124.1.length : Int) + (r129.1.length : Int))))))); simp only [hb141, hb151, hb152, Bool.and_true, Bool.true_and, Bool.false_and, Bool.and_false, Bool.or_true, Bool.true_or, Bool.or_false, Bool.false_or, Bool.not_true, Bool.not_false]), trivial⟩
  · refine C_region ?_
    refine W_move rfl rfl rfl ?_
    refine W_bin rfl rfl rfl rfl rfl ?_
    refine W_move rfl rfl rfl ?_
    cases hb153 : (decide (r124.2 = 0))
    · refine W_no rfl rfl rfl ?_
      refine W_no rfl rfl rfl ?_
      refine W_pick rfl rfl rfl rfl ?_
      refine W_end ?_
      exact E_keepJ (J140 _ _ _ ⟨rfl, rfl, rfl⟩) (List.Perm.refl _) ⟨rfl, rfl, rfl, rfl, (by show some (Value.bool (true)) = some (Value.bool ((!decide (r124.2 = 0)) || (!decide (r129.2 = 0)))); simp only [hb153, Bool.and_true, Bool.true_and, Bool.false_and, Bool.and_false, Bool.or_true, Bool.true_or, Bool.or_false, Bool.false_or, Bool.not_true, Bool.not_false]), trivial⟩
    · refine W_move rfl rfl rfl ?_
      refine W_bin rfl rfl rfl rfl rfl ?_
      refine W_pick rfl rfl rfl rfl ?_
      refine W_end ?_
      exact E_keepJ (J140 _ _ _ ⟨rfl, rfl, rfl⟩) (List.Perm.refl _) ⟨rfl, rfl, rfl, rfl, (by show some (Value.bool (!decide (r129.2 = 0))) = some (Value.bool ((!decide (r124.2 = 0)) || (!decide (r129.2 = 0)))); simp only [hb153, Bool.and_true, Bool.true_and, Bool.false_and, Bool.and_false, Bool.or_true, Bool.true_or, Bool.or_false, Bool.false_or, Bool.not_true, Bool.not_false]), trivial⟩

theorem m_gridhallref4_Cut_c {B : Nat} {w0 w : World} {H : Hp} {M : List Res} {p0_n : Int} {p1_low : Int} {p2_high : Int} {r : Int} (hm : m_gridhallref4_Cut p0_n p1_low p2_high = some r) (ht : St B w0 H (M) w) :
    Calls Proofs.Try.prog 10 [.int .i64 (p0_n), .int .i64 (p1_low), .int .i64 (p2_high)].toArray w (Ret B w0 fun H' M' v => H = H' ∧ M = M' ∧ .int .i64 (r) = v) := by
  unfold m_gridhallref4_Cut at hm
  refine enter Proofs.Try.func10 rfl rfl rfl ht ?_
  refine C_seq ?_
  refine C_region ?_
  refine W_assign rfl rfl rfl ?_
  refine W_end ?_
  refine E_then ?_
  refine C_seq ?_
  refine C_region ?_
  refine W_move rfl rfl rfl ?_
  refine W_move rfl rfl rfl ?_
  refine W_bin rfl rfl rfl rfl rfl ?_
  refine W_bin rfl rfl rfl rfl rfl ?_
  refine W_assign rfl rfl rfl ?_
  refine W_end ?_
  refine E_then ?_
  refine C_seq ?_
  refine C_region ?_
  refine W_move rfl rfl rfl ?_
  refine W_move rfl rfl rfl ?_
  obtain ⟨hq101, hm⟩ := need_some hm
  refine W_rem rfl rfl rfl rfl hq101 ?_
  refine W_assign rfl rfl rfl ?_
  refine W_end ?_
  refine E_then ?_
  refine C_seq_join (fun H' M' L' => ∃ n103 : Int, m_gridhallref4_Cut_b1 p1_low n103 = some r ∧ H = H' ∧ M = M' ∧ [(0, .int .i64 (n103)), (1, .int .i64 (p1_low))] = L') ?_ (fun J104 => ?_)
  · rintro _ _ _ ⟨n103, hm, rfl, rfl, rfl⟩
    unfold m_gridhallref4_Cut_b1 at hm
    refine C_seq ?_
    refine C_region ?_
    refine W_move rfl rfl rfl ?_
    refine W_move rfl rfl rfl ?_
    refine W_bin rfl rfl rfl rfl rfl ?_
    refine W_assign rfl rfl rfl ?_
    refine W_end ?_
    refine E_then ?_
    refine C_ret ?_
    obtain rfl := Option.some.inj hm
    refine E_weak (Hp.le_refl _) ?_
    exact end1 rfl rfl ⟨rfl, rfl, rfl⟩
  · refine C_seq ?_
    refine C_region ?_
    refine W_move rfl rfl rfl ?_
    refine W_bin rfl rfl rfl rfl rfl ?_
    refine W_end ?_
    refine E_then ?_
    refine C_cond (b := decide ((Int.tmod p0_n (IntKind.i64.wrap ((IntKind.i64.wrap (p2_high - p1_low)) + 1))) < 0)) rfl (fun hb105 => ?_) (fun hb105 => ?_)
    · have hm := ite_t' hb105 hm
      refine C_region ?_
      refine W_move rfl rfl rfl ?_
      refine W_move rfl rfl rfl ?_
      refine W_bin rfl rfl rfl rfl rfl ?_
      refine W_assign rfl rfl rfl ?_
      refine W_end ?_
      exact E_keepJ (J104 _ _ _ ⟨IntKind.i64.wrap ((Int.tmod p0_n (IntKind.i64.wrap ((IntKind.i64.wrap (p2_high - p1_low)) + 1))) + (IntKind.i64.wrap ((IntKind.i64.wrap (p2_high - p1_low)) + 1))), hm, rfl, rfl, rfl⟩) (List.Perm.refl _) ⟨rfl, rfl, trivial⟩
    · have hm := ite_f' hb105 hm
      refine C_skip ?_
      exact E_keepJ (J104 _ _ _ ⟨Int.tmod p0_n (IntKind.i64.wrap ((IntKind.i64.wrap (p2_high - p1_low)) + 1)), hm, rfl, rfl, rfl⟩) (List.Perm.refl _) ⟨rfl, rfl, trivial⟩

theorem m_gridhallkeep4_OrderHeld_1_c {B : Nat} {w0 w : World} {H : Hp} {M : List Res} {p0_s : S_api_OrderStep} {p1_c1 : (List S_api_InterlockState)} {p2_c2 : Int} {b0 : Nat} {v0 : Value} {b1 : Nat} {r : Bool} (hm : m_gridhallkeep4_OrderHeld_1 p0_s p1_c1 p2_c2 = some r) (h0 : RdS H v0 p1_c1) (ht : St B w0 H (.obj b0 (.cells [v0].toArray 23 (0, 0)) :: .obj b1 (.cells [.int .i64 (p2_c2)].toArray 3 (0, 0)) :: M) w) :
    Calls Proofs.Try.prog 12 [.agg [.bool (p0_s.Close), .string (p0_s.Switch)].toArray, .pointer (some ⟨b0, 0, none⟩), .pointer (some ⟨b1, 0, none⟩)].toArray w (Ret B w0 fun H' M' v => H = H' ∧ .obj b0 (.cells [v0].toArray 23 (0, 0)) :: .obj b1 (.cells [.int .i64 (p2_c2)].toArray 3 (0, 0)) :: M = M' ∧ .bool (r) = v) := by
  unfold m_gridhallkeep4_OrderHeld_1 at hm
  refine enter Proofs.Try.func12 rfl rfl rfl ht ?_
  refine C_seq ?_
  refine C_region ?_
  refine W_box (cs := [.bool (p0_s.Close), .string (p0_s.Switch)]) rfl rfl rfl rfl (fun b101 => ?_)
  refine W_assign rfl rfl rfl ?_
  refine W_end ?_
  refine E_then ?_
  refine C_seq ?_
  obtain ⟨y102, h103, he104, hm⟩ := idx_some hm
  obtain ⟨_, ⟨rfl⟩, hc105⟩ := (h0).elem he104
  refine C_region_tok0 7 (phiT [(fun H rs v => [] = rs ∧ .pointer (some ⟨b101, 1, none⟩) = v), (fun H rs v => [] = rs ∧ .string (p0_s.Switch) = v), (fun H rs v => [] = rs ∧ v0 = v), (fun H rs v => [] = rs ∧ .int .i64 (p2_c2) = v), (fun H rs v => [] = rs ∧ .pointer (some ((Value.base (v0)).add ((p2_c2 : Int).toNat * 2))) = v), (fun H rs v => [] = rs ∧ .pointer (some ((Value.base (v0)).add ((p2_c2 : Int).toNat * 2))) = v), (fun H rs v => [] = rs ∧ .string (y102.Name) = v)]) [[], [], [], [], [], [], []] [[], [], [], [], [], [], []] [] [0, 1, 2, 3, 4, 5, 6] Facts.mixed (by kernel_rfl) rfl rfl rfl (by kernel_rfl) (phiT_mono ⟨eq_monoT _ _, eq_monoT _ _, eq_monoT _ _, eq_monoT _ _, eq_monoT _ _, eq_monoT _ _, eq_monoT _ _, trivial⟩) ⟨?_, ?_, ?_, ?_, ?_, ?_, ?_, trivial⟩ ?_
  · intro HX hX X Rest hR
    intro hU
    refine W_field (o := 1) rfl rfl Proofs.Try.runUnderlying36 rfl Proofs.Try.sizeOf9 rfl rfl rfl ?_
    exact W_end (OneT_end [] (Hp.le_refl _) ⟨rfl, rfl⟩)
  · intro HX hX X Rest hR
    rintro _ _ ⟨rfl, rfl⟩
    intro hU
    refine W_load rfl rfl Proofs.Try.isAgg9 rfl (own_at (hR _ (List.mem_cons_self ..)) rfl) ?_
    exact W_end (OneT_end [] (Hp.le_refl _) ⟨rfl, rfl⟩)
  · intro HX hX X Rest hR
    intro hU
    refine W_load rfl rfl Proofs.Try.isAgg23 rfl (own_at (hR _ (List.mem_cons_of_mem _ (List.mem_cons_self ..))) rfl) ?_
    exact W_end (OneT_end [] (Hp.le_refl _) ⟨rfl, rfl⟩)
  · intro HX hX X Rest hR
    intro hU
    refine W_load rfl rfl Proofs.Try.isAgg3 rfl (own_at (hR _ (List.mem_cons_of_mem _ (List.mem_cons_of_mem _ (List.mem_cons_self ..)))) rfl) ?_
    exact W_end (OneT_end [] (Hp.le_refl _) ⟨rfl, rfl⟩)
  · intro HX hX X Rest hR
    rintro _ _ ⟨rfl, rfl⟩
    rintro _ _ ⟨rfl, rfl⟩
    intro hU
    refine W_indexS rfl rfl Proofs.Try.runUnderlying23 Proofs.Try.sizeOf33 rfl (h0.mono hX) rfl h103 he104 ?_
    exact W_end (OneT_end [] (Hp.le_refl _) ⟨rfl, rfl⟩)
  · intro HX hX X Rest hR
    rintro _ _ ⟨rfl, rfl⟩
    intro hU
    refine W_field (o := 0) rfl rfl Proofs.Try.runUnderlying33 rfl Proofs.Try.sizeOf9 rfl rfl rfl ?_
    exact W_end (OneT_end [] (Hp.le_refl _) ⟨rfl, rfl⟩)
  · intro HX hX X Rest hR
    rintro _ _ ⟨rfl, rfl⟩
    intro hU
    refine W_load rfl rfl Proofs.Try.isAgg9 rfl (HCells.one (hc105.mono hX) 0 rfl).at ?_
    exact W_end (OneT_end [] (Hp.le_refl _) ⟨rfl, rfl⟩)
  intro H106 hle107
  rintro _ _ ⟨rfl, rfl⟩
  rintro _ _ ⟨rfl, rfl⟩
  rintro _ _ ⟨rfl, rfl⟩
  rintro _ _ ⟨rfl, rfl⟩
  rintro _ _ ⟨rfl, rfl⟩
  rintro _ _ ⟨rfl, rfl⟩
  rintro _ _ ⟨rfl, rfl⟩
  refine W_bin rfl rfl rfl rfl rfl ?_
  refine W_assign rfl rfl rfl ?_
  refine W_end ?_
  refine E_then ?_
  refine C_ret ?_
  obtain rfl := Option.some.inj hm
  refine E_drop (List.Sublist.cons _ (List.Sublist.refl _)) ?_
  refine E_weak hle107 ?_
  exact end1 rfl rfl ⟨rfl, rfl, rfl⟩

theorem m_slices_IndexFunc_api_OrderStep_api_OrderStep__gridhallkeep4_OrderHeld_1_c {B : Nat} {w0 w : World} {H : Hp} {M : List Res} {p0_s : (List S_api_OrderStep)} {p1_f_0 : (List S_api_InterlockState)} {p1_f_1 : Int} {v0 : Value} {b0 : Nat} {v1 : Value} {b1 : Nat} {r : Int} (hm : m_slices_IndexFunc_api_OrderStep_api_OrderStep__gridhallkeep4_OrderHeld_1 p0_s p1_f_0 p1_f_1 = some r) (h0 : RdS H v0 p0_s) (h1 : RdS H v1 p1_f_0) (ht : St B w0 H (.obj b0 (.cells [v1].toArray 23 (0, 0)) :: .obj b1 (.cells [.int .i64 (p1_f_1)].toArray 3 (0, 0)) :: M) w) :
    Calls Proofs.Try.prog 22 [v0, .func (.func 12) [].toArray [.pointer (some ⟨b0, 0, none⟩), .pointer (some ⟨b1, 0, none⟩)].toArray].toArray w (Ret B w0 fun H' M' v => H = H' ∧ .obj b0 (.cells [v1].toArray 23 (0, 0)) :: .obj b1 (.cells [.int .i64 (p1_f_1)].toArray 3 (0, 0)) :: M = M' ∧ .int .i64 (r) = v) := by
  unfold m_slices_IndexFunc_api_OrderStep_api_OrderStep__gridhallkeep4_OrderHeld_1 at hm
  refine enter Proofs.Try.func22 rfl rfl rfl ht ?_
  refine C_seq ?_
  refine C_region ?_
  refine W_assign rfl rfl rfl ?_
  refine W_end ?_
  refine E_then ?_
  refine C_seq ?_
  refine C_seq ?_
  refine C_region ?_
  refine W_move rfl rfl rfl ?_
  refine W_lenR rfl rfl Proofs.Try.runUnderlying25 rfl h0 ?_
  refine W_move rfl rfl rfl ?_
  refine W_end ?_
  refine E_then ?_
  refine C_block ?_
  refine C_keep (L' := [(0, v0), (1, .func (.func 12) [].toArray [.pointer (some ⟨b0, 0, none⟩), .pointer (some ⟨b1, 0, none⟩)].toArray), (7, .int .i64 ((p0_s.length : Int))), (8, .int .i64 (((0 : Nat) : Int)))]) ⟨rfl, rfl, rfl, rfl, trivial⟩ (List.Perm.refl _) ?_
  refine C_loop (fun n H' M' L' => ∃ (k101 : Nat) (zs122' : Nat), k101 + zs122' = ((p0_s.length : Int) : Int).toNat ∧ zs122' = n ∧ forN (fun k s n => m_slices_IndexFunc_api_OrderStep_api_OrderStep__gridhallkeep4_OrderHeld_1_b1 p0_s p1_f_0 p1_f_1 k n) (fun _ => some ((-1))) zs122' k101 () = some r ∧ H.le H' ∧ .obj b0 (.cells [v1].toArray 23 (0, 0)) :: .obj b1 (.cells [.int .i64 (p1_f_1)].toArray 3 (0, 0)) :: M = M' ∧ [(0, v0), (1, .func (.func 12) [].toArray [.pointer (some ⟨b0, 0, none⟩), .pointer (some ⟨b1, 0, none⟩)].toArray), (7, .int .i64 ((p0_s.length : Int))), (8, .int .i64 ((k101 : Int)))] = L') _ ⟨0, _, Nat.zero_add _, rfl, hm, (Hp.le_refl _), rfl, rfl⟩ ?_
  rintro _ H116 _ _ ⟨k101, zs122', hd124, rfl, hm, hle117, rfl, rfl⟩
  refine C_seq ?_
  refine C_region ?_
  refine W_bin rfl rfl rfl rfl rfl ?_
  refine W_end (E_then ?_)
  refine C_seq ?_
  refine C_cond (b := decide ((k101 : Int) < (p0_s.length : Int))) rfl (fun hb126 => ?_) (fun hb126 => ?_)
  · obtain ⟨zs122, rfl, hd125, hy123⟩ := rngN_t hd124 hb126
    have hm : m_slices_IndexFunc_api_OrderStep_api_OrderStep__gridhallkeep4_OrderHeld_1_b1 p0_s p1_f_0 p1_f_1 k101 (forN (fun k s n => m_slices_IndexFunc_api_OrderStep_api_OrderStep__gridhallkeep4_OrderHeld_1_b1 p0_s p1_f_0 p1_f_1 k n) (fun _ => some ((-1))) zs122 (k101 + 1)) = some r := hm
    generalize hn119 : forN (fun k s n => m_slices_IndexFunc_api_OrderStep_api_OrderStep__gridhallkeep4_OrderHeld_1_b1 p0_s p1_f_0 p1_f_1 k n) (fun _ => some ((-1))) zs122 (k101 + 1) = nx118 at hm
    unfold m_slices_IndexFunc_api_OrderStep_api_OrderStep__gridhallkeep4_OrderHeld_1_b1 at hm
    refine C_skip (E_then ?_)
    refine C_seq ?_
    refine C_block ?_
    refine C_seq ?_
    refine C_region ?_
    refine W_move rfl rfl rfl ?_
    refine W_assign rfl rfl rfl ?_
    refine W_end ?_
    refine E_then ?_
    refine C_seq ?_
    refine C_region ?_
    refine W_move rfl rfl rfl ?_
    refine W_move rfl rfl rfl ?_
    refine W_move rfl rfl rfl ?_
    obtain ⟨y127, h128, he129, hm⟩ := idx_some hm
    obtain ⟨_, ⟨rfl⟩, hc130⟩ := (h0).elem he129
    refine W_indexS rfl rfl Proofs.Try.runUnderlying25 Proofs.Try.sizeOf36 rfl (h0.mono hle117) rfl h128 he129 ?_
    refine W_loadAgg rfl rfl Proofs.Try.isAgg36 Proofs.Try.sizeOf36 rfl (hc130.mono hle117).at rfl ?_
    obtain ⟨r131, hc132, hm⟩ := bind_some hm
    refine W_callv Proofs.Try.call12 rfl rfl rfl rfl (fun w ht => by have h := m_gridhallkeep4_OrderHeld_1_c (hm := hc132) (h1.mono hle117) ht; exact h) ?_
    rintro _ _ _ ⟨rfl, rfl, rfl⟩
    refine W_end ?_
    refine E_then ?_
    refine C_cond (b := r131) rfl (fun hb133 => ?_) (fun hb133 => ?_)
    · have hm := ite_t' hb133 hm
      refine C_seq ?_
      refine C_region ?_
      refine W_move rfl rfl rfl ?_
      refine W_assign rfl rfl rfl ?_
      refine W_end ?_
      refine E_then ?_
      refine C_ret ?_
      refine E_ret_block ?_
      refine E_ret_then ?_
      refine E_ret_then ?_
      refine E_ret_block ?_
      refine E_ret_then ?_
      obtain rfl := Option.some.inj hm
      refine E_weak hle117 ?_
      exact end1 rfl rfl ⟨rfl, rfl, rfl⟩
    · have hm := ite_f' hb133 hm
      refine C_skip ?_
      refine E_normal_block ?_
      refine E_then ?_
      refine C_region ?_
      refine W_bin rfl rfl rfl rfl rfl ?_
      refine W_move rfl rfl rfl ?_
      refine W_end ?_
      exact E_keepJ (E_back (Nat.lt_succ_self _) ⟨k101 + 1, zs122, hd125, rfl, (by rw [hn119]; exact hm), hle117, rfl, rfl⟩) (List.Perm.refl _) ⟨rfl, rfl, rfl, (congrArg (fun z => some (Value.int .i64 z)) (i64_succN hy123 (toNat_max (len_max (h0).lenMax)))), trivial⟩
  · obtain rfl := rngN_f hd124 hb126
    have hm : (some ((-1))) = some r := hm
    refine C_exit (E_exit_then ?_)
    refine E_exit_then ?_
    refine E_exit_hit ?_
    refine E_then ?_
    refine C_seq ?_
    refine C_region ?_
    refine W_assign rfl rfl rfl ?_
    refine W_end ?_
    refine E_then ?_
    refine C_ret ?_
    obtain rfl := Option.some.inj hm
    refine E_weak hle117 ?_
    exact end1 rfl rfl ⟨rfl, rfl, rfl⟩

theorem m_slices_ContainsFunc_api_OrderStep_api_OrderStep__gridhallkeep4_OrderHeld_1_c {B : Nat} {w0 w : World} {H : Hp} {M : List Res} {p0_s : (List S_api_OrderStep)} {p1_f_0 : (List S_api_InterlockState)} {p1_f_1 : Int} {v0 : Value} {b0 : Nat} {v1 : Value} {b1 : Nat} {r : Bool} (hm : m_slices_ContainsFunc_api_OrderStep_api_OrderStep__gridhallkeep4_OrderHeld_1 p0_s p1_f_0 p1_f_1 = some r) (h0 : RdS H v0 p0_s) (h1 : RdS H v1 p1_f_0) (ht : St B w0 H (.obj b0 (.cells [v1].toArray 23 (0, 0)) :: .obj b1 (.cells [.int .i64 (p1_f_1)].toArray 3 (0, 0)) :: M) w) :
    Calls Proofs.Try.prog 11 [v0, .func (.func 12) [].toArray [.pointer (some ⟨b0, 0, none⟩), .pointer (some ⟨b1, 0, none⟩)].toArray].toArray w (Ret B w0 fun H' M' v => H = H' ∧ .obj b0 (.cells [v1].toArray 23 (0, 0)) :: .obj b1 (.cells [.int .i64 (p1_f_1)].toArray 3 (0, 0)) :: M = M' ∧ .bool (r) = v) := by
  unfold m_slices_ContainsFunc_api_OrderStep_api_OrderStep__gridhallkeep4_OrderHeld_1 at hm
  refine enter Proofs.Try.func11 rfl rfl rfl ht ?_
  refine C_seq ?_
  refine C_region ?_
  refine W_assign rfl rfl rfl ?_
  refine W_end ?_
  refine E_then ?_
  refine C_seq ?_
  refine C_region ?_
  refine W_move rfl rfl rfl ?_
  refine W_move rfl rfl rfl ?_
  obtain ⟨r101, hc102, hm⟩ := bind_some hm
  refine W_call Proofs.Try.call22 rfl rfl rfl (fun w ht => by have h := m_slices_IndexFunc_api_OrderStep_api_OrderStep__gridhallkeep4_OrderHeld_1_c (hm := hc102) h0 h1 ht; exact h) ?_
  rintro _ _ _ ⟨rfl, rfl, rfl⟩
  refine W_bin rfl rfl rfl rfl rfl ?_
  refine W_assign rfl rfl rfl ?_
  refine W_end ?_
  refine E_then ?_
  refine C_ret ?_
  obtain rfl := Option.some.inj hm
  refine E_weak (Hp.le_refl _) ?_
  exact end1 rfl rfl ⟨rfl, rfl, rfl⟩

theorem m_gridhallkeep4_OrderHeld_c {B : Nat} {w0 w : World} {H : Hp} {M : List Res} {rules : (List S_api_InterlockRule)} {p1_from : (List S_api_InterlockState)} {to : (List S_api_InterlockState)} {p3_k : Int} {v0 : Value} {v1 : Value} {v2 : Value} {r : Bool} (hm : m_gridhallkeep4_OrderHeld rules p1_from to p3_k = some r) (h0 : RdS H v0 rules) (h1 : RdS H v1 p1_from) (h2 : RdS H v2 to) (ht : St B w0 H (M) w) :
    Calls Proofs.Try.prog 4 [v0, v1, v2, .int .i64 (p3_k)].toArray w (Ret B w0 fun H' M' v => H = H' ∧ M = M' ∧ .bool (r) = v) := by
  unfold m_gridhallkeep4_OrderHeld at hm
  refine enter Proofs.Try.func4 rfl rfl rfl ht ?_
  refine C_seq ?_
  refine C_region ?_
  refine W_box (cs := [v1]) rfl rfl rfl (RdS.cells h1) (fun b101 => ?_)
  refine W_box (cs := [.int .i64 (p3_k)]) rfl rfl rfl rfl (fun b102 => ?_)
  refine W_assign rfl rfl rfl ?_
  refine W_end ?_
  refine E_then ?_
  refine C_seq ?_
  obtain ⟨hz103, hm⟩ := need_some hm
  obtain ⟨hz107, hm⟩ := need_some hm
  refine C_perm (List.Perm.swap _ _ _) ?_
  refine C_as (M' := [[.obj b101 (.cells [v1].toArray 23 (0, 0))]].flatten ++ (.obj b102 (.cells [.int .i64 (p3_k)].toArray 3 (0, 0)) :: M)) rfl ?_
  refine C_region_tok0 11 (phiT [(fun H rs v => [] = rs ∧ v1 = v), (fun H rs v => [] = rs ∧ v1 = v), (fun H rs v => [] = rs ∧ .int .i64 ((p1_from.length : Int)) = v), (fun H rs v => [] = rs ∧ .int .i64 (min (p1_from.length : Int) 6) = v), (fun H rs v => ∃ v111 : Value, [] = rs ∧ v111 = v ∧ RdS H v111 (slc p1_from 0 ((min (p1_from.length : Int) 6 : Int).toNat))), (fun H rs v => [] = rs ∧ v2 = v), (fun H rs v => [] = rs ∧ v2 = v), (fun H rs v => [] = rs ∧ .int .i64 ((to.length : Int)) = v), (fun H rs v => [] = rs ∧ .int .i64 (min (to.length : Int) 6) = v), (fun H rs v => ∃ v114 : Value, [] = rs ∧ v114 = v ∧ RdS H v114 (slc to 0 ((min (to.length : Int) 6 : Int).toNat))), (fun H rs v => ∃ v111 : Value, [.obj b101 (.cells [v111].toArray 23 (0, 0))] = rs ∧ undef = v ∧ RdS H v111 (slc p1_from 0 ((min (p1_from.length : Int) 6 : Int).toNat)))]) [[], [], [], [], [], [], [], [], [], [], [11]] [[11], [11], [], [], [], [], [], [], [], [], []] [[.obj b101 (.cells [v1].toArray 23 (0, 0))]] [0, 1, 2, 3, 4, 5, 6, 7, 8, 9, 10] Facts.mixed (by kernel_rfl) rfl rfl rfl (by kernel_rfl) (phiT_mono ⟨eq_monoT _ _, eq_monoT _ _, eq_monoT _ _, eq_monoT _ _, (by rintro H1 H2 rs v hle ⟨v111, rfl, rfl, h112⟩; exact ⟨v111, rfl, rfl, (h112.mono hle)⟩), eq_monoT _ _, eq_monoT _ _, eq_monoT _ _, eq_monoT _ _, (by rintro H1 H2 rs v hle ⟨v114, rfl, rfl, h115⟩; exact ⟨v114, rfl, rfl, (h115.mono hle)⟩), (by rintro H1 H2 rs v hle ⟨v111, rfl, hv_, h112⟩; exact ⟨v111, rfl, hv_, (h112.mono hle)⟩), trivial⟩) ⟨?_, ?_, ?_, ?_, ?_, ?_, ?_, ?_, ?_, ?_, ?_, trivial⟩ ?_
  · intro HX hX X Rest hR
    intro hU
    have hU2 : ∀ s ∈ [.obj b101 (.cells [v1].toArray 23 (0, 0))], s ∈ Rest := hU
    refine W_load rfl rfl Proofs.Try.isAgg23 rfl (own_at (hU2 _ (List.mem_cons_self ..)) rfl) ?_
    exact W_end (OneT_end [] (Hp.le_refl _) ⟨rfl, rfl⟩)
  · intro HX hX X Rest hR
    intro hU
    have hU2 : ∀ s ∈ [.obj b101 (.cells [v1].toArray 23 (0, 0))], s ∈ Rest := hU
    refine W_load rfl rfl Proofs.Try.isAgg23 rfl (own_at (hU2 _ (List.mem_cons_self ..)) rfl) ?_
    exact W_end (OneT_end [] (Hp.le_refl _) ⟨rfl, rfl⟩)
  · intro HX hX X Rest hR
    rintro _ _ ⟨rfl, rfl⟩
    intro hU
    refine W_lenR rfl rfl Proofs.Try.runUnderlying23 rfl (h1.mono hX) ?_
    exact W_end (OneT_end [] (Hp.le_refl _) ⟨rfl, rfl⟩)
  · intro HX hX X Rest hR
    rintro _ _ ⟨rfl, rfl⟩
    intro hU
    refine W_min rfl rfl rfl rfl ?_
    exact W_end (OneT_end [] (Hp.le_refl _) ⟨rfl, rfl⟩)
  · intro HX hX X Rest hR
    rintro _ _ ⟨rfl, rfl⟩
    rintro _ _ ⟨rfl, rfl⟩
    intro hU
    refine W_sliceR (α := S_api_InterlockState) (l := 0) (h := (min (p1_from.length : Int) 6 : Int).toNat) (xs := p1_from) rfl rfl Proofs.Try.runUnderlying23 Proofs.Try.sizeOf33 rfl (h1.mono hX) (by omega) (by omega) (.inl rfl) (fun cap hcap => by rw [if_pos rfl]; exact (.inl ⟨rfl, rfl⟩)) (fun m hmm => (.inr ⟨_, _, _, rfl, rfl, by omega, by omega, rfl⟩)) (.inl ⟨rfl, rfl⟩) ?_
    intro v111 h112 hc113
    exact W_end (OneT_end [] (Hp.le_refl _) ⟨v111, rfl, rfl, (h112)⟩)
  · intro HX hX X Rest hR
    intro hU
    refine W_move rfl rfl rfl ?_
    exact W_end (OneT_end [] (Hp.le_refl _) ⟨rfl, rfl⟩)
  · intro HX hX X Rest hR
    intro hU
    refine W_move rfl rfl rfl ?_
    exact W_end (OneT_end [] (Hp.le_refl _) ⟨rfl, rfl⟩)
  · intro HX hX X Rest hR
    rintro _ _ ⟨rfl, rfl⟩
    intro hU
    refine W_lenR rfl rfl Proofs.Try.runUnderlying23 rfl (h2.mono hX) ?_
    exact W_end (OneT_end [] (Hp.le_refl _) ⟨rfl, rfl⟩)
  · intro HX hX X Rest hR
    rintro _ _ ⟨rfl, rfl⟩
    intro hU
    refine W_min rfl rfl rfl rfl ?_
    exact W_end (OneT_end [] (Hp.le_refl _) ⟨rfl, rfl⟩)
  · intro HX hX X Rest hR
    rintro _ _ ⟨rfl, rfl⟩
    rintro _ _ ⟨rfl, rfl⟩
    intro hU
    refine W_sliceR (α := S_api_InterlockState) (l := 0) (h := (min (to.length : Int) 6 : Int).toNat) (xs := to) rfl rfl Proofs.Try.runUnderlying23 Proofs.Try.sizeOf33 rfl (h2.mono hX) (by omega) (by omega) (.inl rfl) (fun cap hcap => by rw [if_pos rfl]; exact (.inl ⟨rfl, rfl⟩)) (fun m hmm => (.inr ⟨_, _, _, rfl, rfl, by omega, by omega, rfl⟩)) (.inl ⟨rfl, rfl⟩) ?_
    intro v114 h115 hc116
    exact W_end (OneT_end [] (Hp.le_refl _) ⟨v114, rfl, rfl, (h115)⟩)
  · intro HX hX X Rest hR
    rintro _ _ ⟨v111, rfl, rfl, h112⟩
    rintro _ _ ⟨rfl, rfl⟩
    rintro _ _ ⟨rfl, rfl⟩
    rintro _ _ ⟨rfl, rfl⟩
    rintro _ _ ⟨rfl, rfl⟩
    rintro _ _ ⟨v111, rfl, rfl, h112⟩
    intro hU
    refine W_as (M' := .obj b101 (.cells [v1].toArray 23 (0, 0)) :: Rest) rfl ?_
    refine W_store (cs := [v111]) (out := [v111]) rfl Proofs.Try.sizeOf23 rfl rfl (RdS.cells h112) rfl rfl (all_cons (RdS.one1 h112) all_nil) (over_all rfl) ?_
    exact W_end (OneT_end_ [.obj b101 (.cells [v111].toArray 23 (0, 0))] (Hp.le_refl _) ⟨v111, rfl, rfl, (h112)⟩)
  intro H117 hle118
  rintro _ _ ⟨rfl, rfl⟩
  rintro _ _ ⟨rfl, rfl⟩
  rintro _ _ ⟨rfl, rfl⟩
  rintro _ _ ⟨rfl, rfl⟩
  rintro _ _ ⟨v111, rfl, rfl, h112⟩
  rintro _ _ ⟨rfl, rfl⟩
  rintro _ _ ⟨rfl, rfl⟩
  rintro _ _ ⟨rfl, rfl⟩
  rintro _ _ ⟨rfl, rfl⟩
  rintro _ _ ⟨v114, rfl, rfl, h115⟩
  rintro _ ⟨v111, rfl, _, h112⟩
  refine W_as (M' := .obj b101 (.cells [v111].toArray 23 (0, 0)) :: .obj b102 (.cells [.int .i64 (p3_k)].toArray 3 (0, 0)) :: M) rfl ?_
  refine W_assign rfl rfl rfl ?_
  refine W_end ?_
  refine E_then ?_
  refine C_seq ?_
  refine C_seq ?_
  refine C_region ?_
  refine W_load rfl rfl Proofs.Try.isAgg23 rfl (own_at (List.mem_cons_self ..) rfl) ?_
  refine W_lenR rfl rfl Proofs.Try.runUnderlying23 rfl h112 ?_
  refine W_bin rfl rfl rfl rfl rfl ?_
  refine W_end ?_
  refine E_then ?_
  refine C_cond (b := decide (((slc p1_from 0 ((min (p1_from.length : Int) 6 : Int).toNat)).length : Int) = 0)) rfl (fun hb119 => ?_) (fun hb119 => ?_)
  · have hm := ite_t' hb119 hm
    refine C_seq ?_
    refine C_region ?_
    obtain ⟨r120, hc121, hm⟩ := bind_some hm
    refine W_call Proofs.Try.call9 rfl rfl rfl (fun w ht => by have h := m_gridhallkeep4_orderFact_c (hm := hc121)  ht; exact h) ?_
    rintro _ _ _ ⟨rfl, rfl, rfl⟩
    refine W_assign rfl rfl rfl ?_
    refine W_end ?_
    refine E_then ?_
    refine C_ret ?_
    refine E_ret_then ?_
    obtain rfl := Option.some.inj hm
    refine E_drop (List.Sublist.cons _ (List.Sublist.cons _ (List.Sublist.refl _))) ?_
    refine E_weak hle118 ?_
    exact end1 rfl rfl ⟨rfl, rfl, rfl⟩
  · have hm := ite_f' hb119 hm
    refine C_skip ?_
    refine E_then ?_
    refine C_seq ?_
    refine C_region ?_
    refine W_load rfl rfl Proofs.Try.isAgg3 rfl (own_at (List.mem_cons_of_mem _ (List.mem_cons_self ..)) rfl) ?_
    refine W_load rfl rfl Proofs.Try.isAgg23 rfl (own_at (List.mem_cons_self ..) rfl) ?_
    refine W_lenR rfl rfl Proofs.Try.runUnderlying23 rfl h112 ?_
    refine W_bin rfl rfl rfl rfl rfl ?_
    obtain ⟨r122, hc123, hm⟩ := bind_some hm
    refine W_call Proofs.Try.call10 rfl rfl rfl (fun w ht => by have h := m_gridhallref4_Cut_c (hm := hc123)  ht; exact h) ?_
    rintro _ _ _ ⟨rfl, rfl, rfl⟩
    refine W_perm (List.Perm.swap _ _ _) ?_
    refine W_store (cs := [.int .i64 (r122)]) (out := [.int .i64 (r122)]) rfl Proofs.Try.sizeOf3 rfl rfl rfl rfl rfl (all_cons rfl all_nil) (over_all rfl) ?_
    refine W_end ?_
    refine E_then ?_
    refine C_seq ?_
    obtain ⟨y124, h125, he126, hm⟩ := idx_some hm
    obtain ⟨_, ⟨rfl⟩, hc127⟩ := (h112).elem he126
    obtain ⟨r131, hc132, hm⟩ := bind_some hm
    refine C_region_tok0 14 (phiT [(fun H rs v => [] = rs ∧ v0 = v), (fun H rs v => [] = rs ∧ v111 = v), (fun H rs v => [] = rs ∧ v114 = v), (fun H rs v => [] = rs ∧ v111 = v), (fun H rs v => [] = rs ∧ .int .i64 (r122) = v), (fun H rs v => [] = rs ∧ .pointer (some ((Value.base (v111)).add ((r122 : Int).toNat * 2))) = v), (fun H rs v => [] = rs ∧ .pointer (some ((Value.base (v111)).add ((r122 : Int).toNat * 2))) = v), (fun H rs v => [] = rs ∧ .string (y124.Name) = v), (fun H rs v => ∃ v136 : Value, ∃ xs137 : List Value, [.row v136 9 (Rep.sz ByteArray) ([y124.Name]).length xs137] = rs ∧ v136 = v ∧ Rw H v136 xs137 ([y124.Name])), (fun H rs v => ∃ v136 : Value, ∃ xs137 : List Value, ∃ v139 : Value, ∃ xs140 : List Value, [.row v136 9 (Rep.sz ByteArray) ([y124.Name]).length xs137, .row v139 36 (Rep.sz S_api_OrderStep) r131.1.length xs140] = rs ∧ .tuple #[v139, .int .i64 (r131.2)] = v ∧ Rw H v136 xs137 ([y124.Name]) ∧ Rw H v139 xs140 r131.1), (fun H rs v => ∃ v136 : Value, ∃ xs137 : List Value, ∃ v139 : Value, ∃ xs140 : List Value, [.row v136 9 (Rep.sz ByteArray) ([y124.Name]).length xs137, .row v139 36 (Rep.sz S_api_OrderStep) r131.1.length xs140] = rs ∧ .tuple #[v139, .int .i64 (r131.2)] = v ∧ Rw H v136 xs137 ([y124.Name]) ∧ Rw H v139 xs140 r131.1), (fun H rs v => ∃ v136 : Value, ∃ xs137 : List Value, ∃ v139 : Value, ∃ xs140 : List Value, [.row v136 9 (Rep.sz ByteArray) ([y124.Name]).length xs137, .row v139 36 (Rep.sz S_api_OrderStep) r131.1.length xs140] = rs ∧ v139 = v ∧ Rw H v136 xs137 ([y124.Name]) ∧ Rw H v139 xs140 r131.1), (fun H rs v => [] = rs ∧ .int .i64 (r131.2) = v), (fun H rs v => ∃ v136 : Value, ∃ xs137 : List Value, ∃ v139 : Value, ∃ xs140 : List Value, [.row v136 9 (Rep.sz ByteArray) ([y124.Name]).length xs137, .row v139 36 (Rep.sz S_api_OrderStep) r131.1.length xs140] = rs ∧ v139 = v ∧ Rw H v136 xs137 ([y124.Name]) ∧ Rw H v139 xs140 r131.1)]) [[], [], [], [], [], [], [], [], [], [8], [9], [10], [], [11]] [[], [], [], [], [], [], [], [], [], [], [], [], [], []] [] [0, 1, 2, 3, 4, 5, 6, 7, 12, 13] Facts.mixed (by kernel_rfl) rfl rfl rfl (by kernel_rfl) (phiT_mono ⟨eq_monoT _ _, eq_monoT _ _, eq_monoT _ _, eq_monoT _ _, eq_monoT _ _, eq_monoT _ _, eq_monoT _ _, eq_monoT _ _, (by rintro H1 H2 rs v hle ⟨v136, xs137, rfl, rfl, hr138⟩; exact ⟨v136, xs137, rfl, rfl, (hr138.mono hle)⟩), (by rintro H1 H2 rs v hle ⟨v136, xs137, v139, xs140, rfl, rfl, hr138, h141⟩; exact ⟨v136, xs137, v139, xs140, rfl, rfl, (hr138.mono hle), (h141.mono hle)⟩), (by rintro H1 H2 rs v hle ⟨v136, xs137, v139, xs140, rfl, rfl, hr138, h141⟩; exact ⟨v136, xs137, v139, xs140, rfl, rfl, (hr138.mono hle), (h141.mono hle)⟩), (by rintro H1 H2 rs v hle ⟨v136, xs137, v139, xs140, rfl, rfl, hr138, h141⟩; exact ⟨v136, xs137, v139, xs140, rfl, rfl, (hr138.mono hle), (h141.mono hle)⟩), eq_monoT _ _, (by rintro H1 H2 rs v hle ⟨v136, xs137, v139, xs140, rfl, rfl, hr138, h141⟩; exact ⟨v136, xs137, v139, xs140, rfl, rfl, (hr138.mono hle), (h141.mono hle)⟩), trivial⟩) ⟨?_, ?_, ?_, ?_, ?_, ?_, ?_, ?_, ?_, ?_, ?_, ?_, ?_, ?_, trivial⟩ ?_
    · intro HX hX X Rest hR
      intro hU
      refine W_move rfl rfl rfl ?_
      exact W_end (OneT_end [] (Hp.le_refl _) ⟨rfl, rfl⟩)
    · intro HX hX X Rest hR
      intro hU
      refine W_load rfl rfl Proofs.Try.isAgg23 rfl (own_at (hR _ (List.mem_cons_of_mem _ (List.mem_cons_self ..))) rfl) ?_
      exact W_end (OneT_end [] (Hp.le_refl _) ⟨rfl, rfl⟩)
    · intro HX hX X Rest hR
      intro hU
      refine W_move rfl rfl rfl ?_
      exact W_end (OneT_end [] (Hp.le_refl _) ⟨rfl, rfl⟩)
    · intro HX hX X Rest hR
      intro hU
      refine W_load rfl rfl Proofs.Try.isAgg23 rfl (own_at (hR _ (List.mem_cons_of_mem _ (List.mem_cons_self ..))) rfl) ?_
      exact W_end (OneT_end [] (Hp.le_refl _) ⟨rfl, rfl⟩)
    · intro HX hX X Rest hR
      intro hU
      refine W_load rfl rfl Proofs.Try.isAgg3 rfl (own_at (hR _ (List.mem_cons_self ..)) rfl) ?_
      exact W_end (OneT_end [] (Hp.le_refl _) ⟨rfl, rfl⟩)
    · intro HX hX X Rest hR
      rintro _ _ ⟨rfl, rfl⟩
      rintro _ _ ⟨rfl, rfl⟩
      intro hU
      refine W_indexS rfl rfl Proofs.Try.runUnderlying23 Proofs.Try.sizeOf33 rfl (h112.mono hX) rfl h125 he126 ?_
      exact W_end (OneT_end [] (Hp.le_refl _) ⟨rfl, rfl⟩)
    · intro HX hX X Rest hR
      rintro _ _ ⟨rfl, rfl⟩
      intro hU
      refine W_field (o := 0) rfl rfl Proofs.Try.runUnderlying33 rfl Proofs.Try.sizeOf9 rfl rfl rfl ?_
      exact W_end (OneT_end [] (Hp.le_refl _) ⟨rfl, rfl⟩)
    · intro HX hX X Rest hR
      rintro _ _ ⟨rfl, rfl⟩
      intro hU
      refine W_load rfl rfl Proofs.Try.isAgg9 rfl (HCells.one (hc127.mono hX) 0 rfl).at ?_
      exact W_end (OneT_end [] (Hp.le_refl _) ⟨rfl, rfl⟩)
    · intro HX hX X Rest hR
      rintro _ _ ⟨rfl, rfl⟩
      intro hU
      refine W_buildSliceO (α := ByteArray) (css := [[.string (y124.Name)]]) (zs := [.string (⟨#[]⟩)]) (out := [.string (y124.Name)]) (ys := [y124.Name]) rfl rfl rfl ⟨rfl, trivial⟩ Proofs.Try.runUnderlying24 Proofs.Try.sizeOf9 rfl Proofs.Try.zeroValue9 (by kernel_rfl) rfl rfl rfl rfl ⟨[.string (y124.Name)], [], rfl, rfl, rfl⟩ rfl ?_
      intro v136 xs137 hr138
      exact W_end (OneT_end [.row v136 9 (Rep.sz ByteArray) ([y124.Name]).length xs137] (Hp.le_refl _) ⟨v136, xs137, rfl, rfl, (hr138)⟩)
    · intro HX hX X Rest hR
      rintro _ _ ⟨rfl, rfl⟩
      rintro _ _ ⟨rfl, rfl⟩
      rintro _ _ ⟨rfl, rfl⟩
      rintro _ _ ⟨v136, xs137, rfl, rfl, hr138⟩
      intro hU
      refine W_as (M' := .row v136 9 (Rep.sz ByteArray) ([y124.Name]).length xs137 :: Rest) rfl ?_
      refine W_call Proofs.Try.call8 rfl rfl rfl (fun w ht => by obtain ⟨H0_, hl0_, ht0_, hr0_, bk0_⟩ := ht.lendRow hr138 rfl; have h := m_order_Plan_c (hm := hc132) (((h0.mono hle118).mono hX).mono hl0_) ((h112.mono hX).mono hl0_) ((h115.mono hX).mono hl0_) hr0_ ht0_; exact lend_back bk0_ (h)) ?_
      rintro _ _ _ ⟨rfl, ⟨_, rfl, v139, xs140, rfl, rfl, h141⟩⟩
      have h141 := h141 HX
      exact W_end (OneT_end [.row v136 9 (Rep.sz ByteArray) ([y124.Name]).length xs137, .row v139 36 (Rep.sz S_api_OrderStep) r131.1.length xs140] (Hp.le_refl _) ⟨v136, xs137, v139, xs140, rfl, rfl, (hr138), (h141)⟩)
    · intro HX hX X Rest hR
      rintro _ _ ⟨v136, xs137, v139, xs140, rfl, rfl, hr138, h141⟩
      intro hU
      refine W_as (M' := .row v136 9 (Rep.sz ByteArray) ([y124.Name]).length xs137 :: .row v139 36 (Rep.sz S_api_OrderStep) r131.1.length xs140 :: Rest) rfl ?_
      refine W_move rfl rfl rfl ?_
      exact W_end (OneT_end [.row v136 9 (Rep.sz ByteArray) ([y124.Name]).length xs137, .row v139 36 (Rep.sz S_api_OrderStep) r131.1.length xs140] (Hp.le_refl _) ⟨v136, xs137, v139, xs140, rfl, rfl, (hr138), (h141)⟩)
    · intro HX hX X Rest hR
      rintro _ _ ⟨v136, xs137, v139, xs140, rfl, rfl, hr138, h141⟩
      intro hU
      refine W_as (M' := .row v136 9 (Rep.sz ByteArray) ([y124.Name]).length xs137 :: .row v139 36 (Rep.sz S_api_OrderStep) r131.1.length xs140 :: Rest) rfl ?_
      refine W_extract rfl rfl rfl rfl ?_
      exact W_end (OneT_end [.row v136 9 (Rep.sz ByteArray) ([y124.Name]).length xs137, .row v139 36 (Rep.sz S_api_OrderStep) r131.1.length xs140] (Hp.le_refl _) ⟨v136, xs137, v139, xs140, rfl, rfl, (hr138), (h141)⟩)
    · intro HX hX X Rest hR
      rintro _ _ ⟨v136, xs137, v139, xs140, rfl, rfl, hr138, h141⟩
      intro hU
      refine W_extract rfl rfl rfl rfl ?_
      exact W_end (OneT_end [] (Hp.le_refl _) ⟨rfl, rfl⟩)
    · intro HX hX X Rest hR
      rintro _ _ ⟨v136, xs137, v139, xs140, rfl, rfl, hr138, h141⟩
      rintro _ _ ⟨v136, xs137, v139, xs140, rfl, rfl, hr138, h141⟩
      rintro _ _ ⟨rfl, rfl⟩
      rintro _ _ ⟨rfl, rfl⟩
      rintro _ _ ⟨rfl, rfl⟩
      rintro _ _ ⟨rfl, rfl⟩
      rintro _ _ ⟨rfl, rfl⟩
      rintro _ _ ⟨rfl, rfl⟩
      rintro _ _ ⟨rfl, rfl⟩
      rintro _ _ ⟨rfl, rfl⟩
      rintro _ _ ⟨v136, xs137, rfl, rfl, hr138⟩
      rintro _ _ ⟨v136, xs137, v139, xs140, rfl, rfl, hr138, h141⟩
      rintro _ _ ⟨v136, xs137, v139, xs140, rfl, rfl, hr138, h141⟩
      rintro _ _ ⟨v136, xs137, v139, xs140, rfl, rfl, hr138, h141⟩
      intro hU
      refine W_as (M' := .row v136 9 (Rep.sz ByteArray) ([y124.Name]).length xs137 :: .row v139 36 (Rep.sz S_api_OrderStep) r131.1.length xs140 :: Rest) rfl ?_
      refine W_assign rfl rfl rfl ?_
      exact W_end (OneT_end [.row v136 9 (Rep.sz ByteArray) ([y124.Name]).length xs137, .row v139 36 (Rep.sz S_api_OrderStep) r131.1.length xs140] (Hp.le_refl _) ⟨v136, xs137, v139, xs140, rfl, rfl, (hr138), (h141)⟩)
    intro H142 hle143
    rintro _ _ ⟨rfl, rfl⟩
    rintro _ _ ⟨rfl, rfl⟩
    rintro _ _ ⟨rfl, rfl⟩
    rintro _ _ ⟨rfl, rfl⟩
    rintro _ _ ⟨rfl, rfl⟩
    rintro _ _ ⟨rfl, rfl⟩
    rintro _ _ ⟨rfl, rfl⟩
    rintro _ _ ⟨rfl, rfl⟩
    rintro _ _ ⟨v136, xs137, rfl, rfl, hr138⟩
    rintro _ _ ⟨v136, xs137, v139, xs140, rfl, rfl, hr138, h141⟩
    rintro _ _ ⟨v136, xs137, v139, xs140, rfl, rfl, hr138, h141⟩
    rintro _ _ ⟨v136, xs137, v139, xs140, rfl, rfl, hr138, h141⟩
    rintro _ _ ⟨rfl, rfl⟩
    rintro _ _ ⟨v136, xs137, v139, xs140, rfl, rfl, hr138, h141⟩
    refine W_as (M' := .row v136 9 (Rep.sz ByteArray) ([y124.Name]).length xs137 :: .row v139 36 (Rep.sz S_api_OrderStep) r131.1.length xs140 :: .obj b102 (.cells [.int .i64 (r122)].toArray 3 (0, 0)) :: .obj b101 (.cells [v111].toArray 23 (0, 0)) :: M) rfl ?_
    refine W_assign rfl rfl rfl ?_
    refine W_end ?_
    refine E_then ?_
    refine C_seq ?_
    refine C_seq ?_
    refine C_region ?_
    refine W_move rfl rfl rfl ?_
    refine W_bin rfl rfl rfl rfl rfl ?_
    refine W_end ?_
    refine E_then ?_
    refine C_cond (b := !decide (r131.2 = 0)) rfl (fun hb144 => ?_) (fun hb144 => ?_)
    · have hm := ite_t' hb144 hm
      obtain ⟨r148, hc149, hm⟩ := bind_some hm
      refine C_seq_join (fun H' M' L' => H142 = H' ∧ M = M' ∧ [(8, .bool (r148 && (decide ((r131.1.length : Int) = 0))))] = L') ?_ (fun J150 => ?_)
      · rintro _ _ _ ⟨rfl, rfl, rfl⟩
        refine C_ret ?_
        refine E_ret_then ?_
        obtain rfl := Option.some.inj hm
        refine E_weak (Hp.le_trans hle118 hle143) ?_
        exact end1 rfl rfl ⟨rfl, rfl, rfl⟩
      · refine C_region ?_
        refine W_call Proofs.Try.call9 rfl rfl rfl (fun w ht => by have h := m_gridhallkeep4_orderFact_c (hm := hc149)  ht; exact h) ?_
        rintro _ _ _ ⟨rfl, rfl, rfl⟩
        refine W_move rfl rfl rfl ?_
        cases hb151 : (r148)
        · refine W_no rfl rfl rfl ?_
          refine W_no rfl rfl rfl ?_
          refine W_no rfl rfl rfl ?_
          refine W_pick rfl rfl rfl rfl ?_
          refine W_assign rfl rfl rfl ?_
          refine W_end ?_
          refine E_drop (List.Sublist.cons _ (List.Sublist.cons _ (List.Sublist.cons _ (List.Sublist.cons _ (List.Sublist.refl _))))) ?_
          exact E_keepJ (J150 _ _ _ ⟨rfl, rfl, rfl⟩) (List.Perm.refl _) ⟨(by show some (Value.bool (false)) = some (Value.bool (r148 && (decide ((r131.1.length : Int) = 0)))); simp only [hb119, hb144, hb151, Bool.and_true, Bool.true_and, Bool.false_and, Bool.and_false, Bool.or_true, Bool.true_or, Bool.or_false, Bool.false_or, Bool.not_true, Bool.not_false]), trivial⟩
        · refine W_move rfl rfl rfl ?_
          refine W_lenO (List.mem_cons_of_mem _ (List.mem_cons_self ..)) rfl rfl Proofs.Try.runUnderlying25 rfl ?_
          refine W_bin rfl rfl rfl rfl rfl ?_
          refine W_pick rfl rfl rfl rfl ?_
          refine W_assign rfl rfl rfl ?_
          refine W_end ?_
          refine E_drop (List.Sublist.cons _ (List.Sublist.cons _ (List.Sublist.cons _ (List.Sublist.cons _ (List.Sublist.refl _))))) ?_
          exact E_keepJ (J150 _ _ _ ⟨rfl, rfl, rfl⟩) (List.Perm.refl _) ⟨(by show some (Value.bool (decide ((r131.1.length : Int) = 0))) = some (Value.bool (r148 && (decide ((r131.1.length : Int) = 0)))); simp only [hb119, hb144, hb151, Bool.and_true, Bool.true_and, Bool.false_and, Bool.and_false, Bool.or_true, Bool.true_or, Bool.or_false, Bool.false_or, Bool.not_true, Bool.not_false]), trivial⟩
    · have hm := ite_f' hb144 hm
      refine C_skip ?_
      refine E_then ?_
      refine C_seq ?_
      obtain ⟨r152, hc153, hm⟩ := bind_some hm
      cases hb154 : (r152)
      · have hm := ite_f' hb154 hm
        refine C_region_tok0 22 (phiT [(fun H rs v => [] = rs ∧ .bool (false) = v), (fun H rs v => [] = rs ∧ .bool (false) = v), (fun H rs v => [] = rs ∧ undef = v), (fun H rs v => [] = rs ∧ undef = v), (fun H rs v => [] = rs ∧ undef = v), (fun H rs v => [] = rs ∧ undef = v), (fun H rs v => [] = rs ∧ undef = v), (fun H rs v => [] = rs ∧ .bool (false) = v), (fun H rs v => [] = rs ∧ .bool (false) = v), (fun H rs v => [] = rs ∧ undef = v), (fun H rs v => [] = rs ∧ undef = v), (fun H rs v => [] = rs ∧ undef = v), (fun H rs v => [] = rs ∧ undef = v), (fun H rs v => [] = rs ∧ undef = v), (fun H rs v => [] = rs ∧ undef = v), (fun H rs v => [] = rs ∧ undef = v), (fun H rs v => [] = rs ∧ undef = v), (fun H rs v => [] = rs ∧ undef = v), (fun H rs v => [] = rs ∧ .bool (false) = v), (fun H rs v => [] = rs ∧ .bool (false) = v), (fun H rs v => [] = rs ∧ undef = v), (fun H rs v => [] = rs ∧ undef = v)]) [[], [], [], [], [], [], [], [], [], [], [], [], [], [], [], [], [], [], [], [], [], []] [[], [], [], [], [], [], [], [], [], [], [], [], [], [], [], [], [], [], [], [], [], []] [] [0, 1, 2, 3, 4, 5, 6, 7, 8, 9, 10, 11, 12, 13, 14, 15, 16, 17, 18, 19, 20, 21] Facts.mixed (by kernel_rfl) rfl rfl rfl (by kernel_rfl) (phiT_mono ⟨eq_monoT _ _, eq_monoT _ _, eq_monoT _ _, eq_monoT _ _, eq_monoT _ _, eq_monoT _ _, eq_monoT _ _, eq_monoT _ _, eq_monoT _ _, eq_monoT _ _, eq_monoT _ _, eq_monoT _ _, eq_monoT _ _, eq_monoT _ _, eq_monoT _ _, eq_monoT _ _, eq_monoT _ _, eq_monoT _ _, eq_monoT _ _, eq_monoT _ _, eq_monoT _ _, eq_monoT _ _, trivial⟩) ⟨?_, ?_, ?_, ?_, ?_, ?_, ?_, ?_, ?_, ?_, ?_, ?_, ?_, ?_, ?_, ?_, ?_, ?_, ?_, ?_, ?_, ?_, trivial⟩ ?_
        · intro HX hX X Rest hR
          intro hU
          refine W_call Proofs.Try.call9 rfl rfl rfl (fun w ht => by have h := m_gridhallkeep4_orderFact_c (hm := hc153)  ht; exact h) ?_
          rintro _ _ _ ⟨rfl, rfl, rfl⟩
          exact W_end (OneT_end [] (Hp.le_refl _) ⟨rfl, (by rw [hb154]; try rfl)⟩)
        · intro HX hX X Rest hR
          rintro _ _ ⟨rfl, rfl⟩
          rintro _ _ ⟨rfl, rfl⟩
          intro hU
          refine W_move rfl rfl rfl ?_
          exact W_end (OneT_end [] (Hp.le_refl _) ⟨rfl, rfl⟩)
        · intro HX hX X Rest hR
          rintro _ _ ⟨rfl, rfl⟩
          intro hU
          refine W_no rfl rfl rfl ?_
          exact W_end (OneT_end [] (Hp.le_refl _) ⟨rfl, rfl⟩)
        · intro HX hX X Rest hR
          rintro _ _ ⟨rfl, rfl⟩
          rintro _ _ ⟨rfl, rfl⟩
          intro hU
          refine W_no rfl rfl rfl ?_
          exact W_end (OneT_end [] (Hp.le_refl _) ⟨rfl, rfl⟩)
        · intro HX hX X Rest hR
          rintro _ _ ⟨rfl, rfl⟩
          intro hU
          refine W_no rfl rfl rfl ?_
          exact W_end (OneT_end [] (Hp.le_refl _) ⟨rfl, rfl⟩)
        · intro HX hX X Rest hR
          rintro _ _ ⟨rfl, rfl⟩
          rintro _ _ ⟨rfl, rfl⟩
          intro hU
          refine W_no rfl rfl rfl ?_
          exact W_end (OneT_end [] (Hp.le_refl _) ⟨rfl, rfl⟩)
        · intro HX hX X Rest hR
          rintro _ _ ⟨rfl, rfl⟩
          rintro _ _ ⟨rfl, rfl⟩
          rintro _ _ ⟨rfl, rfl⟩
          intro hU
          refine W_no rfl rfl rfl ?_
          exact W_end (OneT_end [] (Hp.le_refl _) ⟨rfl, rfl⟩)
        · intro HX hX X Rest hR
          rintro _ _ ⟨rfl, rfl⟩
          rintro _ _ ⟨rfl, rfl⟩
          intro hU
          refine W_pick rfl rfl rfl rfl ?_
          exact W_end (OneT_end [] (Hp.le_refl _) ⟨rfl, rfl⟩)
        · intro HX hX X Rest hR
          rintro _ _ ⟨rfl, rfl⟩
          rintro _ _ ⟨rfl, rfl⟩
          intro hU
          refine W_move rfl rfl rfl ?_
          exact W_end (OneT_end [] (Hp.le_refl _) ⟨rfl, rfl⟩)
        · intro HX hX X Rest hR
          rintro _ _ ⟨rfl, rfl⟩
          intro hU
          refine W_no rfl rfl rfl ?_
          exact W_end (OneT_end [] (Hp.le_refl _) ⟨rfl, rfl⟩)
        · intro HX hX X Rest hR
          rintro _ _ ⟨rfl, rfl⟩
          intro hU
          refine W_no rfl rfl rfl ?_
          exact W_end (OneT_end [] (Hp.le_refl _) ⟨rfl, rfl⟩)
        · intro HX hX X Rest hR
          rintro _ _ ⟨rfl, rfl⟩
          rintro _ _ ⟨rfl, rfl⟩
          rintro _ _ ⟨rfl, rfl⟩
          intro hU
          refine W_no rfl rfl rfl ?_
          exact W_end (OneT_end [] (Hp.le_refl _) ⟨rfl, rfl⟩)
        · intro HX hX X Rest hR
          rintro _ _ ⟨rfl, rfl⟩
          rintro _ _ ⟨rfl, rfl⟩
          intro hU
          refine W_no rfl rfl rfl ?_
          exact W_end (OneT_end [] (Hp.le_refl _) ⟨rfl, rfl⟩)
        · intro HX hX X Rest hR
          rintro _ _ ⟨rfl, rfl⟩
          intro hU
          refine W_no rfl rfl rfl ?_
          exact W_end (OneT_end [] (Hp.le_refl _) ⟨rfl, rfl⟩)
        · intro HX hX X Rest hR
          rintro _ _ ⟨rfl, rfl⟩
          intro hU
          refine W_no rfl rfl rfl ?_
          exact W_end (OneT_end [] (Hp.le_refl _) ⟨rfl, rfl⟩)
        · intro HX hX X Rest hR
          rintro _ _ ⟨rfl, rfl⟩
          rintro _ _ ⟨rfl, rfl⟩
          rintro _ _ ⟨rfl, rfl⟩
          intro hU
          refine W_no rfl rfl rfl ?_
          exact W_end (OneT_end [] (Hp.le_refl _) ⟨rfl, rfl⟩)
        · intro HX hX X Rest hR
          rintro _ _ ⟨rfl, rfl⟩
          rintro _ _ ⟨rfl, rfl⟩
          intro hU
          refine W_no rfl rfl rfl ?_
          exact W_end (OneT_end [] (Hp.le_refl _) ⟨rfl, rfl⟩)
        · intro HX hX X Rest hR
          rintro _ _ ⟨rfl, rfl⟩
          rintro _ _ ⟨rfl, rfl⟩
          rintro _ _ ⟨rfl, rfl⟩
          intro hU
          refine W_no rfl rfl rfl ?_
          exact W_end (OneT_end [] (Hp.le_refl _) ⟨rfl, rfl⟩)
        · intro HX hX X Rest hR
          rintro _ _ ⟨rfl, rfl⟩
          rintro _ _ ⟨rfl, rfl⟩
          intro hU
          refine W_pick rfl rfl rfl rfl ?_
          exact W_end (OneT_end [] (Hp.le_refl _) ⟨rfl, rfl⟩)
        · intro HX hX X Rest hR
          rintro _ _ ⟨rfl, rfl⟩
          rintro _ _ ⟨rfl, rfl⟩
          intro hU
          refine W_move rfl rfl rfl ?_
          exact W_end (OneT_end [] (Hp.le_refl _) ⟨rfl, rfl⟩)
        · intro HX hX X Rest hR
          rintro _ _ ⟨rfl, rfl⟩
          intro hU
          refine W_no rfl rfl rfl ?_
          exact W_end (OneT_end [] (Hp.le_refl _) ⟨rfl, rfl⟩)
        · intro HX hX X Rest hR
          rintro _ _ ⟨rfl, rfl⟩
          intro hU
          refine W_no rfl rfl rfl ?_
          exact W_end (OneT_end [] (Hp.le_refl _) ⟨rfl, rfl⟩)
        intro H155 hle156
        rintro _ _ ⟨rfl, rfl⟩
        rintro _ _ ⟨rfl, rfl⟩
        rintro _ _ ⟨rfl, rfl⟩
        rintro _ _ ⟨rfl, rfl⟩
        rintro _ _ ⟨rfl, rfl⟩
        rintro _ _ ⟨rfl, rfl⟩
        rintro _ _ ⟨rfl, rfl⟩
        rintro _ _ ⟨rfl, rfl⟩
        rintro _ _ ⟨rfl, rfl⟩
        rintro _ _ ⟨rfl, rfl⟩
        rintro _ _ ⟨rfl, rfl⟩
        rintro _ _ ⟨rfl, rfl⟩
        rintro _ _ ⟨rfl, rfl⟩
        rintro _ _ ⟨rfl, rfl⟩
        rintro _ _ ⟨rfl, rfl⟩
        rintro _ _ ⟨rfl, rfl⟩
        rintro _ _ ⟨rfl, rfl⟩
        rintro _ _ ⟨rfl, rfl⟩
        rintro _ _ ⟨rfl, rfl⟩
        rintro _ _ ⟨rfl, rfl⟩
        rintro _ _ ⟨rfl, rfl⟩
        rintro _ _ ⟨rfl, rfl⟩
        refine W_no rfl rfl rfl ?_
        refine W_no rfl rfl rfl ?_
        refine W_pick rfl rfl rfl rfl ?_
        refine W_assign rfl rfl rfl ?_
        refine W_end ?_
        refine E_then ?_
        refine C_ret ?_
        obtain rfl := Option.some.inj hm
        refine E_drop (List.Sublist.cons _ (List.Sublist.cons _ (List.Sublist.cons _ (List.Sublist.cons _ (List.Sublist.refl _))))) ?_
        refine E_weak (Hp.le_trans (Hp.le_trans hle118 hle143) hle156) ?_
        exact end1 rfl rfl ⟨rfl, rfl, rfl⟩
      · have hm := ite_t' hb154 hm
        cases hb157 : (decide (((slc to 0 ((min (to.length : Int) 6 : Int).toNat)).length : Int) = ((slc p1_from 0 ((min (p1_from.length : Int) 6 : Int).toNat)).length : Int)))
        · have hm := ite_f' hb157 hm
          refine C_region_tok0 22 (phiT [(fun H rs v => [] = rs ∧ .bool (true) = v), (fun H rs v => [] = rs ∧ .bool (true) = v), (fun H rs v => [] = rs ∧ v114 = v), (fun H rs v => [] = rs ∧ .int .i64 (((slc to 0 ((min (to.length : Int) 6 : Int).toNat)).length : Int)) = v), (fun H rs v => [] = rs ∧ v111 = v), (fun H rs v => [] = rs ∧ .int .i64 (((slc p1_from 0 ((min (p1_from.length : Int) 6 : Int).toNat)).length : Int)) = v), (fun H rs v => [] = rs ∧ .bool (false) = v), (fun H rs v => [] = rs ∧ .bool (false) = v), (fun H rs v => [] = rs ∧ .bool (false) = v), (fun H rs v => [] = rs ∧ undef = v), (fun H rs v => [] = rs ∧ undef = v), (fun H rs v => [] = rs ∧ undef = v), (fun H rs v => [] = rs ∧ undef = v), (fun H rs v => [] = rs ∧ undef = v), (fun H rs v => [] = rs ∧ undef = v), (fun H rs v => [] = rs ∧ undef = v), (fun H rs v => [] = rs ∧ undef = v), (fun H rs v => [] = rs ∧ undef = v), (fun H rs v => [] = rs ∧ .bool (false) = v), (fun H rs v => [] = rs ∧ .bool (false) = v), (fun H rs v => [] = rs ∧ undef = v), (fun H rs v => [] = rs ∧ undef = v)]) [[], [], [], [], [], [], [], [], [], [], [], [], [], [], [], [], [], [], [], [], [], []] [[], [], [], [], [], [], [], [], [], [], [], [], [], [], [], [], [], [], [], [], [], []] [] [0, 1, 2, 3, 4, 5, 6, 7, 8, 9, 10, 11, 12, 13, 14, 15, 16, 17, 18, 19, 20, 21] Facts.mixed (by kernel_rfl) rfl rfl rfl (by kernel_rfl) (phiT_mono ⟨eq_monoT _ _, eq_monoT _ _, eq_monoT _ _, eq_monoT _ _, eq_monoT _ _, eq_monoT _ _, eq_monoT _ _, eq_monoT _ _, eq_monoT _ _, eq_monoT _ _, eq_monoT _ _, eq_monoT _ _, eq_monoT _ _, eq_monoT _ _, eq_monoT _ _, eq_monoT _ _, eq_monoT _ _, eq_monoT _ _, eq_monoT _ _, eq_monoT _ _, eq_monoT _ _, eq_monoT _ _, trivial⟩) ⟨?_, ?_, ?_, ?_, ?_, ?_, ?_, ?_, ?_, ?_, ?_, ?_, ?_, ?_, ?_, ?_, ?_, ?_, ?_, ?_, ?_, ?_, trivial⟩ ?_
          · intro HX hX X Rest hR
            intro hU
            refine W_call Proofs.Try.call9 rfl rfl rfl (fun w ht => by have h := m_gridhallkeep4_orderFact_c (hm := hc153)  ht; exact h) ?_
            rintro _ _ _ ⟨rfl, rfl, rfl⟩
            exact W_end (OneT_end [] (Hp.le_refl _) ⟨rfl, (by rw [hb154]; try rfl)⟩)
          · intro HX hX X Rest hR
            rintro _ _ ⟨rfl, rfl⟩
            rintro _ _ ⟨rfl, rfl⟩
            intro hU
            refine W_move rfl rfl rfl ?_
            exact W_end (OneT_end [] (Hp.le_refl _) ⟨rfl, rfl⟩)
          · intro HX hX X Rest hR
            rintro _ _ ⟨rfl, rfl⟩
            intro hU
            refine W_move rfl rfl rfl ?_
            exact W_end (OneT_end [] (Hp.le_refl _) ⟨rfl, rfl⟩)
          · intro HX hX X Rest hR
            rintro _ _ ⟨rfl, rfl⟩
            rintro _ _ ⟨rfl, rfl⟩
            intro hU
            refine W_lenR rfl rfl Proofs.Try.runUnderlying23 rfl ((h115.mono hle143).mono hX) ?_
            exact W_end (OneT_end [] (Hp.le_refl _) ⟨rfl, rfl⟩)
          · intro HX hX X Rest hR
            rintro _ _ ⟨rfl, rfl⟩
            intro hU
            refine W_load rfl rfl Proofs.Try.isAgg23 rfl (own_at (hR _ (List.mem_cons_of_mem _ (List.mem_cons_of_mem _ (List.mem_cons_of_mem _ (List.mem_cons_self ..))))) rfl) ?_
            exact W_end (OneT_end [] (Hp.le_refl _) ⟨rfl, rfl⟩)
          · intro HX hX X Rest hR
            rintro _ _ ⟨rfl, rfl⟩
            rintro _ _ ⟨rfl, rfl⟩
            intro hU
            refine W_lenR rfl rfl Proofs.Try.runUnderlying23 rfl ((h112.mono hle143).mono hX) ?_
            exact W_end (OneT_end [] (Hp.le_refl _) ⟨rfl, rfl⟩)
          · intro HX hX X Rest hR
            rintro _ _ ⟨rfl, rfl⟩
            rintro _ _ ⟨rfl, rfl⟩
            rintro _ _ ⟨rfl, rfl⟩
            intro hU
            refine W_bin rfl rfl rfl rfl rfl ?_
            exact W_end (OneT_end [] (Hp.le_refl _) ⟨rfl, (by rw [hb157]; try rfl)⟩)
          · intro HX hX X Rest hR
            rintro _ _ ⟨rfl, rfl⟩
            rintro _ _ ⟨rfl, rfl⟩
            intro hU
            refine W_pick rfl rfl rfl rfl ?_
            exact W_end (OneT_end [] (Hp.le_refl _) ⟨rfl, rfl⟩)
          · intro HX hX X Rest hR
            rintro _ _ ⟨rfl, rfl⟩
            rintro _ _ ⟨rfl, rfl⟩
            intro hU
            refine W_move rfl rfl rfl ?_
            exact W_end (OneT_end [] (Hp.le_refl _) ⟨rfl, rfl⟩)
          · intro HX hX X Rest hR
            rintro _ _ ⟨rfl, rfl⟩
            intro hU
            refine W_no rfl rfl rfl ?_
            exact W_end (OneT_end [] (Hp.le_refl _) ⟨rfl, rfl⟩)
          · intro HX hX X Rest hR
            rintro _ _ ⟨rfl, rfl⟩
            intro hU
            refine W_no rfl rfl rfl ?_
            exact W_end (OneT_end [] (Hp.le_refl _) ⟨rfl, rfl⟩)
          · intro HX hX X Rest hR
            rintro _ _ ⟨rfl, rfl⟩
            rintro _ _ ⟨rfl, rfl⟩
            rintro _ _ ⟨rfl, rfl⟩
            intro hU
            refine W_no rfl rfl rfl ?_
            exact W_end (OneT_end [] (Hp.le_refl _) ⟨rfl, rfl⟩)
          · intro HX hX X Rest hR
            rintro _ _ ⟨rfl, rfl⟩
            rintro _ _ ⟨rfl, rfl⟩
            intro hU
            refine W_no rfl rfl rfl ?_
            exact W_end (OneT_end [] (Hp.le_refl _) ⟨rfl, rfl⟩)
          · intro HX hX X Rest hR
            rintro _ _ ⟨rfl, rfl⟩
            intro hU
            refine W_no rfl rfl rfl ?_
            exact W_end (OneT_end [] (Hp.le_refl _) ⟨rfl, rfl⟩)
          · intro HX hX X Rest hR
            rintro _ _ ⟨rfl, rfl⟩
            intro hU
            refine W_no rfl rfl rfl ?_
            exact W_end (OneT_end [] (Hp.le_refl _) ⟨rfl, rfl⟩)
          · intro HX hX X Rest hR
            rintro _ _ ⟨rfl, rfl⟩
            rintro _ _ ⟨rfl, rfl⟩
            rintro _ _ ⟨rfl, rfl⟩
            intro hU
            refine W_no rfl rfl rfl ?_
            exact W_end (OneT_end [] (Hp.le_refl _) ⟨rfl, rfl⟩)
          · intro HX hX X Rest hR
            rintro _ _ ⟨rfl, rfl⟩
            rintro _ _ ⟨rfl, rfl⟩
            intro hU
            refine W_no rfl rfl rfl ?_
            exact W_end (OneT_end [] (Hp.le_refl _) ⟨rfl, rfl⟩)
          · intro HX hX X Rest hR
            rintro _ _ ⟨rfl, rfl⟩
            rintro _ _ ⟨rfl, rfl⟩
            rintro _ _ ⟨rfl, rfl⟩
            intro hU
            refine W_no rfl rfl rfl ?_
            exact W_end (OneT_end [] (Hp.le_refl _) ⟨rfl, rfl⟩)
          · intro HX hX X Rest hR
            rintro _ _ ⟨rfl, rfl⟩
            rintro _ _ ⟨rfl, rfl⟩
            intro hU
            refine W_pick rfl rfl rfl rfl ?_
            exact W_end (OneT_end [] (Hp.le_refl _) ⟨rfl, rfl⟩)
          · intro HX hX X Rest hR
            rintro _ _ ⟨rfl, rfl⟩
            rintro _ _ ⟨rfl, rfl⟩
            intro hU
            refine W_move rfl rfl rfl ?_
            exact W_end (OneT_end [] (Hp.le_refl _) ⟨rfl, rfl⟩)
          · intro HX hX X Rest hR
            rintro _ _ ⟨rfl, rfl⟩
            intro hU
            refine W_no rfl rfl rfl ?_
            exact W_end (OneT_end [] (Hp.le_refl _) ⟨rfl, rfl⟩)
          · intro HX hX X Rest hR
            rintro _ _ ⟨rfl, rfl⟩
            intro hU
            refine W_no rfl rfl rfl ?_
            exact W_end (OneT_end [] (Hp.le_refl _) ⟨rfl, rfl⟩)
          intro H158 hle159
          rintro _ _ ⟨rfl, rfl⟩
          rintro _ _ ⟨rfl, rfl⟩
          rintro _ _ ⟨rfl, rfl⟩
          rintro _ _ ⟨rfl, rfl⟩
          rintro _ _ ⟨rfl, rfl⟩
          rintro _ _ ⟨rfl, rfl⟩
          rintro _ _ ⟨rfl, rfl⟩
          rintro _ _ ⟨rfl, rfl⟩
          rintro _ _ ⟨rfl, rfl⟩
          rintro _ _ ⟨rfl, rfl⟩
          rintro _ _ ⟨rfl, rfl⟩
          rintro _ _ ⟨rfl, rfl⟩
          rintro _ _ ⟨rfl, rfl⟩
          rintro _ _ ⟨rfl, rfl⟩
          rintro _ _ ⟨rfl, rfl⟩
          rintro _ _ ⟨rfl, rfl⟩
          rintro _ _ ⟨rfl, rfl⟩
          rintro _ _ ⟨rfl, rfl⟩
          rintro _ _ ⟨rfl, rfl⟩
          rintro _ _ ⟨rfl, rfl⟩
          rintro _ _ ⟨rfl, rfl⟩
          rintro _ _ ⟨rfl, rfl⟩
          refine W_no rfl rfl rfl ?_
          refine W_no rfl rfl rfl ?_
          refine W_pick rfl rfl rfl rfl ?_
          refine W_assign rfl rfl rfl ?_
          refine W_end ?_
          refine E_then ?_
          refine C_ret ?_
          obtain rfl := Option.some.inj hm
          refine E_drop (List.Sublist.cons _ (List.Sublist.cons _ (List.Sublist.cons _ (List.Sublist.cons _ (List.Sublist.refl _))))) ?_
          refine E_weak (Hp.le_trans (Hp.le_trans hle118 hle143) hle159) ?_
          exact end1 rfl rfl ⟨rfl, rfl, rfl⟩
        · have hm := ite_t' hb157 hm
          obtain ⟨y160, h161, he162, hm⟩ := idx_some hm
          obtain ⟨_, ⟨rfl⟩, hc163⟩ := (h115).elem he162
          obtain ⟨y164, h165, he166, hm⟩ := idx_some hm
          obtain ⟨_, ⟨rfl⟩, hc167⟩ := (h112).elem he166
          cases hb168 : (decide (y160.Name = y164.Name) && (decide (y160.Closed = y164.Closed) && true))
          · have hm := ite_f' hb168 hm
            refine C_region_tok0 22 (phiT [(fun H rs v => [] = rs ∧ .bool (true) = v), (fun H rs v => [] = rs ∧ .bool (true) = v), (fun H rs v => [] = rs ∧ v114 = v), (fun H rs v => [] = rs ∧ .int .i64 (((slc to 0 ((min (to.length : Int) 6 : Int).toNat)).length : Int)) = v), (fun H rs v => [] = rs ∧ v111 = v), (fun H rs v => [] = rs ∧ .int .i64 (((slc p1_from 0 ((min (p1_from.length : Int) 6 : Int).toNat)).length : Int)) = v), (fun H rs v => [] = rs ∧ .bool (true) = v), (fun H rs v => [] = rs ∧ .bool (true) = v), (fun H rs v => [] = rs ∧ .bool (true) = v), (fun H rs v => [] = rs ∧ v114 = v), (fun H rs v => [] = rs ∧ .int .i64 (r122) = v), (fun H rs v => [] = rs ∧ .pointer (some ((Value.base (v114)).add ((r122 : Int).toNat * 2))) = v), (fun H rs v => [] = rs ∧ .agg [.string (y160.Name), .bool (y160.Closed)].toArray = v), (fun H rs v => [] = rs ∧ v111 = v), (fun H rs v => [] = rs ∧ .int .i64 (r122) = v), (fun H rs v => [] = rs ∧ .pointer (some ((Value.base (v111)).add ((r122 : Int).toNat * 2))) = v), (fun H rs v => [] = rs ∧ .agg [.string (y164.Name), .bool (y164.Closed)].toArray = v), (fun H rs v => [] = rs ∧ .bool (false) = v), (fun H rs v => [] = rs ∧ .bool (false) = v), (fun H rs v => [] = rs ∧ .bool (false) = v), (fun H rs v => [] = rs ∧ undef = v), (fun H rs v => [] = rs ∧ undef = v)]) [[], [], [], [], [], [], [], [], [], [], [], [], [], [], [], [], [], [], [], [], [], []] [[], [], [], [], [], [], [], [], [], [], [], [], [], [], [], [], [], [], [], [], [], []] [] [0, 1, 2, 3, 4, 5, 6, 7, 8, 9, 10, 11, 12, 13, 14, 15, 16, 17, 18, 19, 20, 21] Facts.mixed (by kernel_rfl) rfl rfl rfl (by kernel_rfl) (phiT_mono ⟨eq_monoT _ _, eq_monoT _ _, eq_monoT _ _, eq_monoT _ _, eq_monoT _ _, eq_monoT _ _, eq_monoT _ _, eq_monoT _ _, eq_monoT _ _, eq_monoT _ _, eq_monoT _ _, eq_monoT _ _, eq_monoT _ _, eq_monoT _ _, eq_monoT _ _, eq_monoT _ _, eq_monoT _ _, eq_monoT _ _, eq_monoT _ _, eq_monoT _ _, eq_monoT _ _, eq_monoT _ _, trivial⟩) ⟨?_, ?_, ?_, ?_, ?_, ?_, ?_, ?_, ?_, ?_, ?_, ?_, ?_, ?_, ?_, ?_, ?_, ?_, ?_, ?_, ?_, ?_, trivial⟩ ?_
            · intro HX hX X Rest hR
              intro hU
              refine W_call Proofs.Try.call9 rfl rfl rfl (fun w ht => by have h := m_gridhallkeep4_orderFact_c (hm := hc153)  ht; exact h) ?_
              rintro _ _ _ ⟨rfl, rfl, rfl⟩
              exact W_end (OneT_end [] (Hp.le_refl _) ⟨rfl, (by rw [hb154]; try rfl)⟩)
            · intro HX hX X Rest hR
              rintro _ _ ⟨rfl, rfl⟩
              rintro _ _ ⟨rfl, rfl⟩
              intro hU
              refine W_move rfl rfl rfl ?_
              exact W_end (OneT_end [] (Hp.le_refl _) ⟨rfl, rfl⟩)
            · intro HX hX X Rest hR
              rintro _ _ ⟨rfl, rfl⟩
              intro hU
              refine W_move rfl rfl rfl ?_
              exact W_end (OneT_end [] (Hp.le_refl _) ⟨rfl, rfl⟩)
            · intro HX hX X Rest hR
              rintro _ _ ⟨rfl, rfl⟩
              rintro _ _ ⟨rfl, rfl⟩
              intro hU
              refine W_lenR rfl rfl Proofs.Try.runUnderlying23 rfl ((h115.mono hle143).mono hX) ?_
              exact W_end (OneT_end [] (Hp.le_refl _) ⟨rfl, rfl⟩)
            · intro HX hX X Rest hR
              rintro _ _ ⟨rfl, rfl⟩
              intro hU
              refine W_load rfl rfl Proofs.Try.isAgg23 rfl (own_at (hR _ (List.mem_cons_of_mem _ (List.mem_cons_of_mem _ (List.mem_cons_of_mem _ (List.mem_cons_self ..))))) rfl) ?_
              exact W_end (OneT_end [] (Hp.le_refl _) ⟨rfl, rfl⟩)
            · intro HX hX X Rest hR
              rintro _ _ ⟨rfl, rfl⟩
              rintro _ _ ⟨rfl, rfl⟩
              intro hU
              refine W_lenR rfl rfl Proofs.Try.runUnderlying23 rfl ((h112.mono hle143).mono hX) ?_
              exact W_end (OneT_end [] (Hp.le_refl _) ⟨rfl, rfl⟩)
            · intro HX hX X Rest hR
              rintro _ _ ⟨rfl, rfl⟩
              rintro _ _ ⟨rfl, rfl⟩
              rintro _ _ ⟨rfl, rfl⟩
              intro hU
              refine W_bin rfl rfl rfl rfl rfl ?_
              exact W_end (OneT_end [] (Hp.le_refl _) ⟨rfl, (by rw [hb157]; try rfl)⟩)
            · intro HX hX X Rest hR
              rintro _ _ ⟨rfl, rfl⟩
              rintro _ _ ⟨rfl, rfl⟩
              intro hU
              refine W_pick rfl rfl rfl rfl ?_
              exact W_end (OneT_end [] (Hp.le_refl _) ⟨rfl, rfl⟩)
            · intro HX hX X Rest hR
              rintro _ _ ⟨rfl, rfl⟩
              rintro _ _ ⟨rfl, rfl⟩
              intro hU
              refine W_move rfl rfl rfl ?_
              exact W_end (OneT_end [] (Hp.le_refl _) ⟨rfl, rfl⟩)
            · intro HX hX X Rest hR
              rintro _ _ ⟨rfl, rfl⟩
              intro hU
              refine W_move rfl rfl rfl ?_
              exact W_end (OneT_end [] (Hp.le_refl _) ⟨rfl, rfl⟩)
            · intro HX hX X Rest hR
              rintro _ _ ⟨rfl, rfl⟩
              intro hU
              refine W_load rfl rfl Proofs.Try.isAgg3 rfl (own_at (hR _ (List.mem_cons_of_mem _ (List.mem_cons_of_mem _ (List.mem_cons_self ..)))) rfl) ?_
              exact W_end (OneT_end [] (Hp.le_refl _) ⟨rfl, rfl⟩)
            · intro HX hX X Rest hR
              rintro _ _ ⟨rfl, rfl⟩
              rintro _ _ ⟨rfl, rfl⟩
              rintro _ _ ⟨rfl, rfl⟩
              intro hU
              refine W_indexS rfl rfl Proofs.Try.runUnderlying23 Proofs.Try.sizeOf33 rfl ((h115.mono hle143).mono hX) rfl h161 he162 ?_
              exact W_end (OneT_end [] (Hp.le_refl _) ⟨rfl, rfl⟩)
            · intro HX hX X Rest hR
              rintro _ _ ⟨rfl, rfl⟩
              rintro _ _ ⟨rfl, rfl⟩
              intro hU
              refine W_loadAgg rfl rfl Proofs.Try.isAgg33 Proofs.Try.sizeOf33 rfl ((hc163.mono hle143).mono hX).at rfl ?_
              exact W_end (OneT_end [] (Hp.le_refl _) ⟨rfl, rfl⟩)
            · intro HX hX X Rest hR
              rintro _ _ ⟨rfl, rfl⟩
              intro hU
              refine W_load rfl rfl Proofs.Try.isAgg23 rfl (own_at (hR _ (List.mem_cons_of_mem _ (List.mem_cons_of_mem _ (List.mem_cons_of_mem _ (List.mem_cons_self ..))))) rfl) ?_
              exact W_end (OneT_end [] (Hp.le_refl _) ⟨rfl, rfl⟩)
            · intro HX hX X Rest hR
              rintro _ _ ⟨rfl, rfl⟩
              intro hU
              refine W_load rfl rfl Proofs.Try.isAgg3 rfl (own_at (hR _ (List.mem_cons_of_mem _ (List.mem_cons_of_mem _ (List.mem_cons_self ..)))) rfl) ?_
              exact W_end (OneT_end [] (Hp.le_refl _) ⟨rfl, rfl⟩)
            · intro HX hX X Rest hR
              rintro _ _ ⟨rfl, rfl⟩
              rintro _ _ ⟨rfl, rfl⟩
              rintro _ _ ⟨rfl, rfl⟩
              intro hU
              refine W_indexS rfl rfl Proofs.Try.runUnderlying23 Proofs.Try.sizeOf33 rfl ((h112.mono hle143).mono hX) rfl h165 he166 ?_
              exact W_end (OneT_end [] (Hp.le_refl _) ⟨rfl, rfl⟩)
            · intro HX hX X Rest hR
              rintro _ _ ⟨rfl, rfl⟩
              rintro _ _ ⟨rfl, rfl⟩
              intro hU
              refine W_loadAgg rfl rfl Proofs.Try.isAgg33 Proofs.Try.sizeOf33 rfl ((hc167.mono hle143).mono hX).at rfl ?_
              exact W_end (OneT_end [] (Hp.le_refl _) ⟨rfl, rfl⟩)
            · intro HX hX X Rest hR
              rintro _ _ ⟨rfl, rfl⟩
              rintro _ _ ⟨rfl, rfl⟩
              rintro _ _ ⟨rfl, rfl⟩
              intro hU
              refine W_eqAgg (b := decide (y160.Name = y164.Name) && (decide (y160.Closed = y164.Closed) && true)) rfl rfl (by kernel_rfl) rfl rfl (fun w => run_equal_struct (bs := [decide (y160.Name = y164.Name), decide (y160.Closed = y164.Closed)]) Proofs.Try.runUnderlying33 (by kernel_rfl) ⟨(by decide), (fldEq_str Proofs.Try.isAgg9 Proofs.Try.runUnderlying9 rfl rfl), (by decide), (fldEq_bool Proofs.Try.isAgg4 Proofs.Try.runUnderlying4 rfl rfl), trivial⟩) ?_
              exact W_end (OneT_end [] (Hp.le_refl _) ⟨rfl, (by rw [hb168]; try rfl)⟩)
            · intro HX hX X Rest hR
              rintro _ _ ⟨rfl, rfl⟩
              rintro _ _ ⟨rfl, rfl⟩
              intro hU
              refine W_pick rfl rfl rfl rfl ?_
              exact W_end (OneT_end [] (Hp.le_refl _) ⟨rfl, rfl⟩)
            · intro HX hX X Rest hR
              rintro _ _ ⟨rfl, rfl⟩
              rintro _ _ ⟨rfl, rfl⟩
              intro hU
              refine W_move rfl rfl rfl ?_
              exact W_end (OneT_end [] (Hp.le_refl _) ⟨rfl, rfl⟩)
            · intro HX hX X Rest hR
              rintro _ _ ⟨rfl, rfl⟩
              intro hU
              refine W_no rfl rfl rfl ?_
              exact W_end (OneT_end [] (Hp.le_refl _) ⟨rfl, rfl⟩)
            · intro HX hX X Rest hR
              rintro _ _ ⟨rfl, rfl⟩
              intro hU
              refine W_no rfl rfl rfl ?_
              exact W_end (OneT_end [] (Hp.le_refl _) ⟨rfl, rfl⟩)
            intro H169 hle170
            rintro _ _ ⟨rfl, rfl⟩
            rintro _ _ ⟨rfl, rfl⟩
            rintro _ _ ⟨rfl, rfl⟩
            rintro _ _ ⟨rfl, rfl⟩
            rintro _ _ ⟨rfl, rfl⟩
            rintro _ _ ⟨rfl, rfl⟩
            rintro _ _ ⟨rfl, rfl⟩
            rintro _ _ ⟨rfl, rfl⟩
            rintro _ _ ⟨rfl, rfl⟩
            rintro _ _ ⟨rfl, rfl⟩
            rintro _ _ ⟨rfl, rfl⟩
            rintro _ _ ⟨rfl, rfl⟩
            rintro _ _ ⟨rfl, rfl⟩
            rintro _ _ ⟨rfl, rfl⟩
            rintro _ _ ⟨rfl, rfl⟩
            rintro _ _ ⟨rfl, rfl⟩
            rintro _ _ ⟨rfl, rfl⟩
            rintro _ _ ⟨rfl, rfl⟩
            rintro _ _ ⟨rfl, rfl⟩
            rintro _ _ ⟨rfl, rfl⟩
            rintro _ _ ⟨rfl, rfl⟩
            rintro _ _ ⟨rfl, rfl⟩
            refine W_no rfl rfl rfl ?_
            refine W_no rfl rfl rfl ?_
            refine W_pick rfl rfl rfl rfl ?_
            refine W_assign rfl rfl rfl ?_
            refine W_end ?_
            refine E_then ?_
            refine C_ret ?_
            obtain rfl := Option.some.inj hm
            refine E_drop (List.Sublist.cons _ (List.Sublist.cons _ (List.Sublist.cons _ (List.Sublist.cons _ (List.Sublist.refl _))))) ?_
            refine E_weak (Hp.le_trans (Hp.le_trans hle118 hle143) hle170) ?_
            exact end1 rfl rfl ⟨rfl, rfl, rfl⟩
          · have hm := ite_t' hb168 hm
            refine C_region_tok0 22 (phiT [(fun H rs v => [] = rs ∧ .bool (true) = v), (fun H rs v => [] = rs ∧ .bool (true) = v), (fun H rs v => [] = rs ∧ v114 = v), (fun H rs v => [] = rs ∧ .int .i64 (((slc to 0 ((min (to.length : Int) 6 : Int).toNat)).length : Int)) = v), (fun H rs v => [] = rs ∧ v111 = v), (fun H rs v => [] = rs ∧ .int .i64 (((slc p1_from 0 ((min (p1_from.length : Int) 6 : Int).toNat)).length : Int)) = v), (fun H rs v => [] = rs ∧ .bool (true) = v), (fun H rs v => [] = rs ∧ .bool (true) = v), (fun H rs v => [] = rs ∧ .bool (true) = v), (fun H rs v => [] = rs ∧ v114 = v), (fun H rs v => [] = rs ∧ .int .i64 (r122) = v), (fun H rs v => [] = rs ∧ .pointer (some ((Value.base (v114)).add ((r122 : Int).toNat * 2))) = v), (fun H rs v => [] = rs ∧ .agg [.string (y160.Name), .bool (y160.Closed)].toArray = v), (fun H rs v => [] = rs ∧ v111 = v), (fun H rs v => [] = rs ∧ .int .i64 (r122) = v), (fun H rs v => [] = rs ∧ .pointer (some ((Value.base (v111)).add ((r122 : Int).toNat * 2))) = v), (fun H rs v => [] = rs ∧ .agg [.string (y164.Name), .bool (y164.Closed)].toArray = v), (fun H rs v => [] = rs ∧ .bool (true) = v), (fun H rs v => [] = rs ∧ .bool (true) = v), (fun H rs v => [] = rs ∧ .bool (true) = v), (fun H rs v => [] = rs ∧ v139 = v), (fun H rs v => [] = rs ∧ .func (.func 12) [].toArray [.pointer (some ⟨b101, 0, none⟩), .pointer (some ⟨b102, 0, none⟩)].toArray = v)]) [[], [], [], [], [], [], [], [], [], [], [], [], [], [], [], [], [], [], [], [], [], []] [[], [], [], [], [], [], [], [], [], [], [], [], [], [], [], [], [], [], [], [], [], []] [] [0, 1, 2, 3, 4, 5, 6, 7, 8, 9, 10, 11, 12, 13, 14, 15, 16, 17, 18, 19, 20, 21] Facts.mixed (by kernel_rfl) rfl rfl rfl (by kernel_rfl) (phiT_mono ⟨eq_monoT _ _, eq_monoT _ _, eq_monoT _ _, eq_monoT _ _, eq_monoT _ _, eq_monoT _ _, eq_monoT _ _, eq_monoT _ _, eq_monoT _ _, eq_monoT _ _, eq_monoT _ _, eq_monoT _ _, eq_monoT _ _, eq_monoT _ _, eq_monoT _ _, eq_monoT _ _, eq_monoT _ _, eq_monoT _ _, eq_monoT _ _, eq_monoT _ _, eq_monoT _ _, eq_monoT _ _, trivial⟩) ⟨?_, ?_, ?_, ?_, ?_, ?_, ?_, ?_, ?_, ?_, ?_, ?_, ?_, ?_, ?_, ?_, ?_, ?_, ?_, ?_, ?_, ?_, trivial⟩ ?_
            · intro HX hX X Rest hR
              intro hU
              refine W_call Proofs.Try.call9 rfl rfl rfl (fun w ht => by have h := m_gridhallkeep4_orderFact_c (hm := hc153)  ht; exact h) ?_
              rintro _ _ _ ⟨rfl, rfl, rfl⟩
              exact W_end (OneT_end [] (Hp.le_refl _) ⟨rfl, (by rw [hb154]; try rfl)⟩)
            · intro HX hX X Rest hR
              rintro _ _ ⟨rfl, rfl⟩
              rintro _ _ ⟨rfl, rfl⟩
              intro hU
              refine W_move rfl rfl rfl ?_
              exact W_end (OneT_end [] (Hp.le_refl _) ⟨rfl, rfl⟩)
            · intro HX hX X Rest hR
              rintro _ _ ⟨rfl, rfl⟩
              intro hU
              refine W_move rfl rfl rfl ?_
              exact W_end (OneT_end [] (Hp.le_refl _) ⟨rfl, rfl⟩)
            · intro HX hX X Rest hR
              rintro _ _ ⟨rfl, rfl⟩
              rintro _ _ ⟨rfl, rfl⟩
              intro hU
              refine W_lenR rfl rfl Proofs.Try.runUnderlying23 rfl ((h115.mono hle143).mono hX) ?_
              exact W_end (OneT_end [] (Hp.le_refl _) ⟨rfl, rfl⟩)
            · intro HX hX X Rest hR
              rintro _ _ ⟨rfl, rfl⟩
              intro hU
              refine W_load rfl rfl Proofs.Try.isAgg23 rfl (own_at (hR _ (List.mem_cons_of_mem _ (List.mem_cons_of_mem _ (List.mem_cons_of_mem _ (List.mem_cons_self ..))))) rfl) ?_
              exact W_end (OneT_end [] (Hp.le_refl _) ⟨rfl, rfl⟩)
            · intro HX hX X Rest hR
              rintro _ _ ⟨rfl, rfl⟩
              rintro _ _ ⟨rfl, rfl⟩
              intro hU
              refine W_lenR rfl rfl Proofs.Try.runUnderlying23 rfl ((h112.mono hle143).mono hX) ?_
              exact W_end (OneT_end [] (Hp.le_refl _) ⟨rfl, rfl⟩)
            · intro HX hX X Rest hR
              rintro _ _ ⟨rfl, rfl⟩
              rintro _ _ ⟨rfl, rfl⟩
              rintro _ _ ⟨rfl, rfl⟩
              intro hU
              refine W_bin rfl rfl rfl rfl rfl ?_
              exact W_end (OneT_end [] (Hp.le_refl _) ⟨rfl, (by rw [hb157]; try rfl)⟩)
            · intro HX hX X Rest hR
              rintro _ _ ⟨rfl, rfl⟩
              rintro _ _ ⟨rfl, rfl⟩
              intro hU
              refine W_pick rfl rfl rfl rfl ?_
              exact W_end (OneT_end [] (Hp.le_refl _) ⟨rfl, rfl⟩)
            · intro HX hX X Rest hR
              rintro _ _ ⟨rfl, rfl⟩
              rintro _ _ ⟨rfl, rfl⟩
              intro hU
              refine W_move rfl rfl rfl ?_
              exact W_end (OneT_end [] (Hp.le_refl _) ⟨rfl, rfl⟩)
            · intro HX hX X Rest hR
              rintro _ _ ⟨rfl, rfl⟩
              intro hU
              refine W_move rfl rfl rfl ?_
              exact W_end (OneT_end [] (Hp.le_refl _) ⟨rfl, rfl⟩)
            · intro HX hX X Rest hR
              rintro _ _ ⟨rfl, rfl⟩
              intro hU
              refine W_load rfl rfl Proofs.Try.isAgg3 rfl (own_at (hR _ (List.mem_cons_of_mem _ (List.mem_cons_of_mem _ (List.mem_cons_self ..)))) rfl) ?_
              exact W_end (OneT_end [] (Hp.le_refl _) ⟨rfl, rfl⟩)
            · intro HX hX X Rest hR
              rintro _ _ ⟨rfl, rfl⟩
              rintro _ _ ⟨rfl, rfl⟩
              rintro _ _ ⟨rfl, rfl⟩
              intro hU
              refine W_indexS rfl rfl Proofs.Try.runUnderlying23 Proofs.Try.sizeOf33 rfl ((h115.mono hle143).mono hX) rfl h161 he162 ?_
              exact W_end (OneT_end [] (Hp.le_refl _) ⟨rfl, rfl⟩)
            · intro HX hX X Rest hR
              rintro _ _ ⟨rfl, rfl⟩
              rintro _ _ ⟨rfl, rfl⟩
              intro hU
              refine W_loadAgg rfl rfl Proofs.Try.isAgg33 Proofs.Try.sizeOf33 rfl ((hc163.mono hle143).mono hX).at rfl ?_
              exact W_end (OneT_end [] (Hp.le_refl _) ⟨rfl, rfl⟩)
            · intro HX hX X Rest hR
              rintro _ _ ⟨rfl, rfl⟩
              intro hU
              refine W_load rfl rfl Proofs.Try.isAgg23 rfl (own_at (hR _ (List.mem_cons_of_mem _ (List.mem_cons_of_mem _ (List.mem_cons_of_mem _ (List.mem_cons_self ..))))) rfl) ?_
              exact W_end (OneT_end [] (Hp.le_refl _) ⟨rfl, rfl⟩)
            · intro HX hX X Rest hR
              rintro _ _ ⟨rfl, rfl⟩
              intro hU
              refine W_load rfl rfl Proofs.Try.isAgg3 rfl (own_at (hR _ (List.mem_cons_of_mem _ (List.mem_cons_of_mem _ (List.mem_cons_self ..)))) rfl) ?_
              exact W_end (OneT_end [] (Hp.le_refl _) ⟨rfl, rfl⟩)
            · intro HX hX X Rest hR
              rintro _ _ ⟨rfl, rfl⟩
              rintro _ _ ⟨rfl, rfl⟩
              rintro _ _ ⟨rfl, rfl⟩
              intro hU
              refine W_indexS rfl rfl Proofs.Try.runUnderlying23 Proofs.Try.sizeOf33 rfl ((h112.mono hle143).mono hX) rfl h165 he166 ?_
              exact W_end (OneT_end [] (Hp.le_refl _) ⟨rfl, rfl⟩)
            · intro HX hX X Rest hR
              rintro _ _ ⟨rfl, rfl⟩
              rintro _ _ ⟨rfl, rfl⟩
              intro hU
              refine W_loadAgg rfl rfl Proofs.Try.isAgg33 Proofs.Try.sizeOf33 rfl ((hc167.mono hle143).mono hX).at rfl ?_
              exact W_end (OneT_end [] (Hp.le_refl _) ⟨rfl, rfl⟩)
            · intro HX hX X Rest hR
              rintro _ _ ⟨rfl, rfl⟩
              rintro _ _ ⟨rfl, rfl⟩
              rintro _ _ ⟨rfl, rfl⟩
              intro hU
              refine W_eqAgg (b := decide (y160.Name = y164.Name) && (decide (y160.Closed = y164.Closed) && true)) rfl rfl (by kernel_rfl) rfl rfl (fun w => run_equal_struct (bs := [decide (y160.Name = y164.Name), decide (y160.Closed = y164.Closed)]) Proofs.Try.runUnderlying33 (by kernel_rfl) ⟨(by decide), (fldEq_str Proofs.Try.isAgg9 Proofs.Try.runUnderlying9 rfl rfl), (by decide), (fldEq_bool Proofs.Try.isAgg4 Proofs.Try.runUnderlying4 rfl rfl), trivial⟩) ?_
              exact W_end (OneT_end [] (Hp.le_refl _) ⟨rfl, (by rw [hb168]; try rfl)⟩)
            · intro HX hX X Rest hR
              rintro _ _ ⟨rfl, rfl⟩
              rintro _ _ ⟨rfl, rfl⟩
              intro hU
              refine W_pick rfl rfl rfl rfl ?_
              exact W_end (OneT_end [] (Hp.le_refl _) ⟨rfl, rfl⟩)
            · intro HX hX X Rest hR
              rintro _ _ ⟨rfl, rfl⟩
              rintro _ _ ⟨rfl, rfl⟩
              intro hU
              refine W_move rfl rfl rfl ?_
              exact W_end (OneT_end [] (Hp.le_refl _) ⟨rfl, rfl⟩)
            · intro HX hX X Rest hR
              rintro _ _ ⟨rfl, rfl⟩
              intro hU
              refine W_move rfl rfl rfl ?_
              exact W_end (OneT_end [] (Hp.le_refl _) ⟨rfl, rfl⟩)
            · intro HX hX X Rest hR
              rintro _ _ ⟨rfl, rfl⟩
              intro hU
              refine W_makeFunc rfl rfl rfl rfl ?_
              exact W_end (OneT_end [] (Hp.le_refl _) ⟨rfl, rfl⟩)
            intro H171 hle172
            rintro _ _ ⟨rfl, rfl⟩
            rintro _ _ ⟨rfl, rfl⟩
            rintro _ _ ⟨rfl, rfl⟩
            rintro _ _ ⟨rfl, rfl⟩
            rintro _ _ ⟨rfl, rfl⟩
            rintro _ _ ⟨rfl, rfl⟩
            rintro _ _ ⟨rfl, rfl⟩
            rintro _ _ ⟨rfl, rfl⟩
            rintro _ _ ⟨rfl, rfl⟩
            rintro _ _ ⟨rfl, rfl⟩
            rintro _ _ ⟨rfl, rfl⟩
            rintro _ _ ⟨rfl, rfl⟩
            rintro _ _ ⟨rfl, rfl⟩
            rintro _ _ ⟨rfl, rfl⟩
            rintro _ _ ⟨rfl, rfl⟩
            rintro _ _ ⟨rfl, rfl⟩
            rintro _ _ ⟨rfl, rfl⟩
            rintro _ _ ⟨rfl, rfl⟩
            rintro _ _ ⟨rfl, rfl⟩
            rintro _ _ ⟨rfl, rfl⟩
            rintro _ _ ⟨rfl, rfl⟩
            rintro _ _ ⟨rfl, rfl⟩
            refine W_perm (List.Perm.trans (List.Perm.swap _ _ _) (List.Perm.trans (List.Perm.cons _ (List.Perm.cons _ (List.Perm.swap _ _ _))) (List.Perm.trans (List.Perm.cons _ (List.Perm.swap _ _ _)) (List.Perm.cons _ (List.Perm.cons _ (List.Perm.swap _ _ _)))))) ?_
            obtain ⟨r173, hc174, hm⟩ := bind_some hm
            refine W_call Proofs.Try.call11 rfl rfl rfl (fun w ht => by obtain ⟨H0_, hl0_, ht0_, hr0_, bk0_⟩ := ht.lendRow (h141.mono hle172) rfl; have h := m_slices_ContainsFunc_api_OrderStep_api_OrderStep__gridhallkeep4_OrderHeld_1_c (hm := hc174) hr0_ (((h112.mono hle143).mono hle172).mono hl0_) ht0_; exact lend_back bk0_ (h)) ?_
            rintro _ _ _ ⟨rfl, ⟨_, rfl, rfl, rfl⟩⟩
            refine W_un rfl rfl rfl rfl ?_
            refine W_pick rfl rfl rfl rfl ?_
            refine W_assign rfl rfl rfl ?_
            refine W_end ?_
            refine E_then ?_
            refine C_ret ?_
            obtain rfl := Option.some.inj hm
            refine E_drop (List.Sublist.cons _ (List.Sublist.cons _ (List.Sublist.cons _ (List.Sublist.cons _ (List.Sublist.refl _))))) ?_
            refine E_weak (Hp.le_trans (Hp.le_trans hle118 hle143) hle172) ?_
            exact end1 rfl rfl ⟨rfl, rfl, rfl⟩

theorem m_order_Reach_c {B : Nat} {w0 w : World} {H : Hp} {M : List Res} {rules : (List S_api_InterlockRule)} {p1_from : (List S_api_InterlockState)} {held : (List ByteArray)} {v0 : Value} {v1 : Value} {v2 : Value} {r : Int × Int} (hm : m_order_Reach rules p1_from held = some r) (h0 : RdS H v0 rules) (h1 : RdS H v1 p1_from) (h2 : RdS H v2 held) (ht : St B w0 H (M) w) :
    Calls Proofs.Try.prog 13 [v0, v1, v2].toArray w (Ret B w0 fun H' M' v => H = H' ∧ M = M' ∧ .tuple #[.int .i64 (r.1), .int .i64 (r.2)] = v) := by
  unfold m_order_Reach at hm
  refine enter Proofs.Try.func13 rfl rfl rfl ht ?_
  refine C_seq ?_
  refine C_region ?_
  refine W_assign rfl rfl rfl ?_
  refine W_assign rfl rfl rfl ?_
  refine W_end ?_
  refine E_then ?_
  refine C_seq ?_
  refine C_seq ?_
  refine C_region ?_
  refine W_move rfl rfl rfl ?_
  refine W_move rfl rfl rfl ?_
  refine W_move rfl rfl rfl ?_
  refine W_move rfl rfl rfl ?_
  obtain ⟨r101, hc102, hm⟩ := bind_some hm
  refine W_call Proofs.Try.call18 rfl rfl rfl (fun w ht => by have h := m_order_check_c (hm := hc102) h0 h1 h1 h2 ht; exact h) ?_
  rintro _ _ _ ⟨rfl, rfl, rfl⟩
  refine W_assign rfl rfl rfl ?_
  refine W_end ?_
  refine E_then ?_
  refine C_seq ?_
  refine C_region ?_
  refine W_move rfl rfl rfl ?_
  refine W_bin rfl rfl rfl rfl rfl ?_
  refine W_end ?_
  refine E_then ?_
  refine C_cond (b := !decide (r101 = 0)) rfl (fun hb103 => ?_) (fun hb103 => ?_)
  · have hm := ite_t' hb103 hm
    refine C_seq ?_
    refine C_region ?_
    refine W_move rfl rfl rfl ?_
    refine W_assign rfl rfl rfl ?_
    refine W_assign rfl rfl rfl ?_
    refine W_end ?_
    refine E_then ?_
    refine C_ret ?_
    refine E_ret_then ?_
    obtain rfl := Option.some.inj hm
    refine E_weak (Hp.le_refl _) ?_
    exact end2 rfl rfl rfl ⟨rfl, rfl, rfl⟩
  · have hm := ite_f' hb103 hm
    refine C_skip ?_
    refine E_then ?_
    refine C_seq ?_
    refine C_region ?_
    refine W_assign rfl rfl rfl ?_
    refine W_end ?_
    refine E_then ?_
    refine C_seq ?_
    refine C_seq ?_
    refine C_region ?_
    refine W_move rfl rfl rfl ?_
    refine W_move rfl rfl rfl ?_
    refine W_move rfl rfl rfl ?_
    obtain ⟨r104, hc105, hm⟩ := bind_some hm
    refine W_call Proofs.Try.call19 rfl rfl rfl (fun w ht => by have h := m_order_walk_c (hm := hc105) h0 h1 h2 ht; exact h) ?_
    rintro _ _ _ ⟨rfl, xs106, rfl, rfl, h107, hl108⟩
    have h107 := h107 H
    refine W_move rfl rfl rfl ?_
    refine W_end ?_
    refine E_then ?_
    refine C_block ?_
    refine C_keep (L' := [(9, .int .i64 (0)), (23, .agg (xs106).toArray), (24, .int .i64 (((0 : Nat) : Int)))]) ⟨rfl, rfl, rfl, trivial⟩ (List.Perm.refl _) ?_
    refine C_loop (fun n H' M' L' => ∃ (k109 : Nat) (zs143' : Nat), ∃ n136 : Int, k109 + zs143' = (256 : Int).toNat ∧ zs143' = n ∧ forN (fun k s n => m_order_Reach_b3 r104 k s n) (fun s => some (s, 0)) zs143' k109 n136 = some r ∧ H.le H' ∧ M = M' ∧ [(9, .int .i64 (n136)), (23, .agg (xs106).toArray), (24, .int .i64 ((k109 : Int)))] = L') _ ⟨0, _, 0, Nat.zero_add _, rfl, hm, (Hp.le_refl _), rfl, rfl⟩ ?_
    rintro _ H137 _ _ ⟨k109, zs143', n136, hd145, rfl, hm, hle138, rfl, rfl⟩
    refine C_seq ?_
    refine C_region ?_
    refine W_bin rfl rfl rfl rfl rfl ?_
    refine W_end (E_then ?_)
    refine C_seq ?_
    refine C_cond (b := decide ((k109 : Int) < 256)) rfl (fun hb147 => ?_) (fun hb147 => ?_)
    · obtain ⟨zs143, rfl, hd146, hy144⟩ := rngN_t hd145 hb147
      have hm : m_order_Reach_b3 r104 k109 n136 (forN (fun k s n => m_order_Reach_b3 r104 k s n) (fun s => some (s, 0)) zs143 (k109 + 1)) = some r := hm
      generalize hn140 : forN (fun k s n => m_order_Reach_b3 r104 k s n) (fun s => some (s, 0)) zs143 (k109 + 1) = nx139 at hm
      unfold m_order_Reach_b3 at hm
      refine C_skip (E_then ?_)
      refine C_seq_join (fun H' M' L' => ∃ n153 : Int, m_order_Reach_b4 nx139 n153 = some r ∧ H137 = H' ∧ M = M' ∧ [(9, .int .i64 (n153)), (23, .agg (xs106).toArray), (24, .int .i64 ((k109 : Int)))] = L') ?_ (fun J154 => ?_)
      · rintro _ _ _ ⟨n153, hm, rfl, rfl, rfl⟩
        unfold m_order_Reach_b4 at hm
        refine C_region ?_
        refine W_bin rfl rfl rfl rfl rfl ?_
        refine W_move rfl rfl rfl ?_
        refine W_end ?_
        exact E_keepJ (E_back (Nat.lt_succ_self _) ⟨k109 + 1, zs143, n153, hd146, rfl, (by rw [hn140]; exact hm), hle138, rfl, rfl⟩) (List.Perm.refl _) ⟨rfl, rfl, (congrArg (fun z => some (Value.int .i64 z)) (i64_succN hy144 (toNat_max (by decide)))), trivial⟩
      · refine C_block ?_
        refine C_seq ?_
        refine C_region ?_
        obtain ⟨y155, h156, he157, hm⟩ := idx_some hm
        obtain ⟨_, rfl, hg158⟩ := (h107).get _ _ he157
        refine W_indexV rfl rfl Proofs.Try.runUnderlying53 Proofs.Try.isAgg3 Proofs.Try.sizeOf3 rfl rfl h156 (by have := (List.getElem?_eq_some_iff.1 he157).1; omega) (hg158 0 _ rfl) ?_
        refine W_assign rfl rfl rfl ?_
        refine W_end ?_
        refine E_then ?_
        refine C_seq ?_
        refine C_region ?_
        refine W_move rfl rfl rfl ?_
        refine W_bin rfl rfl rfl rfl rfl ?_
        refine W_end ?_
        refine E_then ?_
        refine C_cond (b := !decide (y155 = (-2))) rfl (fun hb159 => ?_) (fun hb159 => ?_)
        · have hm := ite_t' hb159 hm
          refine C_region ?_
          refine W_move rfl rfl rfl ?_
          refine W_bin rfl rfl rfl rfl rfl ?_
          refine W_assign rfl rfl rfl ?_
          refine W_end ?_
          refine E_normal_block ?_
          exact E_keepJ (J154 _ _ _ ⟨IntKind.i64.wrap (n136 + 1), hm, rfl, rfl, rfl⟩) (List.Perm.refl _) ⟨rfl, rfl, rfl, trivial⟩
        · have hm := ite_f' hb159 hm
          refine C_skip ?_
          refine E_normal_block ?_
          exact E_keepJ (J154 _ _ _ ⟨n136, hm, rfl, rfl, rfl⟩) (List.Perm.refl _) ⟨rfl, rfl, rfl, trivial⟩
    · obtain rfl := rngN_f hd145 hb147
      have hm : (some (n136, 0)) = some r := hm
      refine C_exit (E_exit_then ?_)
      refine E_exit_then ?_
      refine E_exit_hit ?_
      refine E_then ?_
      refine C_seq ?_
      refine C_region ?_
      refine W_move rfl rfl rfl ?_
      refine W_assign rfl rfl rfl ?_
      refine W_assign rfl rfl rfl ?_
      refine W_end ?_
      refine E_then ?_
      refine C_ret ?_
      obtain rfl := Option.some.inj hm
      refine E_weak hle138 ?_
      exact end2 rfl rfl rfl ⟨rfl, rfl, rfl⟩

theorem m_gridhallkeep4_OrderReach_c {B : Nat} {w0 w : World} {H : Hp} {M : List Res} {rules : (List S_api_InterlockRule)} {p1_from : (List S_api_InterlockState)} {held : (List ByteArray)} {v0 : Value} {v1 : Value} {v2 : Value} {r : Bool} (hm : m_gridhallkeep4_OrderReach rules p1_from held = some r) (h0 : RdS H v0 rules) (h1 : RdS H v1 p1_from) (h2 : RdS H v2 held) (ht : St B w0 H (M) w) :
    Calls Proofs.Try.prog 5 [v0, v1, v2].toArray w (Ret B w0 fun H' M' v => H = H' ∧ M = M' ∧ .bool (r) = v) := by
  unfold m_gridhallkeep4_OrderReach at hm
  refine enter Proofs.Try.func5 rfl rfl rfl ht ?_
  refine C_seq ?_
  refine C_region ?_
  refine W_assign rfl rfl rfl ?_
  refine W_end ?_
  refine E_then ?_
  refine C_seq ?_
  refine C_region ?_
  refine W_move rfl rfl rfl ?_
  refine W_move rfl rfl rfl ?_
  refine W_lenR rfl rfl Proofs.Try.runUnderlying23 rfl h1 ?_
  refine W_min rfl rfl rfl rfl ?_
  obtain ⟨hz101, hm⟩ := need_some hm
  refine W_sliceR (α := S_api_InterlockState) (l := 0) (h := (min (p1_from.length : Int) 4 : Int).toNat) (xs := p1_from) rfl rfl Proofs.Try.runUnderlying23 Proofs.Try.sizeOf33 rfl h1 (by omega) (by omega) (.inl rfl) (fun cap hcap => by rw [if_pos rfl]; exact (.inl ⟨rfl, rfl⟩)) (fun m hmm => (.inr ⟨_, _, _, rfl, rfl, by omega, by omega, rfl⟩)) (.inl ⟨rfl, rfl⟩) ?_
  intro v102 h103 hc104
  refine W_assign rfl rfl rfl ?_
  refine W_end ?_
  refine E_then ?_
  refine C_seq ?_
  refine C_region ?_
  refine W_move rfl rfl rfl ?_
  refine W_move rfl rfl rfl ?_
  refine W_move rfl rfl rfl ?_
  obtain ⟨r105, hc106, hm⟩ := bind_some hm
  refine W_call Proofs.Try.call13 rfl rfl rfl (fun w ht => by have h := m_order_Reach_c (hm := hc106) h0 h103 h2 ht; exact h) ?_
  rintro _ _ _ ⟨rfl, rfl, rfl⟩
  refine W_move rfl rfl rfl ?_
  refine W_extract rfl rfl rfl rfl ?_
  refine W_extract rfl rfl rfl rfl ?_
  refine W_assign rfl rfl rfl ?_
  refine W_assign rfl rfl rfl ?_
  refine W_end ?_
  refine E_then ?_
  refine C_seq ?_
  refine C_seq ?_
  refine C_region ?_
  refine W_move rfl rfl rfl ?_
  refine W_bin rfl rfl rfl rfl rfl ?_
  refine W_end ?_
  refine E_then ?_
  refine C_cond (b := !decide (r105.2 = 0)) rfl (fun hb107 => ?_) (fun hb107 => ?_)
  · have hm := ite_t' hb107 hm
    obtain ⟨r111, hc112, hm⟩ := bind_some hm
    refine C_seq_join (fun H' M' L' => H = H' ∧ M = M' ∧ [(6, .bool (r111 && (decide (r105.1 = 0))))] = L') ?_ (fun J113 => ?_)
    · rintro _ _ _ ⟨rfl, rfl, rfl⟩
      refine C_ret ?_
      refine E_ret_then ?_
      obtain rfl := Option.some.inj hm
      refine E_weak (Hp.le_refl _) ?_
      exact end1 rfl rfl ⟨rfl, rfl, rfl⟩
    · refine C_region ?_
      refine W_call Proofs.Try.call9 rfl rfl rfl (fun w ht => by have h := m_gridhallkeep4_orderFact_c (hm := hc112)  ht; exact h) ?_
      rintro _ _ _ ⟨rfl, rfl, rfl⟩
      refine W_move rfl rfl rfl ?_
      cases hb114 : (r111)
      · refine W_no rfl rfl rfl ?_
        refine W_no rfl rfl rfl ?_
        refine W_pick rfl rfl rfl rfl ?_
        refine W_assign rfl rfl rfl ?_
        refine W_end ?_
        exact E_keepJ (J113 _ _ _ ⟨rfl, rfl, rfl⟩) (List.Perm.refl _) ⟨(by show some (Value.bool (false)) = some (Value.bool (r111 && (decide (r105.1 = 0)))); simp only [hb107, hb114, Bool.and_true, Bool.true_and, Bool.false_and, Bool.and_false, Bool.or_true, Bool.true_or, Bool.or_false, Bool.false_or, Bool.not_true, Bool.not_false]), trivial⟩
      · refine W_move rfl rfl rfl ?_
        refine W_bin rfl rfl rfl rfl rfl ?_
        refine W_pick rfl rfl rfl rfl ?_
        refine W_assign rfl rfl rfl ?_
        refine W_end ?_
        exact E_keepJ (J113 _ _ _ ⟨rfl, rfl, rfl⟩) (List.Perm.refl _) ⟨(by show some (Value.bool (decide (r105.1 = 0))) = some (Value.bool (r111 && (decide (r105.1 = 0)))); simp only [hb107, hb114, Bool.and_true, Bool.true_and, Bool.false_and, Bool.and_false, Bool.or_true, Bool.true_or, Bool.or_false, Bool.false_or, Bool.not_true, Bool.not_false]), trivial⟩
  · have hm := ite_f' hb107 hm
    refine C_skip ?_
    refine E_then ?_
    refine C_seq ?_
    refine C_region ?_
    refine W_assign rfl rfl rfl ?_
    refine W_end ?_
    refine E_then ?_
    refine C_seq ?_
    refine C_seq ?_
    refine C_region ?_
    refine W_move rfl rfl rfl ?_
    refine W_lenR rfl rfl Proofs.Try.runUnderlying23 rfl h103 ?_
    obtain ⟨hq115, hm⟩ := need_some hm
    refine W_shl rfl rfl rfl rfl hq115 ?_
    refine W_move rfl rfl rfl ?_
    refine W_end ?_
    refine E_then ?_
    refine C_block ?_
    obtain ⟨hq385, hm⟩ := need_some hm
    refine C_keep (L' := [(0, v0), (1, v102), (2, v2), (7, .int .i64 (r105.1)), (9, .int .i64 (0)), (36, .int .i64 (shlV .i64 1 ((slc p1_from 0 ((min (p1_from.length : Int) 4 : Int).toNat)).length : Int))), (37, .int .i64 (((0 : Nat) : Int)))]) ⟨rfl, rfl, rfl, rfl, rfl, rfl, rfl, trivial⟩ (List.Perm.refl _) ?_
    refine C_loop (fun n H' M' L' => ∃ (k116 : Nat) (zs387' : Nat), ∃ n379 : Int, k116 + zs387' = (shlV .i64 1 ((slc p1_from 0 ((min (p1_from.length : Int) 4 : Int).toNat)).length : Int) : Int).toNat ∧ zs387' = n ∧ forN (fun k s n => m_gridhallkeep4_OrderReach_b7 rules p1_from held k s n) (fun s => (m_gridhallkeep4_orderFact).bind fun r523 => some (r523 && (decide (r105.1 = s)))) zs387' k116 n379 = some r ∧ H.le H' ∧ M = M' ∧ [(0, v0), (1, v102), (2, v2), (7, .int .i64 (r105.1)), (9, .int .i64 (n379)), (36, .int .i64 (shlV .i64 1 ((slc p1_from 0 ((min (p1_from.length : Int) 4 : Int).toNat)).length : Int))), (37, .int .i64 ((k116 : Int)))] = L') _ ⟨0, _, 0, Nat.zero_add _, rfl, hm, (Hp.le_refl _), rfl, rfl⟩ ?_
    rintro _ H380 _ _ ⟨k116, zs387', n379, hd389, rfl, hm, hle381, rfl, rfl⟩
    refine C_seq ?_
    refine C_region ?_
    refine W_bin rfl rfl rfl rfl rfl ?_
    refine W_end (E_then ?_)
    refine C_seq ?_
    refine C_cond (b := decide ((k116 : Int) < (shlV .i64 1 ((slc p1_from 0 ((min (p1_from.length : Int) 4 : Int).toNat)).length : Int)))) rfl (fun hb391 => ?_) (fun hb391 => ?_)
    · obtain ⟨zs387, rfl, hd390, hy388⟩ := rngN_t hd389 hb391
      have hm : m_gridhallkeep4_OrderReach_b7 rules p1_from held k116 n379 (forN (fun k s n => m_gridhallkeep4_OrderReach_b7 rules p1_from held k s n) (fun s => (m_gridhallkeep4_orderFact).bind fun r523 => some (r523 && (decide (r105.1 = s)))) zs387 (k116 + 1)) = some r := hm
      generalize hn383 : forN (fun k s n => m_gridhallkeep4_OrderReach_b7 rules p1_from held k s n) (fun s => (m_gridhallkeep4_orderFact).bind fun r523 => some (r523 && (decide (r105.1 = s)))) zs387 (k116 + 1) = nx382 at hm
      unfold m_gridhallkeep4_OrderReach_b7 at hm
      refine C_skip (E_then ?_)
      refine C_seq_join (fun H' M' L' => ∃ n454 : Int, m_gridhallkeep4_OrderReach_b9 nx382 n454 = some r ∧ H380.le H' ∧ M = M' ∧ [(0, v0), (1, v102), (2, v2), (7, .int .i64 (r105.1)), (9, .int .i64 (n454)), (36, .int .i64 (shlV .i64 1 ((slc p1_from 0 ((min (p1_from.length : Int) 4 : Int).toNat)).length : Int))), (37, .int .i64 ((k116 : Int)))] = L') ?_ (fun J457 => ?_)
      · rintro H455 _ _ ⟨n454, hm, hle456, rfl, rfl⟩
        unfold m_gridhallkeep4_OrderReach_b9 at hm
        refine C_region ?_
        refine W_bin rfl rfl rfl rfl rfl ?_
        refine W_move rfl rfl rfl ?_
        refine W_end ?_
        exact E_keepJ (E_back (Nat.lt_succ_self _) ⟨k116 + 1, zs387, n454, hd390, rfl, (by rw [hn383]; exact hm), (Hp.le_trans hle381 hle456), rfl, rfl⟩) (List.Perm.refl _) ⟨rfl, rfl, rfl, rfl, rfl, rfl, (congrArg (fun z => some (Value.int .i64 z)) (i64_succN hy388 (toNat_max hq385))), trivial⟩
      · refine C_block ?_
        refine C_seq ?_
        refine C_region ?_
        refine W_move rfl rfl rfl ?_
        refine W_assign rfl rfl rfl ?_
        refine W_end ?_
        refine E_then ?_
        refine C_seq ?_
        refine C_region ?_
        refine W_move rfl rfl rfl ?_
        obtain ⟨hz458, hm⟩ := need_some hm
        refine W_call Proofs.Try.call14 rfl rfl rfl (fun w ht => by have h := clone14_c (s := slc p1_from 0 ((min (p1_from.length : Int) 4 : Int).toNat)) (h103.mono hle381) hz458 ht; exact h) ?_
        rintro _ _ _ ⟨rfl, v459, xs460, rfl, rfl, hr461⟩
        have hr461 := hr461 H380
        refine W_assign rfl rfl rfl ?_
        refine W_end ?_
        refine E_then ?_
        refine C_seq ?_
        refine C_seq ?_
        refine C_region ?_
        refine W_move rfl rfl rfl ?_
        refine W_lenO (List.mem_cons_self ..) rfl rfl Proofs.Try.runUnderlying23 rfl ?_
        refine W_move rfl rfl rfl ?_
        refine W_end ?_
        refine E_then ?_
        refine C_block ?_
        refine C_rowMax (List.mem_cons_self ..) (fun hmx498 => ?_)
        refine C_keep (L' := [(0, v0), (1, v102), (2, v2), (7, .int .i64 (r105.1)), (9, .int .i64 (n379)), (10, .int .i64 ((k116 : Int))), (11, v459), (36, .int .i64 (shlV .i64 1 ((slc p1_from 0 ((min (p1_from.length : Int) 4 : Int).toNat)).length : Int))), (37, .int .i64 ((k116 : Int))), (43, .int .i64 (((slc p1_from 0 ((min (p1_from.length : Int) 4 : Int).toNat)).length : Int))), (44, .int .i64 (((0 : Nat) : Int)))]) ⟨rfl, rfl, rfl, rfl, rfl, rfl, rfl, rfl, rfl, rfl, rfl, trivial⟩ (List.Perm.refl _) ?_
        refine C_loop (fun n H' M' L' => ∃ (k462 : Nat) (zs500' : Nat), ∃ l491 : List S_api_InterlockState, ∃ xs490 : List Value, k462 + zs500' = (((slc p1_from 0 ((min (p1_from.length : Int) 4 : Int).toNat)).length : Int) : Int).toNat ∧ zs500' = n ∧ forN (fun k s n => m_gridhallkeep4_OrderReach_b10 k116 k s n) (fun s => (m_order_Plan rules (slc p1_from 0 ((min (p1_from.length : Int) 4 : Int).toNat)) s held).bind fun r514 => if decide (r514.2 = 0) then (m_gridhallkeep4_OrderReach_b9 nx382 (IntKind.i64.wrap (n379 + 1))) else (m_gridhallkeep4_OrderReach_b9 nx382 n379)) zs500' k462 l491 = some r ∧ Rw H' v459 xs490 l491 ∧ H380.le H' ∧ .row v459 33 (Rep.sz S_api_InterlockState) l491.length xs490 :: M = M' ∧ [(0, v0), (1, v102), (2, v2), (7, .int .i64 (r105.1)), (9, .int .i64 (n379)), (10, .int .i64 ((k116 : Int))), (11, v459), (36, .int .i64 (shlV .i64 1 ((slc p1_from 0 ((min (p1_from.length : Int) 4 : Int).toNat)).length : Int))), (37, .int .i64 ((k116 : Int))), (43, .int .i64 (((slc p1_from 0 ((min (p1_from.length : Int) 4 : Int).toNat)).length : Int))), (44, .int .i64 ((k462 : Int)))] = L') _ ⟨0, _, (slc p1_from 0 ((min (p1_from.length : Int) 4 : Int).toNat)), xs460, Nat.zero_add _, rfl, hm, hr461, (Hp.le_refl _), rfl, rfl⟩ ?_
        rintro _ H493 _ _ ⟨k462, zs500', l491, xs490, hd502, rfl, hm, hr492, hle494, rfl, rfl⟩
        refine C_seq ?_
        refine C_region ?_
        refine W_bin rfl rfl rfl rfl rfl ?_
        refine W_end (E_then ?_)
        refine C_seq ?_
        refine C_cond (b := decide ((k462 : Int) < ((slc p1_from 0 ((min (p1_from.length : Int) 4 : Int).toNat)).length : Int))) rfl (fun hb504 => ?_) (fun hb504 => ?_)
        · obtain ⟨zs500, rfl, hd503, hy501⟩ := rngN_t hd502 hb504
          have hm : m_gridhallkeep4_OrderReach_b10 k116 k462 l491 (forN (fun k s n => m_gridhallkeep4_OrderReach_b10 k116 k s n) (fun s => (m_order_Plan rules (slc p1_from 0 ((min (p1_from.length : Int) 4 : Int).toNat)) s held).bind fun r514 => if decide (r514.2 = 0) then (m_gridhallkeep4_OrderReach_b9 nx382 (IntKind.i64.wrap (n379 + 1))) else (m_gridhallkeep4_OrderReach_b9 nx382 n379)) zs500 (k462 + 1)) = some r := hm
          generalize hn496 : forN (fun k s n => m_gridhallkeep4_OrderReach_b10 k116 k s n) (fun s => (m_order_Plan rules (slc p1_from 0 ((min (p1_from.length : Int) 4 : Int).toNat)) s held).bind fun r514 => if decide (r514.2 = 0) then (m_gridhallkeep4_OrderReach_b9 nx382 (IntKind.i64.wrap (n379 + 1))) else (m_gridhallkeep4_OrderReach_b9 nx382 n379)) zs500 (k462 + 1) = nx495 at hm
          unfold m_gridhallkeep4_OrderReach_b10 at hm
          refine C_skip (E_then ?_)
          refine C_seq ?_
          refine C_block ?_
          refine C_seq ?_
          refine C_region ?_
          refine W_move rfl rfl rfl ?_
          refine W_assign rfl rfl rfl ?_
          refine W_end ?_
          refine E_then ?_
          refine C_region ?_
          refine W_move rfl rfl rfl ?_
          refine W_move rfl rfl rfl ?_
          refine W_move rfl rfl rfl ?_
          refine W_move rfl rfl rfl ?_
          obtain ⟨hq505, hm⟩ := need_some hm
          refine W_shr rfl rfl rfl rfl hq505 ?_
          refine W_bin rfl rfl rfl rfl rfl ?_
          refine W_bin rfl rfl rfl rfl rfl ?_
          obtain ⟨y506, h507, he508, hm⟩ := idx_some hm
          refine W_indexO (List.mem_cons_self ..) rfl rfl Proofs.Try.runUnderlying23 Proofs.Try.sizeOf33 rfl rfl h507 (List.getElem?_eq_some_iff.1 he508).1 ?_
          obtain ⟨_, rfl, hg509⟩ := (hr492).elem he508
          refine W_field (o := 1) rfl rfl Proofs.Try.runUnderlying33 rfl Proofs.Try.sizeOf4 rfl rfl rfl ?_
          obtain ⟨hr510, he511, hg512⟩ := Rw.put (cs := [.bool (decide ((IntKind.i64.wrap ((BitVec.ofInt (IntKind.i64).bits (shrV .i64 (k116 : Int) (k462 : Int)) &&& BitVec.ofInt (IntKind.i64).bits 1).toNat)) = 1))]) (o := 1) (c := [.string (y506.Name), .bool (y506.Closed)]) (out := [.string (y506.Name), .bool (decide ((IntKind.i64.wrap ((BitVec.ofInt (IntKind.i64).bits (shrV .i64 (k116 : Int) (k462 : Int)) &&& BitVec.ofInt (IntKind.i64).bits 1).toNat)) = 1))]) (e2 := (S_api_InterlockState.mk y506.Name (decide ((IntKind.i64.wrap ((BitVec.ofInt (IntKind.i64).bits (shrV .i64 (k116 : Int) (k462 : Int)) &&& BitVec.ofInt (IntKind.i64).bits 1).toNat)) = 1)))) hr492 he508 rfl hg509 rfl rfl rfl
          refine W_storeO2 (i := ((k462 : Int) : Int).toNat * Rep.sz S_api_InterlockState + 1) (cs := [.bool (decide ((IntKind.i64.wrap ((BitVec.ofInt (IntKind.i64).bits (shrV .i64 (k116 : Int) (k462 : Int)) &&& BitVec.ofInt (IntKind.i64).bits 1).toNat)) = 1))]) rfl Proofs.Try.sizeOf4 rfl (row_ad _ _ _) rfl rfl rfl (Rw.room hr492 he508 rfl) rfl (all_cons rfl all_nil) (n' := (l491.set (((k462 : Int) : Int).toNat) (S_api_InterlockState.mk y506.Name (decide ((IntKind.i64.wrap ((BitVec.ofInt (IntKind.i64).bits (shrV .i64 (k116 : Int) (k462 : Int)) &&& BitVec.ofInt (IntKind.i64).bits 1).toNat)) = 1)))).length) List.length_set ?_
          generalize over xs490 (((k462 : Int) : Int).toNat * Rep.sz S_api_InterlockState + 1) [.bool (decide ((IntKind.i64.wrap ((BitVec.ofInt (IntKind.i64).bits (shrV .i64 (k116 : Int) (k462 : Int)) &&& BitVec.ofInt (IntKind.i64).bits 1).toNat)) = 1))] = xs513 at hr510 hg512 ⊢
          refine W_end ?_
          refine E_normal_block ?_
          refine E_then ?_
          refine C_region ?_
          refine W_bin rfl rfl rfl rfl rfl ?_
          refine W_move rfl rfl rfl ?_
          refine W_end ?_
          exact E_keepJ (E_back (Nat.lt_succ_self _) ⟨k462 + 1, zs500, (l491.set (((k462 : Int) : Int).toNat) (S_api_InterlockState.mk y506.Name (decide ((IntKind.i64.wrap ((BitVec.ofInt (IntKind.i64).bits (shrV .i64 (k116 : Int) (k462 : Int)) &&& BitVec.ofInt (IntKind.i64).bits 1).toNat)) = 1)))), xs513, hd503, rfl, (by rw [hn496]; exact hm), hr510, hle494, rfl, rfl⟩) (List.Perm.refl _) ⟨rfl, rfl, rfl, rfl, rfl, rfl, rfl, rfl, rfl, rfl, (congrArg (fun z => some (Value.int .i64 z)) (i64_succN hy501 (toNat_max (len_max hmx498)))), trivial⟩
        · obtain rfl := rngN_f hd502 hb504
          have hm : ((m_order_Plan rules (slc p1_from 0 ((min (p1_from.length : Int) 4 : Int).toNat)) l491 held).bind fun r514 => if decide (r514.2 = 0) then (m_gridhallkeep4_OrderReach_b9 nx382 (IntKind.i64.wrap (n379 + 1))) else (m_gridhallkeep4_OrderReach_b9 nx382 n379)) = some r := hm
          refine C_exit (E_exit_then ?_)
          refine E_exit_then ?_
          refine E_exit_hit ?_
          refine E_then ?_
          refine C_seq ?_
          refine C_region ?_
          refine W_move rfl rfl rfl ?_
          refine W_move rfl rfl rfl ?_
          refine W_move rfl rfl rfl ?_
          refine W_move rfl rfl rfl ?_
          obtain ⟨r514, hc515, hm⟩ := bind_some hm
          refine W_call Proofs.Try.call8 rfl rfl rfl (fun w ht => by obtain ⟨H0_, hl0_, ht0_, hr0_, bk0_⟩ := ht.lendRow hr492 rfl; have h := m_order_Plan_c (hm := hc515) (((h0.mono hle381).mono hle494).mono hl0_) (((h103.mono hle381).mono hle494).mono hl0_) hr0_ (((h2.mono hle381).mono hle494).mono hl0_) ht0_; exact lend_back bk0_ (h)) ?_
          rintro _ _ _ ⟨rfl, ⟨_, rfl, v516, xs517, rfl, rfl, h518⟩⟩
          have h518 := h518 H493
          refine W_move rfl rfl rfl ?_
          refine W_extract rfl rfl rfl rfl ?_
          refine W_extract rfl rfl rfl rfl ?_
          refine W_assign rfl rfl rfl ?_
          refine W_assign rfl rfl rfl ?_
          refine W_end ?_
          refine E_then ?_
          refine C_seq ?_
          refine C_region ?_
          refine W_move rfl rfl rfl ?_
          refine W_bin rfl rfl rfl rfl rfl ?_
          refine W_end ?_
          refine E_then ?_
          refine C_cond (b := decide (r514.2 = 0)) rfl (fun hb519 => ?_) (fun hb519 => ?_)
          · have hm := ite_t' hb519 hm
            refine C_region ?_
            refine W_move rfl rfl rfl ?_
            refine W_bin rfl rfl rfl rfl rfl ?_
            refine W_assign rfl rfl rfl ?_
            refine W_end ?_
            refine E_normal_block ?_
            refine E_drop (List.Sublist.cons _ (List.Sublist.cons _ (List.Sublist.refl _))) ?_
            exact E_keepJ (J457 _ _ _ ⟨IntKind.i64.wrap (n379 + 1), hm, hle494, rfl, rfl⟩) (List.Perm.refl _) ⟨rfl, rfl, rfl, rfl, rfl, rfl, rfl, trivial⟩
          · have hm := ite_f' hb519 hm
            refine C_skip ?_
            refine E_normal_block ?_
            refine E_drop (List.Sublist.cons _ (List.Sublist.cons _ (List.Sublist.refl _))) ?_
            exact E_keepJ (J457 _ _ _ ⟨n379, hm, hle494, rfl, rfl⟩) (List.Perm.refl _) ⟨rfl, rfl, rfl, rfl, rfl, rfl, rfl, trivial⟩
    · obtain rfl := rngN_f hd389 hb391
      have hm : ((m_gridhallkeep4_orderFact).bind fun r523 => some (r523 && (decide (r105.1 = n379)))) = some r := hm
      refine C_exit (E_exit_then ?_)
      refine E_exit_then ?_
      refine E_exit_hit ?_
      refine E_then ?_
      obtain ⟨r523, hc524, hm⟩ := bind_some hm
      refine C_seq_join (fun H' M' L' => H380 = H' ∧ M = M' ∧ [(6, .bool (r523 && (decide (r105.1 = n379))))] = L') ?_ (fun J525 => ?_)
      · rintro _ _ _ ⟨rfl, rfl, rfl⟩
        refine C_ret ?_
        obtain rfl := Option.some.inj hm
        refine E_weak hle381 ?_
        exact end1 rfl rfl ⟨rfl, rfl, rfl⟩
      · refine C_region ?_
        refine W_call Proofs.Try.call9 rfl rfl rfl (fun w ht => by have h := m_gridhallkeep4_orderFact_c (hm := hc524)  ht; exact h) ?_
        rintro _ _ _ ⟨rfl, rfl, rfl⟩
        refine W_move rfl rfl rfl ?_
        cases hb526 : (r523)
        · refine W_no rfl rfl rfl ?_
          refine W_no rfl rfl rfl ?_
          refine W_no rfl rfl rfl ?_
          refine W_pick rfl rfl rfl rfl ?_
          refine W_assign rfl rfl rfl ?_
          refine W_end ?_
          exact E_keepJ (J525 _ _ _ ⟨rfl, rfl, rfl⟩) (List.Perm.refl _) ⟨(by show some (Value.bool (false)) = some (Value.bool (r523 && (decide (r105.1 = n379)))); simp only [hb107, hb526, Bool.and_true, Bool.true_and, Bool.false_and, Bool.and_false, Bool.or_true, Bool.true_or, Bool.or_false, Bool.false_or, Bool.not_true, Bool.not_false]), trivial⟩
        · refine W_move rfl rfl rfl ?_
          refine W_move rfl rfl rfl ?_
          refine W_bin rfl rfl rfl rfl rfl ?_
          refine W_pick rfl rfl rfl rfl ?_
          refine W_assign rfl rfl rfl ?_
          refine W_end ?_
          exact E_keepJ (J525 _ _ _ ⟨rfl, rfl, rfl⟩) (List.Perm.refl _) ⟨(by show some (Value.bool (decide (r105.1 = n379))) = some (Value.bool (r523 && (decide (r105.1 = n379)))); simp only [hb107, hb526, Bool.and_true, Bool.true_and, Bool.false_and, Bool.and_false, Bool.or_true, Bool.true_or, Bool.or_false, Bool.false_or, Bool.not_true, Bool.not_false]), trivial⟩

theorem m_order_Verify_c {B : Nat} {w0 w : World} {H : Hp} {M : List Res} {rules : (List S_api_InterlockRule)} {p1_from : (List S_api_InterlockState)} {held : (List ByteArray)} {p3_l : (List S_api_OrderStep)} {v0 : Value} {v1 : Value} {v2 : Value} {v3 : Value} {r : (List S_api_InterlockState) × Int × Int} (hm : m_order_Verify rules p1_from held p3_l = some r) (h0 : RdS H v0 rules) (h1 : RdS H v1 p1_from) (h2 : RdS H v2 held) (h3 : RdS H v3 p3_l) (ht : St B w0 H (M) w) :
    Calls Proofs.Try.prog 16 [v0, v1, v2, v3].toArray w (Ret B w0 fun H' M' v => H = H' ∧ ∃ qv0 : Value, ∃ qxs0 : List Value, .row qv0 33 (Rep.sz S_api_InterlockState) r.1.length qxs0 :: M = M' ∧ .tuple #[qv0, .int .i64 (r.2.1), .int .i64 (r.2.2)] = v ∧ RwF qv0 qxs0 r.1) := by
  unfold m_order_Verify at hm
  refine enter Proofs.Try.func16 rfl rfl rfl ht ?_
  refine C_seq ?_
  refine C_region ?_
  refine W_assign rfl rfl rfl ?_
  refine W_assign rfl rfl rfl ?_
  refine W_assign rfl rfl rfl ?_
  refine W_end ?_
  refine E_then ?_
  refine C_seq ?_
  refine C_seq ?_
  refine C_region ?_
  refine W_move rfl rfl rfl ?_
  obtain ⟨r101, hc102, hm⟩ := bind_some hm
  refine W_call Proofs.Try.call24 rfl rfl rfl (fun w ht => by have h := m_interlock_Check_c (hm := hc102) h0 ht; exact h) ?_
  rintro _ _ _ ⟨rfl, rfl, rfl⟩
  refine W_assign rfl rfl rfl ?_
  refine W_end ?_
  refine E_then ?_
  refine C_seq ?_
  refine C_region ?_
  refine W_move rfl rfl rfl ?_
  refine W_bin rfl rfl rfl rfl rfl ?_
  refine W_end ?_
  refine E_then ?_
  refine C_cond (b := !decide (r101 = 0)) rfl (fun hb103 => ?_) (fun hb103 => ?_)
  · have hm := ite_t' hb103 hm
    refine C_seq ?_
    refine C_region ?_
    refine W_move rfl rfl rfl ?_
    refine W_assign rfl rfl rfl ?_
    refine W_assign rfl rfl rfl ?_
    refine W_assign rfl rfl rfl ?_
    refine W_end ?_
    refine E_then ?_
    refine C_ret ?_
    refine E_ret_then ?_
    refine E_nilRow 33 (Rep.sz S_api_InterlockState) ?_
    obtain rfl := Option.some.inj hm
    refine E_weak (Hp.le_refl _) ?_
    exact end3 rfl rfl rfl rfl ⟨rfl, (.slice none 0 0), [], rfl, rfl, (Rw.nil (H := H)).toF⟩
  · have hm := ite_f' hb103 hm
    refine C_skip ?_
    refine E_then ?_
    refine C_seq ?_
    refine C_seq ?_
    refine C_region ?_
    refine W_move rfl rfl rfl ?_
    obtain ⟨r104, hc105, hm⟩ := bind_some hm
    refine W_call Proofs.Try.call25 rfl rfl rfl (fun w ht => by have h := m_interlock_CheckStates_c (hm := hc105) h1 ht; exact h) ?_
    rintro _ _ _ ⟨rfl, rfl, rfl⟩
    refine W_assign rfl rfl rfl ?_
    refine W_end ?_
    refine E_then ?_
    refine C_seq ?_
    refine C_region ?_
    refine W_move rfl rfl rfl ?_
    refine W_bin rfl rfl rfl rfl rfl ?_
    refine W_end ?_
    refine E_then ?_
    refine C_cond (b := !decide (r104 = 0)) rfl (fun hb106 => ?_) (fun hb106 => ?_)
    · have hm := ite_t' hb106 hm
      refine C_seq ?_
      refine C_region ?_
      refine W_move rfl rfl rfl ?_
      refine W_assign rfl rfl rfl ?_
      refine W_assign rfl rfl rfl ?_
      refine W_assign rfl rfl rfl ?_
      refine W_end ?_
      refine E_then ?_
      refine C_ret ?_
      refine E_ret_then ?_
      refine E_nilRow 33 (Rep.sz S_api_InterlockState) ?_
      obtain rfl := Option.some.inj hm
      refine E_weak (Hp.le_refl _) ?_
      exact end3 rfl rfl rfl rfl ⟨rfl, (.slice none 0 0), [], rfl, rfl, (Rw.nil (H := H)).toF⟩
    · have hm := ite_f' hb106 hm
      refine C_skip ?_
      refine E_then ?_
      refine C_seq ?_
      refine C_seq_join (fun H' M' L' => H = H' ∧ M = M' ∧ [(0, v0), (1, v1), (2, v2), (3, v3), (37, .bool ((decide (256 < (p3_l.length : Int))) || (decide (256 < (held.length : Int)))))] = L') ?_ (fun J108 => ?_)
      · rintro _ _ _ ⟨rfl, rfl, rfl⟩
        refine C_cond (b := (decide (256 < (p3_l.length : Int))) || (decide (256 < (held.length : Int)))) rfl (fun hb109 => ?_) (fun hb109 => ?_)
        · have hm := ite_t' hb109 hm
          refine C_seq ?_
          refine C_region ?_
          refine W_assign rfl rfl rfl ?_
          refine W_assign rfl rfl rfl ?_
          refine W_assign rfl rfl rfl ?_
          refine W_end ?_
          refine E_then ?_
          refine C_ret ?_
          refine E_ret_then ?_
          refine E_nilRow 33 (Rep.sz S_api_InterlockState) ?_
          obtain rfl := Option.some.inj hm
          refine E_weak (Hp.le_refl _) ?_
          exact end3 rfl rfl rfl rfl ⟨rfl, (.slice none 0 0), [], rfl, rfl, (Rw.nil (H := H)).toF⟩
        · have hm := ite_f' hb109 hm
          refine C_skip ?_
          refine E_then ?_
          refine C_seq ?_
          refine C_region ?_
          refine W_move rfl rfl rfl ?_
          obtain ⟨hz110, hm⟩ := need_some hm
          refine W_call Proofs.Try.call14 rfl rfl rfl (fun w ht => by have h := clone14_c (s := p1_from) h1 hz110 ht; exact h) ?_
          rintro _ _ _ ⟨rfl, v111, xs112, rfl, rfl, hr113⟩
          have hr113 := hr113 H
          refine W_assign rfl rfl rfl ?_
          refine W_end ?_
          refine E_then ?_
          refine C_seq ?_
          refine C_seq ?_
          refine C_region ?_
          refine W_move rfl rfl rfl ?_
          refine W_lenR rfl rfl Proofs.Try.runUnderlying25 rfl h3 ?_
          refine W_move rfl rfl rfl ?_
          refine W_end ?_
          refine E_then ?_
          refine C_block ?_
          refine C_keep (L' := [(0, v0), (2, v2), (13, v111), (40, v3), (41, .int .i64 ((p3_l.length : Int))), (42, .int .i64 (((0 : Nat) : Int)))]) ⟨rfl, rfl, rfl, rfl, rfl, rfl, trivial⟩ (List.Perm.refl _) ?_
          refine C_loop (fun n H' M' L' => ∃ (k114 : Nat) (zs161' : List S_api_OrderStep), ∃ l153 : List S_api_InterlockState, ∃ v151 : Value, ∃ xs152 : List Value, (p3_l).drop k114 = zs161' ∧ zs161'.length = n ∧ forI (fun k y s n => m_order_Verify_b1 rules held k y s n) (fun s => some (s, 0, 0)) k114 zs161' l153 = some r ∧ Rw H' v151 xs152 l153 ∧ H.le H' ∧ .row v151 33 (Rep.sz S_api_InterlockState) l153.length xs152 :: M = M' ∧ [(0, v0), (2, v2), (13, v151), (40, v3), (41, .int .i64 ((p3_l.length : Int))), (42, .int .i64 ((k114 : Int)))] = L') _ ⟨0, _, p1_from, v111, xs112, rfl, rfl, hm, hr113, (Hp.le_refl _), rfl, rfl⟩ ?_
          rintro _ H155 _ _ ⟨k114, zs161', l153, v151, xs152, hd163, rfl, hm, hr154, hle156, rfl, rfl⟩
          refine C_seq ?_
          refine C_region ?_
          refine W_bin rfl rfl rfl rfl rfl ?_
          refine W_end (E_then ?_)
          refine C_seq ?_
          refine C_cond (b := decide ((k114 : Int) < (p3_l.length : Int))) rfl (fun hb165 => ?_) (fun hb165 => ?_)
          · obtain ⟨y160, zs161, rfl, hy162, hd164⟩ := rng_t hd163 hb165
            have hm : m_order_Verify_b1 rules held k114 y160 l153 (forI (fun k y s n => m_order_Verify_b1 rules held k y s n) (fun s => some (s, 0, 0)) (k114 + 1) zs161) = some r := hm
            generalize hn158 : forI (fun k y s n => m_order_Verify_b1 rules held k y s n) (fun s => some (s, 0, 0)) (k114 + 1) zs161 = nx157 at hm
            unfold m_order_Verify_b1 at hm
            refine C_skip (E_then ?_)
            refine C_seq ?_
            refine C_block ?_
            refine C_seq ?_
            refine C_region ?_
            refine W_move rfl rfl rfl ?_
            obtain ⟨_, ⟨rfl⟩, hc166⟩ := (h3).elem hy162
            refine W_indexS rfl rfl Proofs.Try.runUnderlying25 Proofs.Try.sizeOf36 rfl (h3.mono hle156) rfl (Int.natCast_nonneg _) hy162 ?_
            refine W_loadAgg rfl rfl Proofs.Try.isAgg36 Proofs.Try.sizeOf36 rfl (hc166.mono hle156).at rfl ?_
            refine W_alloc (cs := [.bool (false), .string (⟨#[]⟩)]) rfl rfl Proofs.Try.zeroValue36 rfl (fun b167 => ?_)
            refine W_assign rfl rfl rfl ?_
            refine W_store (cs := [.bool (y160.Close), .string (y160.Switch)]) (out := [.bool (y160.Close), .string (y160.Switch)]) rfl Proofs.Try.sizeOf36 rfl rfl rfl rfl rfl (all_cons rfl (all_cons rfl all_nil)) (over_all rfl) ?_
            refine W_end ?_
            refine E_then ?_
            refine C_seq ?_
            refine C_region ?_
            refine W_move rfl rfl rfl ?_
            refine W_field (o := 0) rfl rfl Proofs.Try.runUnderlying36 rfl Proofs.Try.sizeOf4 rfl rfl rfl ?_
            refine W_load rfl rfl Proofs.Try.isAgg4 rfl (own_at (List.mem_cons_self ..) rfl) ?_
            refine W_field (o := 1) rfl rfl Proofs.Try.runUnderlying36 rfl Proofs.Try.sizeOf9 rfl rfl rfl ?_
            refine W_load rfl rfl Proofs.Try.isAgg9 rfl (own_at (List.mem_cons_self ..) rfl) ?_
            refine W_perm (List.Perm.swap _ _ _) ?_
            obtain ⟨r168, hc169, hm⟩ := bind_some hm
            refine W_call Proofs.Try.call26 rfl rfl rfl (fun w ht => by obtain ⟨H0_, hl0_, ht0_, hr0_, bk0_⟩ := ht.lendRow hr154 rfl; have h := m_interlock_Set_c (hm := hc169) hr0_ ht0_; exact lend_back bk0_ (h)) ?_
            rintro _ _ _ ⟨rfl, ⟨_, rfl, v170, xs171, rfl, rfl, h172⟩⟩
            have h172 := h172 H155
            refine W_move rfl rfl rfl ?_
            refine W_extract rfl rfl rfl rfl ?_
            refine W_extract rfl rfl rfl rfl ?_
            refine W_assign rfl rfl rfl ?_
            refine W_assign rfl rfl rfl ?_
            refine W_end ?_
            refine E_then ?_
            refine C_seq ?_
            refine C_seq ?_
            refine C_region ?_
            refine W_move rfl rfl rfl ?_
            refine W_bin rfl rfl rfl rfl rfl ?_
            refine W_end ?_
            refine E_then ?_
            refine C_cond (b := !decide (r168.2 = 0)) rfl (fun hb173 => ?_) (fun hb173 => ?_)
            · have hm := ite_t' hb173 hm
              refine C_seq ?_
              refine C_region ?_
              refine W_move rfl rfl rfl ?_
              refine W_move rfl rfl rfl ?_
              refine W_assign rfl rfl rfl ?_
              refine W_assign rfl rfl rfl ?_
              refine W_assign rfl rfl rfl ?_
              refine W_end ?_
              refine E_then ?_
              refine C_ret ?_
              refine E_ret_then ?_
              refine E_ret_block ?_
              refine E_ret_then ?_
              refine E_ret_then ?_
              refine E_ret_block ?_
              refine E_ret_then ?_
              refine E_nilRow 33 (Rep.sz S_api_InterlockState) ?_
              obtain rfl := Option.some.inj hm
              refine E_drop (List.Sublist.cons_cons _ (List.Sublist.cons _ (List.Sublist.cons _ (List.Sublist.cons _ (List.Sublist.refl _))))) ?_
              refine E_weak hle156 ?_
              exact end3 rfl rfl rfl rfl ⟨rfl, (.slice none 0 0), [], rfl, rfl, (Rw.nil (H := H)).toF⟩
            · have hm := ite_f' hb173 hm
              refine C_skip ?_
              refine E_then ?_
              refine C_seq ?_
              refine C_seq ?_
              refine C_region ?_
              refine W_move rfl rfl rfl ?_
              refine W_field (o := 1) rfl rfl Proofs.Try.runUnderlying36 rfl Proofs.Try.sizeOf9 rfl rfl rfl ?_
              refine W_load rfl rfl Proofs.Try.isAgg9 rfl (own_at (List.mem_cons_of_mem _ (List.mem_cons_of_mem _ (List.mem_cons_self ..))) rfl) ?_
              obtain ⟨r174, hc175, hm⟩ := bind_some hm
              refine W_call Proofs.Try.call27 rfl rfl rfl (fun w ht => by have h := m_slices_Contains_string_string_c (hm := hc175) (h2.mono hle156) ht; exact h) ?_
              rintro _ _ _ ⟨rfl, rfl, rfl⟩
              refine W_end ?_
              refine E_then ?_
              refine C_cond (b := r174) rfl (fun hb176 => ?_) (fun hb176 => ?_)
              · have hm := ite_t' hb176 hm
                refine C_seq ?_
                refine C_region ?_
                refine W_move rfl rfl rfl ?_
                refine W_assign rfl rfl rfl ?_
                refine W_assign rfl rfl rfl ?_
                refine W_assign rfl rfl rfl ?_
                refine W_end ?_
                refine E_then ?_
                refine C_ret ?_
                refine E_ret_then ?_
                refine E_ret_block ?_
                refine E_ret_then ?_
                refine E_ret_then ?_
                refine E_ret_block ?_
                refine E_ret_then ?_
                refine E_nilRow 33 (Rep.sz S_api_InterlockState) ?_
                obtain rfl := Option.some.inj hm
                refine E_drop (List.Sublist.cons_cons _ (List.Sublist.cons _ (List.Sublist.cons _ (List.Sublist.cons _ (List.Sublist.refl _))))) ?_
                refine E_weak hle156 ?_
                exact end3 rfl rfl rfl rfl ⟨rfl, (.slice none 0 0), [], rfl, rfl, (Rw.nil (H := H)).toF⟩
              · have hm := ite_f' hb176 hm
                refine C_skip ?_
                refine E_then ?_
                refine C_seq ?_
                refine C_seq ?_
                refine C_region ?_
                refine W_move rfl rfl rfl ?_
                refine W_move rfl rfl rfl ?_
                refine W_field (o := 0) rfl rfl Proofs.Try.runUnderlying36 rfl Proofs.Try.sizeOf4 rfl rfl rfl ?_
                refine W_load rfl rfl Proofs.Try.isAgg4 rfl (own_at (List.mem_cons_of_mem _ (List.mem_cons_of_mem _ (List.mem_cons_self ..))) rfl) ?_
                refine W_field (o := 1) rfl rfl Proofs.Try.runUnderlying36 rfl Proofs.Try.sizeOf9 rfl rfl rfl ?_
                refine W_load rfl rfl Proofs.Try.isAgg9 rfl (own_at (List.mem_cons_of_mem _ (List.mem_cons_of_mem _ (List.mem_cons_self ..))) rfl) ?_
                obtain ⟨r177, hc178, hm⟩ := bind_some hm
                refine W_call Proofs.Try.call28 rfl rfl rfl (fun w ht => by obtain ⟨H0_, hl0_, ht0_, hr0_, bk0_⟩ := ht.lendRow hr154 rfl; have h := m_interlock_Permitted_c (hm := hc178) ((h0.mono hle156).mono hl0_) hr0_ ht0_; exact lend_back bk0_ (h)) ?_
                rintro _ _ _ ⟨rfl, ⟨_, rfl, rfl, rfl⟩⟩
                refine W_move rfl rfl rfl ?_
                refine W_extract rfl rfl rfl rfl ?_
                refine W_extract rfl rfl rfl rfl ?_
                refine W_assign rfl rfl rfl ?_
                refine W_assign rfl rfl rfl ?_
                refine W_end ?_
                refine E_then ?_
                refine C_seq ?_
                refine C_region ?_
                refine W_move rfl rfl rfl ?_
                refine W_un rfl rfl rfl rfl ?_
                refine W_end ?_
                refine E_then ?_
                refine C_cond (b := !r177.1) rfl (fun hb179 => ?_) (fun hb179 => ?_)
                · have hm := ite_t' hb179 hm
                  refine C_seq ?_
                  refine C_region ?_
                  refine W_move rfl rfl rfl ?_
                  refine W_assign rfl rfl rfl ?_
                  refine W_assign rfl rfl rfl ?_
                  refine W_assign rfl rfl rfl ?_
                  refine W_end ?_
                  refine E_then ?_
                  refine C_ret ?_
                  refine E_ret_then ?_
                  refine E_ret_block ?_
                  refine E_ret_then ?_
                  refine E_ret_then ?_
                  refine E_ret_block ?_
                  refine E_ret_then ?_
                  refine E_nilRow 33 (Rep.sz S_api_InterlockState) ?_
                  obtain rfl := Option.some.inj hm
                  refine E_drop (List.Sublist.cons_cons _ (List.Sublist.cons _ (List.Sublist.cons _ (List.Sublist.cons _ (List.Sublist.refl _))))) ?_
                  refine E_weak hle156 ?_
                  exact end3 rfl rfl rfl rfl ⟨rfl, (.slice none 0 0), [], rfl, rfl, (Rw.nil (H := H)).toF⟩
                · have hm := ite_f' hb179 hm
                  refine C_skip ?_
                  refine E_then ?_
                  refine C_region ?_
                  refine W_move rfl rfl rfl ?_
                  refine W_assign rfl rfl rfl ?_
                  refine W_end ?_
                  refine E_normal_block ?_
                  refine E_then ?_
                  refine C_region ?_
                  refine W_bin rfl rfl rfl rfl rfl ?_
                  refine W_move rfl rfl rfl ?_
                  refine W_end ?_
                  refine E_drop (List.Sublist.cons _ (List.Sublist.cons_cons _ (List.Sublist.cons _ (List.Sublist.refl _)))) ?_
                  exact E_keepJ (E_back (Nat.lt_succ_self _) ⟨k114 + 1, zs161, r168.1, v170, xs171, hd164, rfl, (by rw [hn158]; exact hm), h172, hle156, rfl, rfl⟩) (List.Perm.refl _) ⟨rfl, rfl, rfl, rfl, rfl, (congrArg (fun z => some (Value.int .i64 z)) (i64_succ hy162 ((h3.mono hle156)).lenMax)), trivial⟩
          · obtain rfl := rng_f hd163 hb165
            have hm : (some (l153, 0, 0)) = some r := hm
            refine C_exit (E_exit_then ?_)
            refine E_exit_then ?_
            refine E_exit_hit ?_
            refine E_then ?_
            refine C_seq ?_
            refine C_region ?_
            refine W_move rfl rfl rfl ?_
            refine W_assign rfl rfl rfl ?_
            refine W_assign rfl rfl rfl ?_
            refine W_assign rfl rfl rfl ?_
            refine W_end ?_
            refine E_then ?_
            refine C_ret ?_
            obtain rfl := Option.some.inj hm
            refine E_weak hle156 ?_
            exact end3 rfl rfl rfl rfl ⟨rfl, v151, xs152, rfl, rfl, (hr154).toF⟩
      · refine C_region ?_
        refine W_move rfl rfl rfl ?_
        refine W_lenR rfl rfl Proofs.Try.runUnderlying25 rfl h3 ?_
        refine W_bin rfl rfl rfl rfl rfl ?_
        refine W_move rfl rfl rfl ?_
        cases hb180 : (decide (256 < (p3_l.length : Int)))
        · refine W_move rfl rfl rfl ?_
          refine W_lenR rfl rfl Proofs.Try.runUnderlying24 rfl h2 ?_
          refine W_bin rfl rfl rfl rfl rfl ?_
          refine W_pick rfl rfl rfl rfl ?_
          refine W_end ?_
          exact E_keepJ (J108 _ _ _ ⟨rfl, rfl, rfl⟩) (List.Perm.refl _) ⟨rfl, rfl, rfl, rfl, (by show some (Value.bool (decide (256 < (held.length : Int)))) = some (Value.bool ((decide (256 < (p3_l.length : Int))) || (decide (256 < (held.length : Int))))); simp only [hb103, hb106, hb180, Bool.and_true, Bool.true_and, Bool.false_and, Bool.and_false, Bool.or_true, Bool.true_or, Bool.or_false, Bool.false_or, Bool.not_true, Bool.not_false]), trivial⟩
        · refine W_no rfl rfl rfl ?_
          refine W_no rfl rfl rfl ?_
          refine W_no rfl rfl rfl ?_
          refine W_pick rfl rfl rfl rfl ?_
          refine W_end ?_
          exact E_keepJ (J108 _ _ _ ⟨rfl, rfl, rfl⟩) (List.Perm.refl _) ⟨rfl, rfl, rfl, rfl, (by show some (Value.bool (true)) = some (Value.bool ((decide (256 < (p3_l.length : Int))) || (decide (256 < (held.length : Int))))); simp only [hb103, hb106, hb180, Bool.and_true, Bool.true_and, Bool.false_and, Bool.and_false, Bool.or_true, Bool.true_or, Bool.or_false, Bool.false_or, Bool.not_true, Bool.not_false]), trivial⟩

theorem m_slices_Equal_api_InterlockState_api_InterlockState_c {B : Nat} {w0 w : World} {H : Hp} {M : List Res} {p0_s1 : (List S_api_InterlockState)} {p1_s2 : (List S_api_InterlockState)} {v0 : Value} {v1 : Value} {r : Bool} (hm : m_slices_Equal_api_InterlockState_api_InterlockState p0_s1 p1_s2 = some r) (h0 : RdS H v0 p0_s1) (h1 : RdS H v1 p1_s2) (ht : St B w0 H (M) w) :
    Calls Proofs.Try.prog 17 [v0, v1].toArray w (Ret B w0 fun H' M' v => H = H' ∧ M = M' ∧ .bool (r) = v) := by
  unfold m_slices_Equal_api_InterlockState_api_InterlockState at hm
  refine enter Proofs.Try.func17 rfl rfl rfl ht ?_
  refine C_seq ?_
  refine C_region ?_
  refine W_assign rfl rfl rfl ?_
  refine W_end ?_
  refine E_then ?_
  refine C_seq ?_
  refine C_seq ?_
  refine C_region ?_
  refine W_move rfl rfl rfl ?_
  refine W_lenR rfl rfl Proofs.Try.runUnderlying23 rfl h0 ?_
  refine W_move rfl rfl rfl ?_
  refine W_lenR rfl rfl Proofs.Try.runUnderlying23 rfl h1 ?_
  refine W_bin rfl rfl rfl rfl rfl ?_
  refine W_end ?_
  refine E_then ?_
  refine C_cond (b := !decide ((p0_s1.length : Int) = (p1_s2.length : Int))) rfl (fun hb101 => ?_) (fun hb101 => ?_)
  · have hm := ite_t' hb101 hm
    refine C_seq ?_
    refine C_region ?_
    refine W_assign rfl rfl rfl ?_
    refine W_end ?_
    refine E_then ?_
    refine C_ret ?_
    refine E_ret_then ?_
    obtain rfl := Option.some.inj hm
    refine E_weak (Hp.le_refl _) ?_
    exact end1 rfl rfl ⟨rfl, rfl, rfl⟩
  · have hm := ite_f' hb101 hm
    refine C_skip ?_
    refine E_then ?_
    refine C_seq ?_
    refine C_seq ?_
    refine C_region ?_
    refine W_move rfl rfl rfl ?_
    refine W_lenR rfl rfl Proofs.Try.runUnderlying23 rfl h0 ?_
    refine W_move rfl rfl rfl ?_
    refine W_end ?_
    refine E_then ?_
    refine C_block ?_
    refine C_keep (L' := [(0, v0), (1, v1), (12, .int .i64 ((p0_s1.length : Int))), (13, .int .i64 (((0 : Nat) : Int)))]) ⟨rfl, rfl, rfl, rfl, trivial⟩ (List.Perm.refl _) ?_
    refine C_loop (fun n H' M' L' => ∃ (k102 : Nat) (zs135' : Nat), k102 + zs135' = ((p0_s1.length : Int) : Int).toNat ∧ zs135' = n ∧ forN (fun k s n => m_slices_Equal_api_InterlockState_api_InterlockState_b1 p0_s1 p1_s2 k n) (fun _ => some true) zs135' k102 () = some r ∧ H.le H' ∧ M = M' ∧ [(0, v0), (1, v1), (12, .int .i64 ((p0_s1.length : Int))), (13, .int .i64 ((k102 : Int)))] = L') _ ⟨0, _, Nat.zero_add _, rfl, hm, (Hp.le_refl _), rfl, rfl⟩ ?_
    rintro _ H129 _ _ ⟨k102, zs135', hd137, rfl, hm, hle130, rfl, rfl⟩
    refine C_seq ?_
    refine C_region ?_
    refine W_bin rfl rfl rfl rfl rfl ?_
    refine W_end (E_then ?_)
    refine C_seq ?_
    refine C_cond (b := decide ((k102 : Int) < (p0_s1.length : Int))) rfl (fun hb139 => ?_) (fun hb139 => ?_)
    · obtain ⟨zs135, rfl, hd138, hy136⟩ := rngN_t hd137 hb139
      have hm : m_slices_Equal_api_InterlockState_api_InterlockState_b1 p0_s1 p1_s2 k102 (forN (fun k s n => m_slices_Equal_api_InterlockState_api_InterlockState_b1 p0_s1 p1_s2 k n) (fun _ => some true) zs135 (k102 + 1)) = some r := hm
      generalize hn132 : forN (fun k s n => m_slices_Equal_api_InterlockState_api_InterlockState_b1 p0_s1 p1_s2 k n) (fun _ => some true) zs135 (k102 + 1) = nx131 at hm
      unfold m_slices_Equal_api_InterlockState_api_InterlockState_b1 at hm
      refine C_skip (E_then ?_)
      refine C_seq ?_
      refine C_block ?_
      refine C_seq ?_
      refine C_region ?_
      refine W_move rfl rfl rfl ?_
      refine W_assign rfl rfl rfl ?_
      refine W_end ?_
      refine E_then ?_
      refine C_seq ?_
      obtain ⟨y140, h141, he142, hm⟩ := idx_some hm
      obtain ⟨_, ⟨rfl⟩, hc143⟩ := (h0).elem he142
      obtain ⟨y144, h145, he146, hm⟩ := idx_some hm
      obtain ⟨_, ⟨rfl⟩, hc147⟩ := (h1).elem he146
      refine C_region_tok0 8 (phiT [(fun H rs v => [] = rs ∧ v0 = v), (fun H rs v => [] = rs ∧ .int .i64 ((k102 : Int)) = v), (fun H rs v => [] = rs ∧ .pointer (some ((Value.base (v0)).add (((k102 : Int) : Int).toNat * 2))) = v), (fun H rs v => [] = rs ∧ .agg [.string (y140.Name), .bool (y140.Closed)].toArray = v), (fun H rs v => [] = rs ∧ v1 = v), (fun H rs v => [] = rs ∧ .int .i64 ((k102 : Int)) = v), (fun H rs v => [] = rs ∧ .pointer (some ((Value.base (v1)).add (((k102 : Int) : Int).toNat * 2))) = v), (fun H rs v => [] = rs ∧ .agg [.string (y144.Name), .bool (y144.Closed)].toArray = v)]) [[], [], [], [], [], [], [], []] [[], [], [], [], [], [], [], []] [] [0, 1, 2, 3, 4, 5, 6, 7] Facts.mixed (by kernel_rfl) rfl rfl rfl (by kernel_rfl) (phiT_mono ⟨eq_monoT _ _, eq_monoT _ _, eq_monoT _ _, eq_monoT _ _, eq_monoT _ _, eq_monoT _ _, eq_monoT _ _, eq_monoT _ _, trivial⟩) ⟨?_, ?_, ?_, ?_, ?_, ?_, ?_, ?_, trivial⟩ ?_
      · intro HX hX X Rest hR
        intro hU
        refine W_move rfl rfl rfl ?_
        exact W_end (OneT_end [] (Hp.le_refl _) ⟨rfl, rfl⟩)
      · intro HX hX X Rest hR
        intro hU
        refine W_move rfl rfl rfl ?_
        exact W_end (OneT_end [] (Hp.le_refl _) ⟨rfl, rfl⟩)
      · intro HX hX X Rest hR
        rintro _ _ ⟨rfl, rfl⟩
        rintro _ _ ⟨rfl, rfl⟩
        intro hU
        refine W_indexS rfl rfl Proofs.Try.runUnderlying23 Proofs.Try.sizeOf33 rfl ((h0.mono hle130).mono hX) rfl h141 he142 ?_
        exact W_end (OneT_end [] (Hp.le_refl _) ⟨rfl, rfl⟩)
      · intro HX hX X Rest hR
        rintro _ _ ⟨rfl, rfl⟩
        intro hU
        refine W_loadAgg rfl rfl Proofs.Try.isAgg33 Proofs.Try.sizeOf33 rfl ((hc143.mono hle130).mono hX).at rfl ?_
        exact W_end (OneT_end [] (Hp.le_refl _) ⟨rfl, rfl⟩)
      · intro HX hX X Rest hR
        intro hU
        refine W_move rfl rfl rfl ?_
        exact W_end (OneT_end [] (Hp.le_refl _) ⟨rfl, rfl⟩)
      · intro HX hX X Rest hR
        intro hU
        refine W_move rfl rfl rfl ?_
        exact W_end (OneT_end [] (Hp.le_refl _) ⟨rfl, rfl⟩)
      · intro HX hX X Rest hR
        rintro _ _ ⟨rfl, rfl⟩
        rintro _ _ ⟨rfl, rfl⟩
        intro hU
        refine W_indexS rfl rfl Proofs.Try.runUnderlying23 Proofs.Try.sizeOf33 rfl ((h1.mono hle130).mono hX) rfl h145 he146 ?_
        exact W_end (OneT_end [] (Hp.le_refl _) ⟨rfl, rfl⟩)
      · intro HX hX X Rest hR
        rintro _ _ ⟨rfl, rfl⟩
        intro hU
        refine W_loadAgg rfl rfl Proofs.Try.isAgg33 Proofs.Try.sizeOf33 rfl ((hc147.mono hle130).mono hX).at rfl ?_
        exact W_end (OneT_end [] (Hp.le_refl _) ⟨rfl, rfl⟩)
      intro H148 hle149
      rintro _ _ ⟨rfl, rfl⟩
      rintro _ _ ⟨rfl, rfl⟩
      rintro _ _ ⟨rfl, rfl⟩
      rintro _ _ ⟨rfl, rfl⟩
      rintro _ _ ⟨rfl, rfl⟩
      rintro _ _ ⟨rfl, rfl⟩
      rintro _ _ ⟨rfl, rfl⟩
      rintro _ _ ⟨rfl, rfl⟩
      refine W_neAgg (b := decide (y140.Name = y144.Name) && (decide (y140.Closed = y144.Closed) && true)) rfl rfl (by kernel_rfl) rfl rfl (fun w => run_equal_struct (bs := [decide (y140.Name = y144.Name), decide (y140.Closed = y144.Closed)]) Proofs.Try.runUnderlying33 (by kernel_rfl) ⟨(by decide), (fldEq_str Proofs.Try.isAgg9 Proofs.Try.runUnderlying9 rfl rfl), (by decide), (fldEq_bool Proofs.Try.isAgg4 Proofs.Try.runUnderlying4 rfl rfl), trivial⟩) ?_
      refine W_end ?_
      refine E_then ?_
      refine C_cond (b := !(decide (y140.Name = y144.Name) && (decide (y140.Closed = y144.Closed) && true))) rfl (fun hb150 => ?_) (fun hb150 => ?_)
      · have hm := ite_t' hb150 hm
        refine C_seq ?_
        refine C_region ?_
        refine W_assign rfl rfl rfl ?_
        refine W_end ?_
        refine E_then ?_
        refine C_ret ?_
        refine E_ret_block ?_
        refine E_ret_then ?_
        refine E_ret_then ?_
        refine E_ret_block ?_
        refine E_ret_then ?_
        obtain rfl := Option.some.inj hm
        refine E_weak (Hp.le_trans hle130 hle149) ?_
        exact end1 rfl rfl ⟨rfl, rfl, rfl⟩
      · have hm := ite_f' hb150 hm
        refine C_skip ?_
        refine E_normal_block ?_
        refine E_then ?_
        refine C_region ?_
        refine W_bin rfl rfl rfl rfl rfl ?_
        refine W_move rfl rfl rfl ?_
        refine W_end ?_
        exact E_keepJ (E_back (Nat.lt_succ_self _) ⟨k102 + 1, zs135, hd138, rfl, (by rw [hn132]; exact hm), (Hp.le_trans hle130 hle149), rfl, rfl⟩) (List.Perm.refl _) ⟨rfl, rfl, rfl, (congrArg (fun z => some (Value.int .i64 z)) (i64_succN hy136 (toNat_max (len_max (h0).lenMax)))), trivial⟩
    · obtain rfl := rngN_f hd137 hb139
      have hm : (some true) = some r := hm
      refine C_exit (E_exit_then ?_)
      refine E_exit_then ?_
      refine E_exit_hit ?_
      refine E_then ?_
      refine C_seq ?_
      refine C_region ?_
      refine W_assign rfl rfl rfl ?_
      refine W_end ?_
      refine E_then ?_
      refine C_ret ?_
      obtain rfl := Option.some.inj hm
      refine E_weak hle130 ?_
      exact end1 rfl rfl ⟨rfl, rfl, rfl⟩

theorem m_gridhallkeep4_OrderSafe_c {B : Nat} {w0 w : World} {H : Hp} {M : List Res} {rules : (List S_api_InterlockRule)} {p1_from : (List S_api_InterlockState)} {to : (List S_api_InterlockState)} {held : (List ByteArray)} {v0 : Value} {v1 : Value} {v2 : Value} {v3 : Value} {r : Bool} (hm : m_gridhallkeep4_OrderSafe rules p1_from to held = some r) (h0 : RdS H v0 rules) (h1 : RdS H v1 p1_from) (h2 : RdS H v2 to) (h3 : RdS H v3 held) (ht : St B w0 H (M) w) :
    Calls Proofs.Try.prog 7 [v0, v1, v2, v3].toArray w (Ret B w0 fun H' M' v => H = H' ∧ M = M' ∧ .bool (r) = v) := by
  unfold m_gridhallkeep4_OrderSafe at hm
  refine enter Proofs.Try.func7 rfl rfl rfl ht ?_
  refine C_seq ?_
  refine C_region ?_
  refine W_assign rfl rfl rfl ?_
  refine W_end ?_
  refine E_then ?_
  refine C_seq ?_
  obtain ⟨hz101, hm⟩ := need_some hm
  obtain ⟨hz105, hm⟩ := need_some hm
  refine C_region_tok 11 (phiT [(fun H rs v => [] = rs ∧ v1 = v), (fun H rs v => [] = rs ∧ v1 = v), (fun H rs v => [] = rs ∧ .int .i64 ((p1_from.length : Int)) = v), (fun H rs v => [] = rs ∧ .int .i64 (min (p1_from.length : Int) 6) = v), (fun H rs v => ∃ v109 : Value, [] = rs ∧ v109 = v ∧ RdS H v109 (slc p1_from 0 ((min (p1_from.length : Int) 6 : Int).toNat))), (fun H rs v => [] = rs ∧ v2 = v), (fun H rs v => [] = rs ∧ v2 = v), (fun H rs v => [] = rs ∧ .int .i64 ((to.length : Int)) = v), (fun H rs v => [] = rs ∧ .int .i64 (min (to.length : Int) 6) = v), (fun H rs v => ∃ v112 : Value, [] = rs ∧ v112 = v ∧ RdS H v112 (slc to 0 ((min (to.length : Int) 6 : Int).toNat))), (fun H rs v => ∃ v109 : Value, [] = rs ∧ v109 = v ∧ RdS H v109 (slc p1_from 0 ((min (p1_from.length : Int) 6 : Int).toNat)))]) [[], [], [], [], [], [], [], [], [], [], []] [[], [], [], [], [], [], [], [], [], [], []] [] [0, 1, 2, 3, 4, 5, 6, 7, 8, 9, 10] [(0, v0), (2, v2), (3, v3), (8, .bool (false))] [[(1, v1)], [(1, v1)], [], [], [], [], [], [], [], [], []] Facts.mixed (by kernel_rfl) rfl rfl (by kernel_rfl) (Kept.lk ⟨rfl, rfl, rfl, rfl, trivial⟩) ⟨⟨rfl, trivial⟩, ⟨rfl, trivial⟩, trivial, trivial, trivial, trivial, trivial, trivial, trivial, trivial, trivial, trivial⟩ rfl (by kernel_rfl) (phiT_mono ⟨eq_monoT _ _, eq_monoT _ _, eq_monoT _ _, eq_monoT _ _, (by rintro H1 H2 rs v hle ⟨v109, rfl, rfl, h110⟩; exact ⟨v109, rfl, rfl, (h110.mono hle)⟩), eq_monoT _ _, eq_monoT _ _, eq_monoT _ _, eq_monoT _ _, (by rintro H1 H2 rs v hle ⟨v112, rfl, rfl, h113⟩; exact ⟨v112, rfl, rfl, (h113.mono hle)⟩), (by rintro H1 H2 rs v hle ⟨v109, rfl, rfl, h110⟩; exact ⟨v109, rfl, rfl, (h110.mono hle)⟩), trivial⟩) ⟨?_, ?_, ?_, ?_, ?_, ?_, ?_, ?_, ?_, ?_, ?_, trivial⟩ ?_
  · intro HX hX X Rest hR
    intro hU
    refine W_move rfl rfl rfl ?_
    exact W_end (OneT_end [] (Hp.le_refl _) ⟨rfl, rfl⟩)
  · intro HX hX X Rest hR
    intro hU
    refine W_move rfl rfl rfl ?_
    exact W_end (OneT_end [] (Hp.le_refl _) ⟨rfl, rfl⟩)
  · intro HX hX X Rest hR
    rintro _ _ ⟨rfl, rfl⟩
    intro hU
    refine W_lenR rfl rfl Proofs.Try.runUnderlying23 rfl (h1.mono hX) ?_
    exact W_end (OneT_end [] (Hp.le_refl _) ⟨rfl, rfl⟩)
  · intro HX hX X Rest hR
    rintro _ _ ⟨rfl, rfl⟩
    intro hU
    refine W_min rfl rfl rfl rfl ?_
    exact W_end (OneT_end [] (Hp.le_refl _) ⟨rfl, rfl⟩)
  · intro HX hX X Rest hR
    rintro _ _ ⟨rfl, rfl⟩
    rintro _ _ ⟨rfl, rfl⟩
    intro hU
    refine W_sliceR (α := S_api_InterlockState) (l := 0) (h := (min (p1_from.length : Int) 6 : Int).toNat) (xs := p1_from) rfl rfl Proofs.Try.runUnderlying23 Proofs.Try.sizeOf33 rfl (h1.mono hX) (by omega) (by omega) (.inl rfl) (fun cap hcap => by rw [if_pos rfl]; exact (.inl ⟨rfl, rfl⟩)) (fun m hmm => (.inr ⟨_, _, _, rfl, rfl, by omega, by omega, rfl⟩)) (.inl ⟨rfl, rfl⟩) ?_
    intro v109 h110 hc111
    exact W_end (OneT_end [] (Hp.le_refl _) ⟨v109, rfl, rfl, (h110)⟩)
  · intro HX hX X Rest hR
    intro hU
    refine W_move rfl rfl rfl ?_
    exact W_end (OneT_end [] (Hp.le_refl _) ⟨rfl, rfl⟩)
  · intro HX hX X Rest hR
    intro hU
    refine W_move rfl rfl rfl ?_
    exact W_end (OneT_end [] (Hp.le_refl _) ⟨rfl, rfl⟩)
  · intro HX hX X Rest hR
    rintro _ _ ⟨rfl, rfl⟩
    intro hU
    refine W_lenR rfl rfl Proofs.Try.runUnderlying23 rfl (h2.mono hX) ?_
    exact W_end (OneT_end [] (Hp.le_refl _) ⟨rfl, rfl⟩)
  · intro HX hX X Rest hR
    rintro _ _ ⟨rfl, rfl⟩
    intro hU
    refine W_min rfl rfl rfl rfl ?_
    exact W_end (OneT_end [] (Hp.le_refl _) ⟨rfl, rfl⟩)
  · intro HX hX X Rest hR
    rintro _ _ ⟨rfl, rfl⟩
    rintro _ _ ⟨rfl, rfl⟩
    intro hU
    refine W_sliceR (α := S_api_InterlockState) (l := 0) (h := (min (to.length : Int) 6 : Int).toNat) (xs := to) rfl rfl Proofs.Try.runUnderlying23 Proofs.Try.sizeOf33 rfl (h2.mono hX) (by omega) (by omega) (.inl rfl) (fun cap hcap => by rw [if_pos rfl]; exact (.inl ⟨rfl, rfl⟩)) (fun m hmm => (.inr ⟨_, _, _, rfl, rfl, by omega, by omega, rfl⟩)) (.inl ⟨rfl, rfl⟩) ?_
    intro v112 h113 hc114
    exact W_end (OneT_end [] (Hp.le_refl _) ⟨v112, rfl, rfl, (h113)⟩)
  · intro HX hX X Rest hR
    rintro _ _ ⟨v109, rfl, rfl, h110⟩
    rintro _ _ ⟨rfl, rfl⟩
    rintro _ _ ⟨rfl, rfl⟩
    rintro _ _ ⟨rfl, rfl⟩
    rintro _ _ ⟨rfl, rfl⟩
    rintro _ _ ⟨v109, rfl, rfl, h110⟩
    intro hU
    refine W_assign rfl rfl rfl ?_
    exact W_end (OneT_end [] (Hp.le_refl _) ⟨v109, rfl, rfl, (h110)⟩)
  intro H115 hle116
  rintro _ _ ⟨rfl, rfl⟩
  rintro _ _ ⟨rfl, rfl⟩
  rintro _ _ ⟨rfl, rfl⟩
  rintro _ _ ⟨rfl, rfl⟩
  rintro _ _ ⟨v109, rfl, rfl, h110⟩
  rintro _ _ ⟨rfl, rfl⟩
  rintro _ _ ⟨rfl, rfl⟩
  rintro _ _ ⟨rfl, rfl⟩
  rintro _ _ ⟨rfl, rfl⟩
  rintro _ _ ⟨v112, rfl, rfl, h113⟩
  rintro _ _ ⟨v109, rfl, rfl, h110⟩
  refine W_assign rfl rfl rfl ?_
  refine W_end ?_
  refine E_then ?_
  refine C_seq ?_
  refine C_region ?_
  refine W_move rfl rfl rfl ?_
  refine W_move rfl rfl rfl ?_
  refine W_move rfl rfl rfl ?_
  refine W_move rfl rfl rfl ?_
  obtain ⟨r117, hc118, hm⟩ := bind_some hm
  refine W_call Proofs.Try.call8 rfl rfl rfl (fun w ht => by have h := m_order_Plan_c (hm := hc118) (h0.mono hle116) h110 h113 (h3.mono hle116) ht; exact h) ?_
  rintro _ _ _ ⟨rfl, v119, xs120, rfl, rfl, h121⟩
  have h121 := h121 H115
  refine W_move rfl rfl rfl ?_
  refine W_extract rfl rfl rfl rfl ?_
  refine W_extract rfl rfl rfl rfl ?_
  refine W_assign rfl rfl rfl ?_
  refine W_assign rfl rfl rfl ?_
  refine W_end ?_
  refine E_then ?_
  refine C_seq ?_
  refine C_seq ?_
  refine C_region ?_
  refine W_move rfl rfl rfl ?_
  refine W_bin rfl rfl rfl rfl rfl ?_
  refine W_end ?_
  refine E_then ?_
  refine C_cond (b := !decide (r117.2 = 0)) rfl (fun hb122 => ?_) (fun hb122 => ?_)
  · have hm := ite_t' hb122 hm
    obtain ⟨r126, hc127, hm⟩ := bind_some hm
    refine C_seq_join (fun H' M' L' => H115 = H' ∧ M = M' ∧ [(8, .bool (r126 && (decide ((r117.1.length : Int) = 0))))] = L') ?_ (fun J128 => ?_)
    · rintro _ _ _ ⟨rfl, rfl, rfl⟩
      refine C_ret ?_
      refine E_ret_then ?_
      obtain rfl := Option.some.inj hm
      refine E_weak hle116 ?_
      exact end1 rfl rfl ⟨rfl, rfl, rfl⟩
    · refine C_region ?_
      refine W_call Proofs.Try.call9 rfl rfl rfl (fun w ht => by have h := m_gridhallkeep4_orderFact_c (hm := hc127)  ht; exact h) ?_
      rintro _ _ _ ⟨rfl, rfl, rfl⟩
      refine W_move rfl rfl rfl ?_
      cases hb129 : (r126)
      · refine W_no rfl rfl rfl ?_
        refine W_no rfl rfl rfl ?_
        refine W_no rfl rfl rfl ?_
        refine W_pick rfl rfl rfl rfl ?_
        refine W_assign rfl rfl rfl ?_
        refine W_end ?_
        refine E_drop (List.Sublist.cons _ (List.Sublist.refl _)) ?_
        exact E_keepJ (J128 _ _ _ ⟨rfl, rfl, rfl⟩) (List.Perm.refl _) ⟨(by show some (Value.bool (false)) = some (Value.bool (r126 && (decide ((r117.1.length : Int) = 0)))); simp only [hb122, hb129, Bool.and_true, Bool.true_and, Bool.false_and, Bool.and_false, Bool.or_true, Bool.true_or, Bool.or_false, Bool.false_or, Bool.not_true, Bool.not_false]), trivial⟩
      · refine W_move rfl rfl rfl ?_
        refine W_lenO (List.mem_cons_self ..) rfl rfl Proofs.Try.runUnderlying25 rfl ?_
        refine W_bin rfl rfl rfl rfl rfl ?_
        refine W_pick rfl rfl rfl rfl ?_
        refine W_assign rfl rfl rfl ?_
        refine W_end ?_
        refine E_drop (List.Sublist.cons _ (List.Sublist.refl _)) ?_
        exact E_keepJ (J128 _ _ _ ⟨rfl, rfl, rfl⟩) (List.Perm.refl _) ⟨(by show some (Value.bool (decide ((r117.1.length : Int) = 0))) = some (Value.bool (r126 && (decide ((r117.1.length : Int) = 0)))); simp only [hb122, hb129, Bool.and_true, Bool.true_and, Bool.false_and, Bool.and_false, Bool.or_true, Bool.true_or, Bool.or_false, Bool.false_or, Bool.not_true, Bool.not_false]), trivial⟩
  · have hm := ite_f' hb122 hm
    refine C_skip ?_
    refine E_then ?_
    refine C_seq ?_
    refine C_region ?_
    refine W_move rfl rfl rfl ?_
    refine W_move rfl rfl rfl ?_
    refine W_move rfl rfl rfl ?_
    refine W_move rfl rfl rfl ?_
    obtain ⟨r130, hc131, hm⟩ := bind_some hm
    refine W_call Proofs.Try.call16 rfl rfl rfl (fun w ht => by obtain ⟨H0_, hl0_, ht0_, hr0_, bk0_⟩ := ht.lendRow h121 rfl; have h := m_order_Verify_c (hm := hc131) ((h0.mono hle116).mono hl0_) (h110.mono hl0_) ((h3.mono hle116).mono hl0_) hr0_ ht0_; exact lend_back bk0_ (h)) ?_
    rintro _ _ _ ⟨rfl, ⟨_, rfl, v132, xs133, rfl, rfl, h134⟩⟩
    have h134 := h134 H115
    refine W_move rfl rfl rfl ?_
    refine W_extract rfl rfl rfl rfl ?_
    refine W_extract rfl rfl rfl rfl ?_
    refine W_extract rfl rfl rfl rfl ?_
    refine W_assign rfl rfl rfl ?_
    refine W_assign rfl rfl rfl ?_
    refine W_assign rfl rfl rfl ?_
    refine W_end ?_
    refine E_then ?_
    refine C_seq ?_
    refine C_region ?_
    refine W_assign rfl rfl rfl ?_
    refine W_end ?_
    refine E_then ?_
    refine C_seq ?_
    refine C_seq ?_
    refine C_region ?_
    refine W_move rfl rfl rfl ?_
    refine W_lenR rfl rfl Proofs.Try.runUnderlying23 rfl h110 ?_
    refine W_move rfl rfl rfl ?_
    refine W_end ?_
    refine E_then ?_
    refine C_block ?_
    refine C_keep (L' := [(2, v112), (9, v119), (11, v132), (12, .int .i64 (r130.2.1)), (13, .int .i64 (r130.2.2)), (14, .int .i64 (0)), (52, v109), (53, .int .i64 (((slc p1_from 0 ((min (p1_from.length : Int) 6 : Int).toNat)).length : Int))), (54, .int .i64 (((0 : Nat) : Int)))]) ⟨rfl, rfl, rfl, rfl, rfl, rfl, rfl, rfl, rfl, trivial⟩ (List.Perm.refl _) ?_
    refine C_loop (fun n H' M' L' => ∃ (k135 : Nat) (zs205' : List S_api_InterlockState), ∃ n198 : Int, (slc p1_from 0 ((min (p1_from.length : Int) 6 : Int).toNat)).drop k135 = zs205' ∧ zs205'.length = n ∧ forI (fun k y s n => m_gridhallkeep4_OrderSafe_b3 to k y s n) (fun s => (m_gridhallkeep4_orderFact).bind fun r238 => if r238 then (if decide (r130.2.2 = 0) then (if decide (r130.2.1 = 0) then ((m_slices_Equal_api_InterlockState_api_InterlockState r130.1 (slc to 0 ((min (to.length : Int) 6 : Int).toNat))).bind fun r243 => if r243 then (if decide (s ≤ (r117.1.length : Int)) then (some (decide ((Int.tmod (IntKind.i64.wrap ((r117.1.length : Int) - s)) 2) = 0))) else (some false)) else (some false)) else (some false)) else (some false)) else (some false)) k135 zs205' n198 = some r ∧ H115.le H' ∧ .row v119 36 (Rep.sz S_api_OrderStep) r117.1.length xs120 :: .row v132 33 (Rep.sz S_api_InterlockState) r130.1.length xs133 :: M = M' ∧ [(2, v112), (9, v119), (11, v132), (12, .int .i64 (r130.2.1)), (13, .int .i64 (r130.2.2)), (14, .int .i64 (n198)), (52, v109), (53, .int .i64 (((slc p1_from 0 ((min (p1_from.length : Int) 6 : Int).toNat)).length : Int))), (54, .int .i64 ((k135 : Int)))] = L') _ ⟨0, _, 0, rfl, rfl, hm, (Hp.le_refl _), rfl, rfl⟩ ?_
    rintro _ H199 _ _ ⟨k135, zs205', n198, hd207, rfl, hm, hle200, rfl, rfl⟩
    refine C_seq ?_
    refine C_region ?_
    refine W_bin rfl rfl rfl rfl rfl ?_
    refine W_end (E_then ?_)
    refine C_seq ?_
    refine C_cond (b := decide ((k135 : Int) < ((slc p1_from 0 ((min (p1_from.length : Int) 6 : Int).toNat)).length : Int))) rfl (fun hb209 => ?_) (fun hb209 => ?_)
    · obtain ⟨y204, zs205, rfl, hy206, hd208⟩ := rng_t hd207 hb209
      have hm : m_gridhallkeep4_OrderSafe_b3 to k135 y204 n198 (forI (fun k y s n => m_gridhallkeep4_OrderSafe_b3 to k y s n) (fun s => (m_gridhallkeep4_orderFact).bind fun r238 => if r238 then (if decide (r130.2.2 = 0) then (if decide (r130.2.1 = 0) then ((m_slices_Equal_api_InterlockState_api_InterlockState r130.1 (slc to 0 ((min (to.length : Int) 6 : Int).toNat))).bind fun r243 => if r243 then (if decide (s ≤ (r117.1.length : Int)) then (some (decide ((Int.tmod (IntKind.i64.wrap ((r117.1.length : Int) - s)) 2) = 0))) else (some false)) else (some false)) else (some false)) else (some false)) else (some false)) (k135 + 1) zs205) = some r := hm
      generalize hn202 : forI (fun k y s n => m_gridhallkeep4_OrderSafe_b3 to k y s n) (fun s => (m_gridhallkeep4_orderFact).bind fun r238 => if r238 then (if decide (r130.2.2 = 0) then (if decide (r130.2.1 = 0) then ((m_slices_Equal_api_InterlockState_api_InterlockState r130.1 (slc to 0 ((min (to.length : Int) 6 : Int).toNat))).bind fun r243 => if r243 then (if decide (s ≤ (r117.1.length : Int)) then (some (decide ((Int.tmod (IntKind.i64.wrap ((r117.1.length : Int) - s)) 2) = 0))) else (some false)) else (some false)) else (some false)) else (some false)) else (some false)) (k135 + 1) zs205 = nx201 at hm
      unfold m_gridhallkeep4_OrderSafe_b3 at hm
      refine C_skip (E_then ?_)
      refine C_seq_join (fun H' M' L' => ∃ n222 : Int, m_gridhallkeep4_OrderSafe_b4 nx201 n222 = some r ∧ H199.le H' ∧ .row v119 36 (Rep.sz S_api_OrderStep) r117.1.length xs120 :: .row v132 33 (Rep.sz S_api_InterlockState) r130.1.length xs133 :: M = M' ∧ [(2, v112), (9, v119), (11, v132), (12, .int .i64 (r130.2.1)), (13, .int .i64 (r130.2.2)), (14, .int .i64 (n222)), (52, v109), (53, .int .i64 (((slc p1_from 0 ((min (p1_from.length : Int) 6 : Int).toNat)).length : Int))), (54, .int .i64 ((k135 : Int)))] = L') ?_ (fun J225 => ?_)
      · rintro H223 _ _ ⟨n222, hm, hle224, rfl, rfl⟩
        unfold m_gridhallkeep4_OrderSafe_b4 at hm
        refine C_region ?_
        refine W_bin rfl rfl rfl rfl rfl ?_
        refine W_move rfl rfl rfl ?_
        refine W_end ?_
        exact E_keepJ (E_back (Nat.lt_succ_self _) ⟨k135 + 1, zs205, n222, hd208, rfl, (by rw [hn202]; exact hm), (Hp.le_trans hle200 hle224), rfl, rfl⟩) (List.Perm.refl _) ⟨rfl, rfl, rfl, rfl, rfl, rfl, rfl, rfl, (congrArg (fun z => some (Value.int .i64 z)) (i64_succ hy206 ((h110.mono hle200)).lenMax)), trivial⟩
      · refine C_block ?_
        refine C_seq ?_
        refine C_region ?_
        refine W_move rfl rfl rfl ?_
        obtain ⟨_, ⟨rfl⟩, hc226⟩ := (h110).elem hy206
        refine W_indexS rfl rfl Proofs.Try.runUnderlying23 Proofs.Try.sizeOf33 rfl (h110.mono hle200) rfl (Int.natCast_nonneg _) hy206 ?_
        refine W_loadAgg rfl rfl Proofs.Try.isAgg33 Proofs.Try.sizeOf33 rfl (hc226.mono hle200).at rfl ?_
        refine W_alloc (cs := [.string (⟨#[]⟩), .bool (false)]) rfl rfl Proofs.Try.zeroValue33 rfl (fun b227 => ?_)
        refine W_assign rfl rfl rfl ?_
        refine W_store (cs := [.string (y204.Name), .bool (y204.Closed)]) (out := [.string (y204.Name), .bool (y204.Closed)]) rfl Proofs.Try.sizeOf33 rfl rfl rfl rfl rfl (all_cons rfl (all_cons rfl all_nil)) (over_all rfl) ?_
        refine W_end ?_
        refine E_then ?_
        refine C_seq ?_
        cases hb228 : (decide (((slc to 0 ((min (to.length : Int) 6 : Int).toNat)).length : Int) ≤ (k135 : Int)))
        · have hm := ite_f' hb228 hm
          obtain ⟨y229, h230, he231, hm⟩ := idx_some hm
          obtain ⟨_, ⟨rfl⟩, hc232⟩ := (h113).elem he231
          refine C_region_tok0 10 (phiT [(fun H rs v => [] = rs ∧ .int .i64 ((k135 : Int)) = v), (fun H rs v => [] = rs ∧ v112 = v), (fun H rs v => [] = rs ∧ .int .i64 (((slc to 0 ((min (to.length : Int) 6 : Int).toNat)).length : Int)) = v), (fun H rs v => [] = rs ∧ .bool (false) = v), (fun H rs v => [] = rs ∧ .bool (false) = v), (fun H rs v => [] = rs ∧ .agg [.string (y204.Name), .bool (y204.Closed)].toArray = v), (fun H rs v => [] = rs ∧ v112 = v), (fun H rs v => [] = rs ∧ .int .i64 ((k135 : Int)) = v), (fun H rs v => [] = rs ∧ .pointer (some ((Value.base (v112)).add (((k135 : Int) : Int).toNat * 2))) = v), (fun H rs v => [] = rs ∧ .agg [.string (y229.Name), .bool (y229.Closed)].toArray = v)]) [[], [], [], [], [], [], [], [], [], []] [[], [], [], [], [], [], [], [], [], []] [] [0, 1, 2, 3, 4, 5, 6, 7, 8, 9] Facts.mixed (by kernel_rfl) rfl rfl rfl (by kernel_rfl) (phiT_mono ⟨eq_monoT _ _, eq_monoT _ _, eq_monoT _ _, eq_monoT _ _, eq_monoT _ _, eq_monoT _ _, eq_monoT _ _, eq_monoT _ _, eq_monoT _ _, eq_monoT _ _, trivial⟩) ⟨?_, ?_, ?_, ?_, ?_, ?_, ?_, ?_, ?_, ?_, trivial⟩ ?_
          · intro HX hX X Rest hR
            intro hU
            refine W_move rfl rfl rfl ?_
            exact W_end (OneT_end [] (Hp.le_refl _) ⟨rfl, rfl⟩)
          · intro HX hX X Rest hR
            intro hU
            refine W_move rfl rfl rfl ?_
            exact W_end (OneT_end [] (Hp.le_refl _) ⟨rfl, rfl⟩)
          · intro HX hX X Rest hR
            rintro _ _ ⟨rfl, rfl⟩
            intro hU
            refine W_lenR rfl rfl Proofs.Try.runUnderlying23 rfl ((h113.mono hle200).mono hX) ?_
            exact W_end (OneT_end [] (Hp.le_refl _) ⟨rfl, rfl⟩)
          · intro HX hX X Rest hR
            rintro _ _ ⟨rfl, rfl⟩
            rintro _ _ ⟨rfl, rfl⟩
            intro hU
            refine W_bin rfl rfl rfl rfl rfl ?_
            exact W_end (OneT_end [] (Hp.le_refl _) ⟨rfl, (by rw [hb228]; try rfl)⟩)
          · intro HX hX X Rest hR
            rintro _ _ ⟨rfl, rfl⟩
            intro hU
            refine W_move rfl rfl rfl ?_
            exact W_end (OneT_end [] (Hp.le_refl _) ⟨rfl, rfl⟩)
          · intro HX hX X Rest hR
            rintro _ _ ⟨rfl, rfl⟩
            intro hU
            refine W_loadAgg rfl rfl Proofs.Try.isAgg33 Proofs.Try.sizeOf33 rfl (own_all (hR _ (List.mem_cons_self ..))) rfl ?_
            exact W_end (OneT_end [] (Hp.le_refl _) ⟨rfl, rfl⟩)
          · intro HX hX X Rest hR
            rintro _ _ ⟨rfl, rfl⟩
            intro hU
            refine W_move rfl rfl rfl ?_
            exact W_end (OneT_end [] (Hp.le_refl _) ⟨rfl, rfl⟩)
          · intro HX hX X Rest hR
            rintro _ _ ⟨rfl, rfl⟩
            intro hU
            refine W_move rfl rfl rfl ?_
            exact W_end (OneT_end [] (Hp.le_refl _) ⟨rfl, rfl⟩)
          · intro HX hX X Rest hR
            rintro _ _ ⟨rfl, rfl⟩
            rintro _ _ ⟨rfl, rfl⟩
            rintro _ _ ⟨rfl, rfl⟩
            intro hU
            refine W_indexS rfl rfl Proofs.Try.runUnderlying23 Proofs.Try.sizeOf33 rfl ((h113.mono hle200).mono hX) rfl h230 he231 ?_
            exact W_end (OneT_end [] (Hp.le_refl _) ⟨rfl, rfl⟩)
          · intro HX hX X Rest hR
            rintro _ _ ⟨rfl, rfl⟩
            rintro _ _ ⟨rfl, rfl⟩
            intro hU
            refine W_loadAgg rfl rfl Proofs.Try.isAgg33 Proofs.Try.sizeOf33 rfl ((hc232.mono hle200).mono hX).at rfl ?_
            exact W_end (OneT_end [] (Hp.le_refl _) ⟨rfl, rfl⟩)
          intro H233 hle234
          rintro _ _ ⟨rfl, rfl⟩
          rintro _ _ ⟨rfl, rfl⟩
          rintro _ _ ⟨rfl, rfl⟩
          rintro _ _ ⟨rfl, rfl⟩
          rintro _ _ ⟨rfl, rfl⟩
          rintro _ _ ⟨rfl, rfl⟩
          rintro _ _ ⟨rfl, rfl⟩
          rintro _ _ ⟨rfl, rfl⟩
          rintro _ _ ⟨rfl, rfl⟩
          rintro _ _ ⟨rfl, rfl⟩
          refine W_neAgg (b := decide (y204.Name = y229.Name) && (decide (y204.Closed = y229.Closed) && true)) rfl rfl (by kernel_rfl) rfl rfl (fun w => run_equal_struct (bs := [decide (y204.Name = y229.Name), decide (y204.Closed = y229.Closed)]) Proofs.Try.runUnderlying33 (by kernel_rfl) ⟨(by decide), (fldEq_str Proofs.Try.isAgg9 Proofs.Try.runUnderlying9 rfl rfl), (by decide), (fldEq_bool Proofs.Try.isAgg4 Proofs.Try.runUnderlying4 rfl rfl), trivial⟩) ?_
          refine W_pick rfl rfl rfl rfl ?_
          refine W_end ?_
          refine E_then ?_
          refine C_cond (b := !(decide (y204.Name = y229.Name) && (decide (y204.Closed = y229.Closed) && true))) rfl (fun hb235 => ?_) (fun hb235 => ?_)
          · have hm := ite_t' hb235 hm
            refine C_region ?_
            refine W_move rfl rfl rfl ?_
            refine W_bin rfl rfl rfl rfl rfl ?_
            refine W_assign rfl rfl rfl ?_
            refine W_end ?_
            refine E_normal_block ?_
            refine E_drop (List.Sublist.cons _ (List.Sublist.refl _)) ?_
            exact E_keepJ (J225 _ _ _ ⟨IntKind.i64.wrap (n198 + 1), hm, hle234, rfl, rfl⟩) (List.Perm.refl _) ⟨rfl, rfl, rfl, rfl, rfl, rfl, rfl, rfl, rfl, trivial⟩
          · have hm := ite_f' hb235 hm
            refine C_skip ?_
            refine E_normal_block ?_
            refine E_drop (List.Sublist.cons _ (List.Sublist.refl _)) ?_
            exact E_keepJ (J225 _ _ _ ⟨n198, hm, hle234, rfl, rfl⟩) (List.Perm.refl _) ⟨rfl, rfl, rfl, rfl, rfl, rfl, rfl, rfl, rfl, trivial⟩
        · have hm := ite_t' hb228 hm
          refine C_region_tok0 10 (phiT [(fun H rs v => [] = rs ∧ .int .i64 ((k135 : Int)) = v), (fun H rs v => [] = rs ∧ v112 = v), (fun H rs v => [] = rs ∧ .int .i64 (((slc to 0 ((min (to.length : Int) 6 : Int).toNat)).length : Int)) = v), (fun H rs v => [] = rs ∧ .bool (true) = v), (fun H rs v => [] = rs ∧ .bool (true) = v), (fun H rs v => [] = rs ∧ undef = v), (fun H rs v => [] = rs ∧ undef = v), (fun H rs v => [] = rs ∧ undef = v), (fun H rs v => [] = rs ∧ undef = v), (fun H rs v => [] = rs ∧ undef = v)]) [[], [], [], [], [], [], [], [], [], []] [[], [], [], [], [], [], [], [], [], []] [] [0, 1, 2, 3, 4, 5, 6, 7, 8, 9] Facts.mixed (by kernel_rfl) rfl rfl rfl (by kernel_rfl) (phiT_mono ⟨eq_monoT _ _, eq_monoT _ _, eq_monoT _ _, eq_monoT _ _, eq_monoT _ _, eq_monoT _ _, eq_monoT _ _, eq_monoT _ _, eq_monoT _ _, eq_monoT _ _, trivial⟩) ⟨?_, ?_, ?_, ?_, ?_, ?_, ?_, ?_, ?_, ?_, trivial⟩ ?_
          · intro HX hX X Rest hR
            intro hU
            refine W_move rfl rfl rfl ?_
            exact W_end (OneT_end [] (Hp.le_refl _) ⟨rfl, rfl⟩)
          · intro HX hX X Rest hR
            intro hU
            refine W_move rfl rfl rfl ?_
            exact W_end (OneT_end [] (Hp.le_refl _) ⟨rfl, rfl⟩)
          · intro HX hX X Rest hR
            rintro _ _ ⟨rfl, rfl⟩
            intro hU
            refine W_lenR rfl rfl Proofs.Try.runUnderlying23 rfl ((h113.mono hle200).mono hX) ?_
            exact W_end (OneT_end [] (Hp.le_refl _) ⟨rfl, rfl⟩)
          · intro HX hX X Rest hR
            rintro _ _ ⟨rfl, rfl⟩
            rintro _ _ ⟨rfl, rfl⟩
            intro hU
            refine W_bin rfl rfl rfl rfl rfl ?_
            exact W_end (OneT_end [] (Hp.le_refl _) ⟨rfl, (by rw [hb228]; try rfl)⟩)
          · intro HX hX X Rest hR
            rintro _ _ ⟨rfl, rfl⟩
            intro hU
            refine W_move rfl rfl rfl ?_
            exact W_end (OneT_end [] (Hp.le_refl _) ⟨rfl, rfl⟩)
          · intro HX hX X Rest hR
            rintro _ _ ⟨rfl, rfl⟩
            intro hU
            refine W_no rfl rfl rfl ?_
            exact W_end (OneT_end [] (Hp.le_refl _) ⟨rfl, rfl⟩)
          · intro HX hX X Rest hR
            rintro _ _ ⟨rfl, rfl⟩
            intro hU
            refine W_no rfl rfl rfl ?_
            exact W_end (OneT_end [] (Hp.le_refl _) ⟨rfl, rfl⟩)
          · intro HX hX X Rest hR
            rintro _ _ ⟨rfl, rfl⟩
            intro hU
            refine W_no rfl rfl rfl ?_
            exact W_end (OneT_end [] (Hp.le_refl _) ⟨rfl, rfl⟩)
          · intro HX hX X Rest hR
            rintro _ _ ⟨rfl, rfl⟩
            rintro _ _ ⟨rfl, rfl⟩
            rintro _ _ ⟨rfl, rfl⟩
            intro hU
            refine W_no rfl rfl rfl ?_
            exact W_end (OneT_end [] (Hp.le_refl _) ⟨rfl, rfl⟩)
          · intro HX hX X Rest hR
            rintro _ _ ⟨rfl, rfl⟩
            rintro _ _ ⟨rfl, rfl⟩
            intro hU
            refine W_no rfl rfl rfl ?_
            exact W_end (OneT_end [] (Hp.le_refl _) ⟨rfl, rfl⟩)
          intro H236 hle237
          rintro _ _ ⟨rfl, rfl⟩
          rintro _ _ ⟨rfl, rfl⟩
          rintro _ _ ⟨rfl, rfl⟩
          rintro _ _ ⟨rfl, rfl⟩
          rintro _ _ ⟨rfl, rfl⟩
          rintro _ _ ⟨rfl, rfl⟩
          rintro _ _ ⟨rfl, rfl⟩
          rintro _ _ ⟨rfl, rfl⟩
          rintro _ _ ⟨rfl, rfl⟩
          rintro _ _ ⟨rfl, rfl⟩
          refine W_no rfl rfl rfl ?_
          refine W_pick rfl rfl rfl rfl ?_
          refine W_end ?_
          refine E_then ?_
          refine C_cond (b := true) rfl (fun _ => ?_) (fun hb => Bool.noConfusion hb)
          refine C_region ?_
          refine W_move rfl rfl rfl ?_
          refine W_bin rfl rfl rfl rfl rfl ?_
          refine W_assign rfl rfl rfl ?_
          refine W_end ?_
          refine E_normal_block ?_
          refine E_drop (List.Sublist.cons _ (List.Sublist.refl _)) ?_
          exact E_keepJ (J225 _ _ _ ⟨IntKind.i64.wrap (n198 + 1), hm, hle237, rfl, rfl⟩) (List.Perm.refl _) ⟨rfl, rfl, rfl, rfl, rfl, rfl, rfl, rfl, rfl, trivial⟩
    · obtain rfl := rng_f hd207 hb209
      have hm : ((m_gridhallkeep4_orderFact).bind fun r238 => if r238 then (if decide (r130.2.2 = 0) then (if decide (r130.2.1 = 0) then ((m_slices_Equal_api_InterlockState_api_InterlockState r130.1 (slc to 0 ((min (to.length : Int) 6 : Int).toNat))).bind fun r243 => if r243 then (if decide (n198 ≤ (r117.1.length : Int)) then (some (decide ((Int.tmod (IntKind.i64.wrap ((r117.1.length : Int) - n198)) 2) = 0))) else (some false)) else (some false)) else (some false)) else (some false)) else (some false)) = some r := hm
      refine C_exit (E_exit_then ?_)
      refine E_exit_then ?_
      refine E_exit_hit ?_
      refine E_then ?_
      refine C_seq ?_
      refine C_region ?_
      obtain ⟨r238, hc239, hm⟩ := bind_some hm
      refine W_call Proofs.Try.call9 rfl rfl rfl (fun w ht => by have h := m_gridhallkeep4_orderFact_c (hm := hc239)  ht; exact h) ?_
      rintro _ _ _ ⟨rfl, rfl, rfl⟩
      refine W_move rfl rfl rfl ?_
      cases hb240 : (r238)
      · have hm := ite_f' hb240 hm
        refine W_no rfl rfl rfl ?_
        refine W_no rfl rfl rfl ?_
        refine W_pick rfl rfl rfl rfl ?_
        refine W_move rfl rfl rfl ?_
        refine W_no rfl rfl rfl ?_
        refine W_no rfl rfl rfl ?_
        refine W_pick rfl rfl rfl rfl ?_
        refine W_move rfl rfl rfl ?_
        refine W_no rfl rfl rfl ?_
        refine W_no rfl rfl rfl ?_
        refine W_no rfl rfl rfl ?_
        refine W_pick rfl rfl rfl rfl ?_
        refine W_move rfl rfl rfl ?_
        refine W_no rfl rfl rfl ?_
        refine W_no rfl rfl rfl ?_
        refine W_no rfl rfl rfl ?_
        refine W_no rfl rfl rfl ?_
        refine W_pick rfl rfl rfl rfl ?_
        refine W_move rfl rfl rfl ?_
        refine W_no rfl rfl rfl ?_
        refine W_no rfl rfl rfl ?_
        refine W_no rfl rfl rfl ?_
        refine W_no rfl rfl rfl ?_
        refine W_no rfl rfl rfl ?_
        refine W_no rfl rfl rfl ?_
        refine W_pick rfl rfl rfl rfl ?_
        refine W_assign rfl rfl rfl ?_
        refine W_end ?_
        refine E_then ?_
        refine C_ret ?_
        obtain rfl := Option.some.inj hm
        refine E_drop (List.Sublist.cons _ (List.Sublist.cons _ (List.Sublist.refl _))) ?_
        refine E_weak (Hp.le_trans hle116 hle200) ?_
        exact end1 rfl rfl ⟨rfl, rfl, rfl⟩
      · have hm := ite_t' hb240 hm
        refine W_move rfl rfl rfl ?_
        refine W_bin rfl rfl rfl rfl rfl ?_
        refine W_pick rfl rfl rfl rfl ?_
        refine W_move rfl rfl rfl ?_
        cases hb241 : (decide (r130.2.2 = 0))
        · have hm := ite_f' hb241 hm
          refine W_no rfl rfl rfl ?_
          refine W_no rfl rfl rfl ?_
          refine W_pick rfl rfl rfl rfl ?_
          refine W_move rfl rfl rfl ?_
          refine W_no rfl rfl rfl ?_
          refine W_no rfl rfl rfl ?_
          refine W_no rfl rfl rfl ?_
          refine W_pick rfl rfl rfl rfl ?_
          refine W_move rfl rfl rfl ?_
          refine W_no rfl rfl rfl ?_
          refine W_no rfl rfl rfl ?_
          refine W_no rfl rfl rfl ?_
          refine W_no rfl rfl rfl ?_
          refine W_pick rfl rfl rfl rfl ?_
          refine W_move rfl rfl rfl ?_
          refine W_no rfl rfl rfl ?_
          refine W_no rfl rfl rfl ?_
          refine W_no rfl rfl rfl ?_
          refine W_no rfl rfl rfl ?_
          refine W_no rfl rfl rfl ?_
          refine W_no rfl rfl rfl ?_
          refine W_pick rfl rfl rfl rfl ?_
          refine W_assign rfl rfl rfl ?_
          refine W_end ?_
          refine E_then ?_
          refine C_ret ?_
          obtain rfl := Option.some.inj hm
          refine E_drop (List.Sublist.cons _ (List.Sublist.cons _ (List.Sublist.refl _))) ?_
          refine E_weak (Hp.le_trans hle116 hle200) ?_
          exact end1 rfl rfl ⟨rfl, rfl, rfl⟩
        · have hm := ite_t' hb241 hm
          refine W_move rfl rfl rfl ?_
          refine W_bin rfl rfl rfl rfl rfl ?_
          refine W_pick rfl rfl rfl rfl ?_
          refine W_move rfl rfl rfl ?_
          cases hb242 : (decide (r130.2.1 = 0))
          · have hm := ite_f' hb242 hm
            refine W_no rfl rfl rfl ?_
            refine W_no rfl rfl rfl ?_
            refine W_no rfl rfl rfl ?_
            refine W_pick rfl rfl rfl rfl ?_
            refine W_move rfl rfl rfl ?_
            refine W_no rfl rfl rfl ?_
            refine W_no rfl rfl rfl ?_
            refine W_no rfl rfl rfl ?_
            refine W_no rfl rfl rfl ?_
            refine W_pick rfl rfl rfl rfl ?_
            refine W_move rfl rfl rfl ?_
            refine W_no rfl rfl rfl ?_
            refine W_no rfl rfl rfl ?_
            refine W_no rfl rfl rfl ?_
            refine W_no rfl rfl rfl ?_
            refine W_no rfl rfl rfl ?_
            refine W_no rfl rfl rfl ?_
            refine W_pick rfl rfl rfl rfl ?_
            refine W_assign rfl rfl rfl ?_
            refine W_end ?_
            refine E_then ?_
            refine C_ret ?_
            obtain rfl := Option.some.inj hm
            refine E_drop (List.Sublist.cons _ (List.Sublist.cons _ (List.Sublist.refl _))) ?_
            refine E_weak (Hp.le_trans hle116 hle200) ?_
            exact end1 rfl rfl ⟨rfl, rfl, rfl⟩
          · have hm := ite_t' hb242 hm
            refine W_move rfl rfl rfl ?_
            refine W_move rfl rfl rfl ?_
            refine W_perm (List.Perm.swap _ _ _) ?_
            obtain ⟨r243, hc244, hm⟩ := bind_some hm
            refine W_call Proofs.Try.call17 rfl rfl rfl (fun w ht => by obtain ⟨H0_, hl0_, ht0_, hr0_, bk0_⟩ := ht.lendRow (h134.mono hle200) rfl; have h := m_slices_Equal_api_InterlockState_api_InterlockState_c (hm := hc244) hr0_ ((h113.mono hle200).mono hl0_) ht0_; exact lend_back bk0_ (h)) ?_
            rintro _ _ _ ⟨rfl, ⟨_, rfl, rfl, rfl⟩⟩
            refine W_pick rfl rfl rfl rfl ?_
            refine W_move rfl rfl rfl ?_
            cases hb245 : (r243)
            · have hm := ite_f' hb245 hm
              refine W_no rfl rfl rfl ?_
              refine W_no rfl rfl rfl ?_
              refine W_no rfl rfl rfl ?_
              refine W_no rfl rfl rfl ?_
              refine W_pick rfl rfl rfl rfl ?_
              refine W_move rfl rfl rfl ?_
              refine W_no rfl rfl rfl ?_
              refine W_no rfl rfl rfl ?_
              refine W_no rfl rfl rfl ?_
              refine W_no rfl rfl rfl ?_
              refine W_no rfl rfl rfl ?_
              refine W_no rfl rfl rfl ?_
              refine W_pick rfl rfl rfl rfl ?_
              refine W_assign rfl rfl rfl ?_
              refine W_end ?_
              refine E_then ?_
              refine C_ret ?_
              obtain rfl := Option.some.inj hm
              refine E_drop (List.Sublist.cons _ (List.Sublist.cons _ (List.Sublist.refl _))) ?_
              refine E_weak (Hp.le_trans hle116 hle200) ?_
              exact end1 rfl rfl ⟨rfl, rfl, rfl⟩
            · have hm := ite_t' hb245 hm
              refine W_move rfl rfl rfl ?_
              refine W_lenO (List.mem_cons_of_mem _ (List.mem_cons_self ..)) rfl rfl Proofs.Try.runUnderlying25 rfl ?_
              refine W_move rfl rfl rfl ?_
              refine W_bin rfl rfl rfl rfl rfl ?_
              refine W_pick rfl rfl rfl rfl ?_
              refine W_move rfl rfl rfl ?_
              cases hb246 : (decide (n198 ≤ (r117.1.length : Int)))
              · have hm := ite_f' hb246 hm
                refine W_no rfl rfl rfl ?_
                refine W_no rfl rfl rfl ?_
                refine W_no rfl rfl rfl ?_
                refine W_no rfl rfl rfl ?_
                refine W_no rfl rfl rfl ?_
                refine W_no rfl rfl rfl ?_
                refine W_pick rfl rfl rfl rfl ?_
                refine W_assign rfl rfl rfl ?_
                refine W_end ?_
                refine E_then ?_
                refine C_ret ?_
                obtain rfl := Option.some.inj hm
                refine E_drop (List.Sublist.cons _ (List.Sublist.cons _ (List.Sublist.refl _))) ?_
                refine E_weak (Hp.le_trans hle116 hle200) ?_
                exact end1 rfl rfl ⟨rfl, rfl, rfl⟩
              · have hm := ite_t' hb246 hm
                refine W_move rfl rfl rfl ?_
                refine W_lenO (List.mem_cons_of_mem _ (List.mem_cons_self ..)) rfl rfl Proofs.Try.runUnderlying25 rfl ?_
                refine W_move rfl rfl rfl ?_
                refine W_bin rfl rfl rfl rfl rfl ?_
                refine W_rem rfl rfl rfl rfl (by decide) ?_
                refine W_bin rfl rfl rfl rfl rfl ?_
                refine W_pick rfl rfl rfl rfl ?_
                refine W_assign rfl rfl rfl ?_
                refine W_end ?_
                refine E_then ?_
                refine C_ret ?_
                obtain rfl := Option.some.inj hm
                refine E_drop (List.Sublist.cons _ (List.Sublist.cons _ (List.Sublist.refl _))) ?_
                refine E_weak (Hp.le_trans hle116 hle200) ?_
                exact end1 rfl rfl ⟨rfl, rfl, rfl⟩

theorem grow23_c {B : Nat} {w0 w : World} {H : Hp} {M : List Res} {n : Int} (hz : 0 ≤ n ∧ n * 48 ≤ 140737488355328) (ht : St B w0 H M w) :
    Calls Proofs.Try.prog 23 [.slice none 0 0, .int .i64 n].toArray w (Ret B w0 fun H' M' v => H = H' ∧ ∃ (v' : Value) (xs' : List Value), .row v' 46 (Rep.sz S_api_InterlockRule) ([] : List S_api_InterlockRule).length xs' :: M = M' ∧ v' = v ∧ Rw H v' xs' ([] : List S_api_InterlockRule)) := by
  refine enter Proofs.Try.func23 rfl rfl rfl ht ?_
  have hn : IntKind.i64.wrap (n - IntKind.i64.wrap (((0 : Nat) : Int) - ((0 : Nat) : Int))) = n := by
    rw [show IntKind.i64.wrap (((0 : Nat) : Int) - ((0 : Nat) : Int)) = 0 from rfl, Int.sub_zero, i64_of (by omega) (by omega)]
  refine C_seq ?_
  refine C_region ?_
  refine W_assign rfl rfl rfl ?_
  refine W_end (E_then ?_)
  refine C_seq ?_
  refine C_seq ?_
  refine C_region ?_
  refine W_move rfl rfl rfl ?_
  refine W_bin rfl rfl rfl rfl rfl ?_
  refine W_end (E_then ?_)
  refine C_cond (b := decide (n < 0)) rfl (fun hb => absurd (of_decide_eq_true hb) (by omega)) (fun _ => ?_)
  refine C_skip (E_then ?_)
  refine C_seq_join (fun H1 M1 L1 => ∃ (v' : Value) (xs' : List Value), H = H1 ∧ .row v' 46 (Rep.sz S_api_InterlockRule) ([] : List S_api_InterlockRule).length xs' :: M = M1 ∧ [(0, v')] = L1 ∧ Rw H v' xs' ([] : List S_api_InterlockRule)) ?_ (fun J => ?_)
  · rintro _ _ _ ⟨v', xs', rfl, rfl, rfl, h⟩
    refine C_seq ?_
    refine C_region ?_
    refine W_move rfl rfl rfl ?_
    refine W_assign rfl rfl rfl ?_
    refine W_end (E_then ?_)
    refine C_ret ?_
    exact end1 rfl rfl ⟨rfl, v', xs', rfl, rfl, h⟩
  · refine C_seq ?_
    refine C_region ?_
    refine W_move rfl rfl rfl ?_
    refine W_move rfl rfl rfl ?_
    refine W_capS rfl rfl Proofs.Try.runUnderlying22 rfl ?_
    refine W_move rfl rfl rfl ?_
    refine W_lenS rfl rfl Proofs.Try.runUnderlying22 rfl ?_
    refine W_bin rfl rfl rfl rfl rfl ?_
    refine W_bin rfl rfl rfl rfl rfl ?_
    refine W_assign rfl rfl rfl ?_
    refine W_end (E_then ?_)
    rw [hn]
    refine C_seq ?_
    refine C_region ?_
    refine W_move rfl rfl rfl ?_
    refine W_bin rfl rfl rfl rfl rfl ?_
    refine W_end (E_then ?_)
    refine C_cond (b := decide (0 < n)) rfl (fun hb => ?_) (fun hb => ?_)
    · refine C_region ?_
      refine W_move rfl rfl rfl ?_
      refine W_move rfl rfl rfl ?_
      refine W_capS rfl rfl Proofs.Try.runUnderlying22 rfl ?_
      refine W_sliceNil rfl rfl Proofs.Try.runUnderlying22 Proofs.Try.sizeOf46 rfl rfl ?_
      refine W_move rfl rfl rfl ?_
      refine W_growNil (α := S_api_InterlockRule) (ze := (S_api_InterlockRule.mk false (⟨#[]⟩) [])) (bytes := 48) rfl rfl Proofs.Try.underlying22 Proofs.Try.underlying3 ⟨_, rfl, rfl, rfl, rfl⟩ rfl rfl rfl ⟨.slice none 0 0, rfl, RdS.nil⟩ rfl rfl (of_decide_eq_true hb) hz.2 ?_
      intro v1 xs1 l1 h1 hl1
      refine W_move rfl rfl rfl ?_
      refine W_lenS rfl rfl Proofs.Try.runUnderlying22 rfl ?_
      refine W_sliceO (α := S_api_InterlockRule) (l := 0) (h := 0) rfl rfl Proofs.Try.runUnderlying22 Proofs.Try.sizeOf46 rfl rfl h1 (by omega) (by omega) (fun m hmm => (.inr ⟨_, _, _, rfl, rfl, by omega, by omega, rfl⟩)) (.inl ⟨rfl, rfl⟩) ?_
      intro v2 xs2 h2
      refine W_assign rfl rfl rfl ?_
      refine W_end ?_
      exact E_keepJ (J _ _ _ ⟨v2, xs2, rfl, rfl, rfl, h2⟩) (List.Perm.refl _) ⟨rfl, trivial⟩
    · refine C_skip ?_
      refine E_nilRow 46 (Rep.sz S_api_InterlockRule) ?_
      exact E_keepJ (J _ _ _ ⟨.slice none 0 0, [], rfl, rfl, rfl, Rw.nil⟩) (List.Perm.refl _) ⟨rfl, trivial⟩

theorem m_slices_Concat_api_InterlockRule_api_InterlockRule_c {B : Nat} {w0 w : World} {H : Hp} {M : List Res} {slices : (List (List S_api_InterlockRule))} {v0 : Value} {r : (List S_api_InterlockRule)} (hm : m_slices_Concat_api_InterlockRule_api_InterlockRule slices = some r) (h0 : RdS H v0 slices) (ht : St B w0 H (M) w) :
    Calls Proofs.Try.prog 15 [v0].toArray w (Ret B w0 fun H' M' v => H.le H' ∧ ∃ qv0 : Value, ∃ qxs0 : List Value, .row qv0 46 (Rep.sz S_api_InterlockRule) r.length qxs0 :: M = M' ∧ qv0 = v ∧ Rw H' qv0 qxs0 r) := by
  unfold m_slices_Concat_api_InterlockRule_api_InterlockRule at hm
  refine enter Proofs.Try.func15 rfl rfl rfl ht ?_
  refine C_seq ?_
  refine C_region ?_
  refine W_assign rfl rfl rfl ?_
  refine W_end ?_
  refine E_then ?_
  refine C_seq ?_
  refine C_region ?_
  refine W_assign rfl rfl rfl ?_
  refine W_end ?_
  refine E_then ?_
  refine C_seq ?_
  refine C_seq ?_
  refine C_region ?_
  refine W_move rfl rfl rfl ?_
  refine W_lenR rfl rfl Proofs.Try.runUnderlying60 rfl h0 ?_
  refine W_move rfl rfl rfl ?_
  refine W_end ?_
  refine E_then ?_
  refine C_block ?_
  refine C_keep (L' := [(0, v0), (3, .int .i64 (0)), (9, v0), (10, .int .i64 ((slices.length : Int))), (11, .int .i64 (((0 : Nat) : Int)))]) ⟨rfl, rfl, rfl, rfl, rfl, trivial⟩ (List.Perm.refl _) ?_
  refine C_loop (fun n H' M' L' => ∃ (k101 : Nat) (zs119' : List (List S_api_InterlockRule)), ∃ n112 : Int, (slices).drop k101 = zs119' ∧ zs119'.length = n ∧ forI (fun k y s n => m_slices_Concat_api_InterlockRule_api_InterlockRule_b1 k y s n) (fun s => need (0 ≤ s ∧ s * 48 ≤ 140737488355328) (forI (fun k y s n => m_slices_Concat_api_InterlockRule_api_InterlockRule_b2 k y s n) (fun s => some s) 0 slices ([] : List S_api_InterlockRule))) k101 zs119' n112 = some r ∧ H.le H' ∧ M = M' ∧ [(0, v0), (3, .int .i64 (n112)), (9, v0), (10, .int .i64 ((slices.length : Int))), (11, .int .i64 ((k101 : Int)))] = L') _ ⟨0, _, 0, rfl, rfl, hm, (Hp.le_refl _), rfl, rfl⟩ ?_
  rintro _ H113 _ _ ⟨k101, zs119', n112, hd121, rfl, hm, hle114, rfl, rfl⟩
  refine C_seq ?_
  refine C_region ?_
  refine W_bin rfl rfl rfl rfl rfl ?_
  refine W_end (E_then ?_)
  refine C_seq ?_
  refine C_cond (b := decide ((k101 : Int) < (slices.length : Int))) rfl (fun hb123 => ?_) (fun hb123 => ?_)
  · obtain ⟨y118, zs119, rfl, hy120, hd122⟩ := rng_t hd121 hb123
    have hm : m_slices_Concat_api_InterlockRule_api_InterlockRule_b1 k101 y118 n112 (forI (fun k y s n => m_slices_Concat_api_InterlockRule_api_InterlockRule_b1 k y s n) (fun s => need (0 ≤ s ∧ s * 48 ≤ 140737488355328) (forI (fun k y s n => m_slices_Concat_api_InterlockRule_api_InterlockRule_b2 k y s n) (fun s => some s) 0 slices ([] : List S_api_InterlockRule))) (k101 + 1) zs119) = some r := hm
    generalize hn116 : forI (fun k y s n => m_slices_Concat_api_InterlockRule_api_InterlockRule_b1 k y s n) (fun s => need (0 ≤ s ∧ s * 48 ≤ 140737488355328) (forI (fun k y s n => m_slices_Concat_api_InterlockRule_api_InterlockRule_b2 k y s n) (fun s => some s) 0 slices ([] : List S_api_InterlockRule))) (k101 + 1) zs119 = nx115 at hm
    unfold m_slices_Concat_api_InterlockRule_api_InterlockRule_b1 at hm
    refine C_skip (E_then ?_)
    refine C_seq ?_
    refine C_block ?_
    refine C_seq ?_
    refine C_region ?_
    obtain ⟨_, ⟨v125, rfl, h126⟩, hc124⟩ := (h0).elem hy120
    refine W_indexS rfl rfl Proofs.Try.runUnderlying60 Proofs.Try.sizeOf22 rfl (h0.mono hle114) rfl (Int.natCast_nonneg _) hy120 ?_
    refine W_load rfl rfl Proofs.Try.isAgg22 rfl (HCells.one (hc124.mono hle114) 0 rfl).at ?_
    refine W_assign rfl rfl rfl ?_
    refine W_end ?_
    refine E_then ?_
    refine C_seq ?_
    refine C_region ?_
    refine W_move rfl rfl rfl ?_
    refine W_move rfl rfl rfl ?_
    refine W_lenR rfl rfl Proofs.Try.runUnderlying22 rfl (h126.mono hle114) ?_
    refine W_bin rfl rfl rfl rfl rfl ?_
    refine W_assign rfl rfl rfl ?_
    refine W_end ?_
    refine E_then ?_
    refine C_seq ?_
    refine C_region ?_
    refine W_move rfl rfl rfl ?_
    refine W_bin rfl rfl rfl rfl rfl ?_
    refine W_end ?_
    refine E_then ?_
    refine C_cond (b := decide ((IntKind.i64.wrap (n112 + (y118.length : Int))) < 0)) rfl (fun hb127 => ?_) (fun hb127 => ?_)
    · have hm := ite_t' hb127 hm
      cases hm
    · have hm := ite_f' hb127 hm
      refine C_skip ?_
      refine E_normal_block ?_
      refine E_then ?_
      refine C_region ?_
      refine W_bin rfl rfl rfl rfl rfl ?_
      refine W_move rfl rfl rfl ?_
      refine W_end ?_
      exact E_keepJ (E_back (Nat.lt_succ_self _) ⟨k101 + 1, zs119, IntKind.i64.wrap (n112 + (y118.length : Int)), hd122, rfl, (by rw [hn116]; exact hm), hle114, rfl, rfl⟩) (List.Perm.refl _) ⟨rfl, rfl, rfl, rfl, (congrArg (fun z => some (Value.int .i64 z)) (i64_succ hy120 ((h0.mono hle114)).lenMax)), trivial⟩
  · obtain rfl := rng_f hd121 hb123
    have hm : (need (0 ≤ n112 ∧ n112 * 48 ≤ 140737488355328) (forI (fun k y s n => m_slices_Concat_api_InterlockRule_api_InterlockRule_b2 k y s n) (fun s => some s) 0 slices ([] : List S_api_InterlockRule))) = some r := hm
    refine C_exit (E_exit_then ?_)
    refine E_exit_then ?_
    refine E_exit_hit ?_
    refine E_then ?_
    refine C_seq ?_
    refine C_region ?_
    refine W_move rfl rfl rfl ?_
    obtain ⟨hz128, hm⟩ := need_some hm
    refine W_call Proofs.Try.call23 rfl rfl rfl (fun w ht => by have h := grow23_c hz128 ht; exact h) ?_
    rintro _ _ _ ⟨rfl, v129, xs130, rfl, rfl, hr131⟩
    refine W_assign rfl rfl rfl ?_
    refine W_end ?_
    refine E_then ?_
    refine C_seq ?_
    refine C_seq ?_
    refine C_region ?_
    refine W_move rfl rfl rfl ?_
    refine W_lenR rfl rfl Proofs.Try.runUnderlying60 rfl (h0.mono hle114) ?_
    refine W_move rfl rfl rfl ?_
    refine W_end ?_
    refine E_then ?_
    refine C_block ?_
    refine C_keep (L' := [(6, v129), (25, v0), (26, .int .i64 ((slices.length : Int))), (27, .int .i64 (((0 : Nat) : Int)))]) ⟨rfl, rfl, rfl, rfl, trivial⟩ (List.Perm.refl _) ?_
    refine C_loop (fun n H' M' L' => ∃ (k132 : Nat) (zs165' : List (List S_api_InterlockRule)), ∃ l157 : List S_api_InterlockRule, ∃ v155 : Value, ∃ xs156 : List Value, (slices).drop k132 = zs165' ∧ zs165'.length = n ∧ forI (fun k y s n => m_slices_Concat_api_InterlockRule_api_InterlockRule_b2 k y s n) (fun s => some s) k132 zs165' l157 = some r ∧ Rw H' v155 xs156 l157 ∧ H113.le H' ∧ .row v155 46 (Rep.sz S_api_InterlockRule) l157.length xs156 :: M = M' ∧ [(6, v155), (25, v0), (26, .int .i64 ((slices.length : Int))), (27, .int .i64 ((k132 : Int)))] = L') _ ⟨0, _, ([] : List S_api_InterlockRule), v129, xs130, rfl, rfl, hm, hr131, (Hp.le_refl _), rfl, rfl⟩ ?_
    rintro _ H159 _ _ ⟨k132, zs165', l157, v155, xs156, hd167, rfl, hm, hr158, hle160, rfl, rfl⟩
    refine C_seq ?_
    refine C_region ?_
    refine W_bin rfl rfl rfl rfl rfl ?_
    refine W_end (E_then ?_)
    refine C_seq ?_
    refine C_cond (b := decide ((k132 : Int) < (slices.length : Int))) rfl (fun hb169 => ?_) (fun hb169 => ?_)
    · obtain ⟨y164, zs165, rfl, hy166, hd168⟩ := rng_t hd167 hb169
      have hm : m_slices_Concat_api_InterlockRule_api_InterlockRule_b2 k132 y164 l157 (forI (fun k y s n => m_slices_Concat_api_InterlockRule_api_InterlockRule_b2 k y s n) (fun s => some s) (k132 + 1) zs165) = some r := hm
      generalize hn162 : forI (fun k y s n => m_slices_Concat_api_InterlockRule_api_InterlockRule_b2 k y s n) (fun s => some s) (k132 + 1) zs165 = nx161 at hm
      unfold m_slices_Concat_api_InterlockRule_api_InterlockRule_b2 at hm
      refine C_skip (E_then ?_)
      refine C_seq ?_
      refine C_block ?_
      refine C_seq ?_
      refine C_region ?_
      obtain ⟨_, ⟨v171, rfl, h172⟩, hc170⟩ := (h0).elem hy166
      refine W_indexS rfl rfl Proofs.Try.runUnderlying60 Proofs.Try.sizeOf22 rfl ((h0.mono hle114).mono hle160) rfl (Int.natCast_nonneg _) hy166 ?_
      refine W_load rfl rfl Proofs.Try.isAgg22 rfl (HCells.one ((hc170.mono hle114).mono hle160) 0 rfl).at ?_
      refine W_assign rfl rfl rfl ?_
      refine W_end ?_
      refine E_then ?_
      refine C_region ?_
      refine W_move rfl rfl rfl ?_
      refine W_move rfl rfl rfl ?_
      obtain ⟨hz173, hm⟩ := need_some hm
      refine W_appendO (α := S_api_InterlockRule) (l := l157) (ys := y164) rfl rfl Proofs.Try.underlying22 ⟨_, rfl, rfl, rfl, rfl⟩ rfl rfl rfl rfl rfl hr158 ((h172.mono hle114).mono hle160) hz173 ?_
      intro v174 xs175 hr176
      refine W_assign rfl rfl rfl ?_
      refine W_end ?_
      refine E_normal_block ?_
      refine E_then ?_
      refine C_region ?_
      refine W_bin rfl rfl rfl rfl rfl ?_
      refine W_move rfl rfl rfl ?_
      refine W_end ?_
      exact E_keepJ (E_back (Nat.lt_succ_self _) ⟨k132 + 1, zs165, (l157 ++ y164), v174, xs175, hd168, rfl, (by rw [hn162]; exact hm), hr176, hle160, rfl, rfl⟩) (List.Perm.refl _) ⟨rfl, rfl, rfl, (congrArg (fun z => some (Value.int .i64 z)) (i64_succ hy166 (((h0.mono hle114).mono hle160)).lenMax)), trivial⟩
    · obtain rfl := rng_f hd167 hb169
      have hm : (some l157) = some r := hm
      refine C_exit (E_exit_then ?_)
      refine E_exit_then ?_
      refine E_exit_hit ?_
      refine E_then ?_
      refine C_seq ?_
      refine C_region ?_
      refine W_move rfl rfl rfl ?_
      refine W_assign rfl rfl rfl ?_
      refine W_end ?_
      refine E_then ?_
      refine C_ret ?_
      obtain rfl := Option.some.inj hm
      exact end1 rfl rfl ⟨(Hp.le_trans hle114 hle160), v155, xs156, rfl, rfl, hr158⟩
end Go.Sim
