/-
  Printed by a program: each Go function computes its model.
-/
import Derived.Test.YtppfglcmgkjgkaaConO3
namespace Go.Sim
open Go
set_option linter.unusedVariables false
set_option linter.unusedSimpArgs false
set_option maxRecDepth 100000
theorem m_gridhallkeep4_OrderSafe_c {B : Nat} {w0 w : World} {H : Hp} {M : List Res} {rules : (List S_api_InterlockRule)} {p1_from : (List S_api_InterlockState)} {to : (List S_api_InterlockState)} {held : (List ByteArray)} {v0 : Value} {v1 : Value} {v2 : Value} {v3 : Value} {r : Bool} (hm : m_gridhallkeep4_OrderSafe rules p1_from to held = some r) (h0 : RdS H v0 rules) (h1 : RdS H v1 p1_from) (h2 : RdS H v2 to) (h3 : RdS H v3 held) (ht : St B w0 H (M) w) :
    Calls Proofs.Try.prog 7 [v0, v1, v2, v3].toArray w (Ret B w0 fun H' M' v => H = H' ∧ M = M' ∧ .bool (r) = v) := by
  unfold m_gridhallkeep4_OrderSafe at hm
  refine enter Proofs.Try.func7 rfl rfl rfl ht ?_
  refine C_seq ?_
  refine C_region ?_
  refine W_assign rfl rfl rfl ?_
  refine W_end ?_
  refine E_then ?_
  refine C_seq ?_
  obtain ⟨hz101, hm⟩ := need_some hm
  obtain ⟨hz105, hm⟩ := need_some hm
  refine C_region_tok 11 (phiT [(fun H rs v => [] = rs ∧ v1 = v), (fun H rs v => [] = rs ∧ v1 = v), (fun H rs v => [] = rs ∧ .int .i64 ((p1_from.length : Int)) = v), (fun H rs v => [] = rs ∧ .int .i64 (min (p1_from.length : Int) 6) = v), (fun H rs v => ∃ v109 : Value, [] = rs ∧ v109 = v ∧ RdS H v109 (slc p1_from 0 ((min (p1_from.length : Int) 6 : Int).toNat))), (fun H rs v => [] = rs ∧ v2 = v), (fun H rs v => [] = rs ∧ v2 = v), (fun H rs v => [] = rs ∧ .int .i64 ((to.length : Int)) = v), (fun H rs v => [] = rs ∧ .int .i64 (min (to.length : Int) 6) = v), (fun H rs v => ∃ v112 : Value, [] = rs ∧ v112 = v ∧ RdS H v112 (slc to 0 ((min (to.length : Int) 6 : Int).toNat))), (fun H rs v => ∃ v109 : Value, [] = rs ∧ v109 = v ∧ RdS H v109 (slc p1_from 0 ((min (p1_from.length : Int) 6 : Int).toNat)))]) [[], [], [], [], [], [], [], [], [], [], []] [[], [], [], [], [], [], [], [], [], [], []] [] [0, 1, 2, 3, 4, 5, 6, 7, 8, 9, 10] [(0, v0), (2, v2), (3, v3), (8, .bool (false))] [[(1, v1)], [(1, v1)], [], [], [], [], [], [], [], [], []] Facts.mixed (by kernel_rfl) rfl rfl (by kernel_rfl) (Kept.lk ⟨rfl, rfl, rfl, rfl, trivial⟩) ⟨⟨rfl, trivial⟩, ⟨rfl, trivial⟩, trivial, trivial, trivial, trivial, trivial, trivial, trivial, trivial, trivial, trivial⟩ rfl (by kernel_rfl) (phiT_mono ⟨eq_monoT _ _, eq_monoT _ _, eq_monoT _ _, eq_monoT _ _, (by rintro H1 H2 rs v hle ⟨v109, rfl, rfl, h110⟩; exact ⟨v109, rfl, rfl, (h110.mono hle)⟩), eq_monoT _ _, eq_monoT _ _, eq_monoT _ _, eq_monoT _ _, (by rintro H1 H2 rs v hle ⟨v112, rfl, rfl, h113⟩; exact ⟨v112, rfl, rfl, (h113.mono hle)⟩), (by rintro H1 H2 rs v hle ⟨v109, rfl, rfl, h110⟩; exact ⟨v109, rfl, rfl, (h110.mono hle)⟩), trivial⟩) ⟨?_, ?_, ?_, ?_, ?_, ?_, ?_, ?_, ?_, ?_, ?_, trivial⟩ ?_
  · intro HX hX X Rest hR
    intro hU
    refine W_move rfl rfl rfl ?_
    exact W_end (OneT_end [] (Hp.le_refl _) ⟨rfl, rfl⟩)
  · intro HX hX X Rest hR
    intro hU
    refine W_move rfl rfl rfl ?_
    exact W_end (OneT_end [] (Hp.le_refl _) ⟨rfl, rfl⟩)
  · intro HX hX X Rest hR
    rintro _ _ ⟨rfl, rfl⟩
    intro hU
    refine W_lenR rfl rfl Proofs.Try.runUnderlying23 rfl (h1.mono hX) ?_
    exact W_end (OneT_end [] (Hp.le_refl _) ⟨rfl, rfl⟩)
  · intro HX hX X Rest hR
    rintro _ _ ⟨rfl, rfl⟩
    intro hU
    refine W_min rfl rfl rfl rfl ?_
    exact W_end (OneT_end [] (Hp.le_refl _) ⟨rfl, rfl⟩)
  · intro HX hX X Rest hR
    rintro _ _ ⟨rfl, rfl⟩
    rintro _ _ ⟨rfl, rfl⟩
    intro hU
    refine W_sliceR (α := S_api_InterlockState) (l := 0) (h := (min (p1_from.length : Int) 6 : Int).toNat) (xs := p1_from) rfl rfl Proofs.Try.runUnderlying23 Proofs.Try.sizeOf33 rfl (h1.mono hX) (by omega) (by omega) (.inl rfl) (fun cap hcap => by rw [if_pos rfl]; exact (.inl ⟨rfl, rfl⟩)) (fun m hmm => (.inr ⟨_, _, _, rfl, rfl, by omega, by omega, rfl⟩)) (.inl ⟨rfl, rfl⟩) ?_
    intro v109 h110 hc111
    exact W_end (OneT_end [] (Hp.le_refl _) ⟨v109, rfl, rfl, (h110)⟩)
  · intro HX hX X Rest hR
    intro hU
    refine W_move rfl rfl rfl ?_
    exact W_end (OneT_end [] (Hp.le_refl _) ⟨rfl, rfl⟩)
  · intro HX hX X Rest hR
    intro hU
    refine W_move rfl rfl rfl ?_
    exact W_end (OneT_end [] (Hp.le_refl _) ⟨rfl, rfl⟩)
  · intro HX hX X Rest hR
    rintro _ _ ⟨rfl, rfl⟩
    intro hU
    refine W_lenR rfl rfl Proofs.Try.runUnderlying23 rfl (h2.mono hX) ?_
    exact W_end (OneT_end [] (Hp.le_refl _) ⟨rfl, rfl⟩)
  · intro HX hX X Rest hR
    rintro _ _ ⟨rfl, rfl⟩
    intro hU
    refine W_min rfl rfl rfl rfl ?_
    exact W_end (OneT_end [] (Hp.le_refl _) ⟨rfl, rfl⟩)
  · intro HX hX X Rest hR
    rintro _ _ ⟨rfl, rfl⟩
    rintro _ _ ⟨rfl, rfl⟩
    intro hU
    refine W_sliceR (α := S_api_InterlockState) (l := 0) (h := (min (to.length : Int) 6 : Int).toNat) (xs := to) rfl rfl Proofs.Try.runUnderlying23 Proofs.Try.sizeOf33 rfl (h2.mono hX) (by omega) (by omega) (.inl rfl) (fun cap hcap => by rw [if_pos rfl]; exact (.inl ⟨rfl, rfl⟩)) (fun m hmm => (.inr ⟨_, _, _, rfl, rfl, by omega, by omega, rfl⟩)) (.inl ⟨rfl, rfl⟩) ?_
    intro v112 h113 hc114
    exact W_end (OneT_end [] (Hp.le_refl _) ⟨v112, rfl, rfl, (h113)⟩)
  · intro HX hX X Rest hR
    rintro _ _ ⟨v109, rfl, rfl, h110⟩
    rintro _ _ ⟨rfl, rfl⟩
    rintro _ _ ⟨rfl, rfl⟩
    rintro _ _ ⟨rfl, rfl⟩
    rintro _ _ ⟨rfl, rfl⟩
    rintro _ _ ⟨v109, rfl, rfl, h110⟩
    intro hU
    refine W_assign rfl rfl rfl ?_
    exact W_end (OneT_end [] (Hp.le_refl _) ⟨v109, rfl, rfl, (h110)⟩)
  intro H115 hle116
  rintro _ _ ⟨rfl, rfl⟩
  rintro _ _ ⟨rfl, rfl⟩
  rintro _ _ ⟨rfl, rfl⟩
  rintro _ _ ⟨rfl, rfl⟩
  rintro _ _ ⟨v109, rfl, rfl, h110⟩
  rintro _ _ ⟨rfl, rfl⟩
  rintro _ _ ⟨rfl, rfl⟩
  rintro _ _ ⟨rfl, rfl⟩
  rintro _ _ ⟨rfl, rfl⟩
  rintro _ _ ⟨v112, rfl, rfl, h113⟩
  rintro _ _ ⟨v109, rfl, rfl, h110⟩
  refine W_assign rfl rfl rfl ?_
  refine W_end ?_
  refine E_then ?_
  refine C_seq ?_
  refine C_region ?_
  refine W_move rfl rfl rfl ?_
  refine W_move rfl rfl rfl ?_
  refine W_move rfl rfl rfl ?_
  refine W_move rfl rfl rfl ?_
  obtain ⟨r117, hc118, hm⟩ := bind_some hm
  refine W_call Proofs.Try.call8 rfl rfl rfl (fun w ht => by have h := m_order_Plan_c (hm := hc118) (h0.mono hle116) h110 h113 (h3.mono hle116) ht; exact h) ?_
  rintro _ _ _ ⟨rfl, v119, xs120, rfl, rfl, h121⟩
  have h121 := h121 H115
  refine W_move rfl rfl rfl ?_
  refine W_extract rfl rfl rfl rfl ?_
  refine W_extract rfl rfl rfl rfl ?_
  refine W_assign rfl rfl rfl ?_
  refine W_assign rfl rfl rfl ?_
  refine W_end ?_
  refine E_then ?_
  refine C_seq ?_
  refine C_seq ?_
  refine C_region ?_
  refine W_move rfl rfl rfl ?_
  refine W_bin rfl rfl rfl rfl rfl ?_
  refine W_end ?_
  refine E_then ?_
  refine C_cond (b := !decide (r117.2 = 0)) rfl (fun hb122 => ?_) (fun hb122 => ?_)
  · have hm := ite_t' hb122 hm
    obtain ⟨r126, hc127, hm⟩ := bind_some hm
    refine C_seq_join (fun H' M' L' => H115 = H' ∧ M = M' ∧ [(8, .bool (r126 && (decide ((r117.1.length : Int) = 0))))] = L') ?_ (fun J128 => ?_)
    · rintro _ _ _ ⟨rfl, rfl, rfl⟩
      refine C_ret ?_
      refine E_ret_then ?_
      obtain rfl := Option.some.inj hm
      refine E_weak hle116 ?_
      exact end1 rfl rfl ⟨rfl, rfl, rfl⟩
    · refine C_region ?_
      refine W_call Proofs.Try.call9 rfl rfl rfl (fun w ht => by have h := m_gridhallkeep4_orderFact_c (hm := hc127)  ht; exact h) ?_
      rintro _ _ _ ⟨rfl, rfl, rfl⟩
      refine W_move rfl rfl rfl ?_
      cases hb129 : (r126)
      · refine W_no rfl rfl rfl ?_
        refine W_no rfl rfl rfl ?_
        refine W_no rfl rfl rfl ?_
        refine W_pick rfl rfl rfl rfl ?_
        refine W_assign rfl rfl rfl ?_
        refine W_end ?_
        refine E_drop (List.Sublist.cons _ (List.Sublist.refl _)) ?_
        exact E_keepJ (J128 _ _ _ ⟨rfl, rfl, rfl⟩) (List.Perm.refl _) ⟨(by show some (Value.bool (false)) = some (Value.bool (r126 && (decide ((r117.1.length : Int) = 0)))); simp only [hb122, hb129, Bool.and_true, Bool.true_and, Bool.false_and, Bool.and_false, Bool.or_true, Bool.true_or, Bool.or_false, Bool.false_or, Bool.not_true, Bool.not_false]), trivial⟩
      · refine W_move rfl rfl rfl ?_
        refine W_lenO (List.mem_cons_self ..) rfl rfl Proofs.Try.runUnderlying25 rfl ?_
        refine W_bin rfl rfl rfl rfl rfl ?_
        refine W_pick rfl rfl rfl rfl ?_
        refine W_assign rfl rfl rfl ?_
        refine W_end ?_
        refine E_drop (List.Sublist.cons _ (List.Sublist.refl _)) ?_
        exact E_keepJ (J128 _ _ _ ⟨rfl, rfl, rfl⟩) (List.Perm.refl _) ⟨(by show some (Value.bool (decide ((r117.1.length : Int) = 0))) = some (Value.bool (r126 && (decide ((r117.1.length : Int) = 0)))); simp only [hb122, hb129, Bool.and_true, Bool.true_and, Bool.false_and, Bool.and_false, Bool.or_true, Bool.true_or, Bool.or_false, Bool.false_or, Bool.not_true, Bool.not_false]), trivial⟩
  · have hm := ite_f' hb122 hm
    refine C_skip ?_
    refine E_then ?_
    refine C_seq ?_
    refine C_region ?_
    refine W_move rfl rfl rfl ?_
    refine W_move rfl rfl rfl ?_
    refine W_move rfl rfl rfl ?_
    refine W_move rfl rfl rfl ?_
    obtain ⟨r130, hc131, hm⟩ := bind_some hm
    refine W_call Proofs.Try.call16 rfl rfl rfl (fun w ht => by obtain ⟨H0_, hl0_, ht0_, hr0_, bk0_⟩ := ht.lendRow h121 rfl; have h := m_order_Verify_c (hm := hc131) ((h0.mono hle116).mono hl0_) (h110.mono hl0_) ((h3.mono hle116).mono hl0_) hr0_ ht0_; exact lend_back bk0_ (h)) ?_
    rintro _ _ _ ⟨rfl, ⟨_, rfl, v132, xs133, rfl, rfl, h134⟩⟩
    have h134 := h134 H115
    refine W_move rfl rfl rfl ?_
    refine W_extract rfl rfl rfl rfl ?_
    refine W_extract rfl rfl rfl rfl ?_
    refine W_extract rfl rfl rfl rfl ?_
    refine W_assign rfl rfl rfl ?_
    refine W_assign rfl rfl rfl ?_
    refine W_assign rfl rfl rfl ?_
    refine W_end ?_
    refine E_then ?_
    refine C_seq ?_
    refine C_region ?_
    refine W_assign rfl rfl rfl ?_
    refine W_end ?_
    refine E_then ?_
    refine C_seq ?_
    refine C_seq ?_
    refine C_region ?_
    refine W_move rfl rfl rfl ?_
    refine W_lenR rfl rfl Proofs.Try.runUnderlying23 rfl h110 ?_
    refine W_move rfl rfl rfl ?_
    refine W_end ?_
    refine E_then ?_
    refine C_block ?_
    refine C_keep (L' := [(2, v112), (9, v119), (11, v132), (12, .int .i64 (r130.2.1)), (13, .int .i64 (r130.2.2)), (14, .int .i64 (0)), (52, v109), (53, .int .i64 (((slc p1_from 0 ((min (p1_from.length : Int) 6 : Int).toNat)).length : Int))), (54, .int .i64 (((0 : Nat) : Int)))]) ⟨rfl, rfl, rfl, rfl, rfl, rfl, rfl, rfl, rfl, trivial⟩ (List.Perm.refl _) ?_
    refine C_loop (fun n H' M' L' => ∃ (k135 : Nat) (zs206' : List S_api_InterlockState), ∃ n198 : Int, (slc p1_from 0 ((min (p1_from.length : Int) 6 : Int).toNat)).drop k135 = zs206' ∧ zs206'.length = n ∧ forI (fun k y s201 n => m_gridhallkeep4_OrderSafe_b3 to k y s201 n) (fun s201 => (m_gridhallkeep4_orderFact).bind fun r239 => if r239 then (if decide (r130.2.2 = 0) then (if decide (r130.2.1 = 0) then ((m_slices_Equal_api_InterlockState_api_InterlockState r130.1 (slc to 0 ((min (to.length : Int) 6 : Int).toNat))).bind fun r244 => if r244 then (if decide (s201 ≤ (r117.1.length : Int)) then (some (decide ((Int.tmod (IntKind.i64.wrap ((r117.1.length : Int) - s201)) 2) = 0))) else (some false)) else (some false)) else (some false)) else (some false)) else (some false)) k135 zs206' n198 = some r ∧ H115.le H' ∧ .row v119 36 (Rep.sz S_api_OrderStep) r117.1.length xs120 :: .row v132 33 (Rep.sz S_api_InterlockState) r130.1.length xs133 :: M = M' ∧ [(2, v112), (9, v119), (11, v132), (12, .int .i64 (r130.2.1)), (13, .int .i64 (r130.2.2)), (14, .int .i64 (n198)), (52, v109), (53, .int .i64 (((slc p1_from 0 ((min (p1_from.length : Int) 6 : Int).toNat)).length : Int))), (54, .int .i64 ((k135 : Int)))] = L') _ ⟨0, _, 0, rfl, rfl, hm, (Hp.le_refl _), rfl, rfl⟩ ?_
    rintro _ H199 _ _ ⟨k135, zs206', n198, hd208, rfl, hm, hle200, rfl, rfl⟩
    refine C_seq ?_
    refine C_region ?_
    refine W_bin rfl rfl rfl rfl rfl ?_
    refine W_end (E_then ?_)
    refine C_seq ?_
    refine C_cond (b := decide ((k135 : Int) < ((slc p1_from 0 ((min (p1_from.length : Int) 6 : Int).toNat)).length : Int))) rfl (fun hb210 => ?_) (fun hb210 => ?_)
    · obtain ⟨y205, zs206, rfl, hy207, hd209⟩ := rng_t hd208 hb210
      have hm : m_gridhallkeep4_OrderSafe_b3 to k135 y205 n198 (forI (fun k y s201 n => m_gridhallkeep4_OrderSafe_b3 to k y s201 n) (fun s201 => (m_gridhallkeep4_orderFact).bind fun r239 => if r239 then (if decide (r130.2.2 = 0) then (if decide (r130.2.1 = 0) then ((m_slices_Equal_api_InterlockState_api_InterlockState r130.1 (slc to 0 ((min (to.length : Int) 6 : Int).toNat))).bind fun r244 => if r244 then (if decide (s201 ≤ (r117.1.length : Int)) then (some (decide ((Int.tmod (IntKind.i64.wrap ((r117.1.length : Int) - s201)) 2) = 0))) else (some false)) else (some false)) else (some false)) else (some false)) else (some false)) (k135 + 1) zs206) = some r := hm
      generalize hn203 : forI (fun k y s201 n => m_gridhallkeep4_OrderSafe_b3 to k y s201 n) (fun s201 => (m_gridhallkeep4_orderFact).bind fun r239 => if r239 then (if decide (r130.2.2 = 0) then (if decide (r130.2.1 = 0) then ((m_slices_Equal_api_InterlockState_api_InterlockState r130.1 (slc to 0 ((min (to.length : Int) 6 : Int).toNat))).bind fun r244 => if r244 then (if decide (s201 ≤ (r117.1.length : Int)) then (some (decide ((Int.tmod (IntKind.i64.wrap ((r117.1.length : Int) - s201)) 2) = 0))) else (some false)) else (some false)) else (some false)) else (some false)) else (some false)) (k135 + 1) zs206 = nx202 at hm
      unfold m_gridhallkeep4_OrderSafe_b3 at hm
      refine C_skip (E_then ?_)
      refine C_seq_join (fun H' M' L' => ∃ n223 : Int, m_gridhallkeep4_OrderSafe_b4 nx202 n223 = some r ∧ H199.le H' ∧ .row v119 36 (Rep.sz S_api_OrderStep) r117.1.length xs120 :: .row v132 33 (Rep.sz S_api_InterlockState) r130.1.length xs133 :: M = M' ∧ [(2, v112), (9, v119), (11, v132), (12, .int .i64 (r130.2.1)), (13, .int .i64 (r130.2.2)), (14, .int .i64 (n223)), (52, v109), (53, .int .i64 (((slc p1_from 0 ((min (p1_from.length : Int) 6 : Int).toNat)).length : Int))), (54, .int .i64 ((k135 : Int)))] = L') ?_ (fun J226 => ?_)
      · rintro H224 _ _ ⟨n223, hm, hle225, rfl, rfl⟩
        unfold m_gridhallkeep4_OrderSafe_b4 at hm
        refine C_region ?_
        refine W_bin rfl rfl rfl rfl rfl ?_
        refine W_move rfl rfl rfl ?_
        refine W_end ?_
        exact E_keepJ (E_back (Nat.lt_succ_self _) ⟨k135 + 1, zs206, n223, hd209, rfl, (by rw [hn203]; exact hm), (Hp.le_trans hle200 hle225), rfl, rfl⟩) (List.Perm.refl _) ⟨rfl, rfl, rfl, rfl, rfl, rfl, rfl, rfl, (congrArg (fun z => some (Value.int .i64 z)) (i64_succ hy207 ((h110.mono hle200)).lenMax)), trivial⟩
      · refine C_block ?_
        refine C_seq ?_
        refine C_region ?_
        refine W_move rfl rfl rfl ?_
        obtain ⟨_, ⟨rfl⟩, hc227⟩ := (h110).elem hy207
        refine W_indexS rfl rfl Proofs.Try.runUnderlying23 Proofs.Try.sizeOf33 rfl (h110.mono hle200) rfl (Int.natCast_nonneg _) hy207 ?_
        refine W_loadAgg rfl rfl Proofs.Try.isAgg33 Proofs.Try.sizeOf33 rfl (hc227.mono hle200).at rfl ?_
        refine W_alloc (cs := [.string (⟨#[]⟩), .bool (false)]) rfl rfl Proofs.Try.zeroValue33 rfl (fun b228 => ?_)
        refine W_assign rfl rfl rfl ?_
        refine W_store (cs := [.string (y205.Name), .bool (y205.Closed)]) (out := [.string (y205.Name), .bool (y205.Closed)]) rfl Proofs.Try.sizeOf33 rfl rfl rfl rfl rfl (all_cons rfl (all_cons rfl all_nil)) (over_all rfl) ?_
        refine W_end ?_
        refine E_then ?_
        refine C_seq ?_
        cases hb229 : (decide (((slc to 0 ((min (to.length : Int) 6 : Int).toNat)).length : Int) ≤ (k135 : Int)))
        · have hm := ite_f' hb229 hm
          obtain ⟨y230, h231, he232, hm⟩ := idx_some hm
          obtain ⟨_, ⟨rfl⟩, hc233⟩ := (h113).elem he232
          refine C_region_tok0 10 (phiT [(fun H rs v => [] = rs ∧ .int .i64 ((k135 : Int)) = v), (fun H rs v => [] = rs ∧ v112 = v), (fun H rs v => [] = rs ∧ .int .i64 (((slc to 0 ((min (to.length : Int) 6 : Int).toNat)).length : Int)) = v), (fun H rs v => [] = rs ∧ .bool (false) = v), (fun H rs v => [] = rs ∧ .bool (false) = v), (fun H rs v => [] = rs ∧ .agg [.string (y205.Name), .bool (y205.Closed)].toArray = v), (fun H rs v => [] = rs ∧ v112 = v), (fun H rs v => [] = rs ∧ .int .i64 ((k135 : Int)) = v), (fun H rs v => [] = rs ∧ .pointer (some ((Value.base (v112)).add (((k135 : Int) : Int).toNat * 2))) = v), (fun H rs v => [] = rs ∧ .agg [.string (y230.Name), .bool (y230.Closed)].toArray = v)]) [[], [], [], [], [], [], [], [], [], []] [[], [], [], [], [], [], [], [], [], []] [] [0, 1, 2, 3, 4, 5, 6, 7, 8, 9] Facts.mixed (by kernel_rfl) rfl rfl rfl (by kernel_rfl) (phiT_mono ⟨eq_monoT _ _, eq_monoT _ _, eq_monoT _ _, eq_monoT _ _, eq_monoT _ _, eq_monoT _ _, eq_monoT _ _, eq_monoT _ _, eq_monoT _ _, eq_monoT _ _, trivial⟩) ⟨?_, ?_, ?_, ?_, ?_, ?_, ?_, ?_, ?_, ?_, trivial⟩ ?_
          · intro HX hX X Rest hR
            intro hU
            refine W_move rfl rfl rfl ?_
            exact W_end (OneT_end [] (Hp.le_refl _) ⟨rfl, rfl⟩)
          · intro HX hX X Rest hR
            intro hU
            refine W_move rfl rfl rfl ?_
            exact W_end (OneT_end [] (Hp.le_refl _) ⟨rfl, rfl⟩)
          · intro HX hX X Rest hR
            rintro _ _ ⟨rfl, rfl⟩
            intro hU
            refine W_lenR rfl rfl Proofs.Try.runUnderlying23 rfl ((h113.mono hle200).mono hX) ?_
            exact W_end (OneT_end [] (Hp.le_refl _) ⟨rfl, rfl⟩)
          · intro HX hX X Rest hR
            rintro _ _ ⟨rfl, rfl⟩
            rintro _ _ ⟨rfl, rfl⟩
            intro hU
            refine W_bin rfl rfl rfl rfl rfl ?_
            exact W_end (OneT_end [] (Hp.le_refl _) ⟨rfl, (by rw [hb229]; try rfl)⟩)
          · intro HX hX X Rest hR
            rintro _ _ ⟨rfl, rfl⟩
            intro hU
            refine W_move rfl rfl rfl ?_
            exact W_end (OneT_end [] (Hp.le_refl _) ⟨rfl, rfl⟩)
          · intro HX hX X Rest hR
            rintro _ _ ⟨rfl, rfl⟩
            intro hU
            refine W_loadAgg rfl rfl Proofs.Try.isAgg33 Proofs.Try.sizeOf33 rfl (own_all (hR _ (List.mem_cons_self ..))) rfl ?_
            exact W_end (OneT_end [] (Hp.le_refl _) ⟨rfl, rfl⟩)
          · intro HX hX X Rest hR
            rintro _ _ ⟨rfl, rfl⟩
            intro hU
            refine W_move rfl rfl rfl ?_
            exact W_end (OneT_end [] (Hp.le_refl _) ⟨rfl, rfl⟩)
          · intro HX hX X Rest hR
            rintro _ _ ⟨rfl, rfl⟩
            intro hU
            refine W_move rfl rfl rfl ?_
            exact W_end (OneT_end [] (Hp.le_refl _) ⟨rfl, rfl⟩)
          · intro HX hX X Rest hR
            rintro _ _ ⟨rfl, rfl⟩
            rintro _ _ ⟨rfl, rfl⟩
            rintro _ _ ⟨rfl, rfl⟩
            intro hU
            refine W_indexS rfl rfl Proofs.Try.runUnderlying23 Proofs.Try.sizeOf33 rfl ((h113.mono hle200).mono hX) rfl h231 he232 ?_
            exact W_end (OneT_end [] (Hp.le_refl _) ⟨rfl, rfl⟩)
          · intro HX hX X Rest hR
            rintro _ _ ⟨rfl, rfl⟩
            rintro _ _ ⟨rfl, rfl⟩
            intro hU
            refine W_loadAgg rfl rfl Proofs.Try.isAgg33 Proofs.Try.sizeOf33 rfl ((hc233.mono hle200).mono hX).at rfl ?_
            exact W_end (OneT_end [] (Hp.le_refl _) ⟨rfl, rfl⟩)
          intro H234 hle235
          rintro _ _ ⟨rfl, rfl⟩
          rintro _ _ ⟨rfl, rfl⟩
          rintro _ _ ⟨rfl, rfl⟩
          rintro _ _ ⟨rfl, rfl⟩
          rintro _ _ ⟨rfl, rfl⟩
          rintro _ _ ⟨rfl, rfl⟩
          rintro _ _ ⟨rfl, rfl⟩
          rintro _ _ ⟨rfl, rfl⟩
          rintro _ _ ⟨rfl, rfl⟩
          rintro _ _ ⟨rfl, rfl⟩
          refine W_neAgg (b := decide (y205.Name = y230.Name) && (decide (y205.Closed = y230.Closed) && true)) rfl rfl (by kernel_rfl) rfl rfl (fun w => run_equal_struct (bs := [decide (y205.Name = y230.Name), decide (y205.Closed = y230.Closed)]) Proofs.Try.runUnderlying33 (by kernel_rfl) ⟨(by decide), (fldEq_str Proofs.Try.isAgg9 Proofs.Try.runUnderlying9 rfl rfl), (by decide), (fldEq_bool Proofs.Try.isAgg4 Proofs.Try.runUnderlying4 rfl rfl), trivial⟩) ?_
          refine W_pick rfl rfl rfl rfl ?_
          refine W_end ?_
          refine E_then ?_
          refine C_cond (b := !(decide (y205.Name = y230.Name) && (decide (y205.Closed = y230.Closed) && true))) rfl (fun hb236 => ?_) (fun hb236 => ?_)
          · have hm := ite_t' hb236 hm
            refine C_region ?_
            refine W_move rfl rfl rfl ?_
            refine W_bin rfl rfl rfl rfl rfl ?_
            refine W_assign rfl rfl rfl ?_
            refine W_end ?_
            refine E_normal_block ?_
            refine E_drop (List.Sublist.cons _ (List.Sublist.refl _)) ?_
            exact E_keepJ (J226 _ _ _ ⟨IntKind.i64.wrap (n198 + 1), hm, hle235, rfl, rfl⟩) (List.Perm.refl _) ⟨rfl, rfl, rfl, rfl, rfl, rfl, rfl, rfl, rfl, trivial⟩
          · have hm := ite_f' hb236 hm
            refine C_skip ?_
            refine E_normal_block ?_
            refine E_drop (List.Sublist.cons _ (List.Sublist.refl _)) ?_
            exact E_keepJ (J226 _ _ _ ⟨n198, hm, hle235, rfl, rfl⟩) (List.Perm.refl _) ⟨rfl, rfl, rfl, rfl, rfl, rfl, rfl, rfl, rfl, trivial⟩
        · have hm := ite_t' hb229 hm
          refine C_region_tok0 10 (phiT [(fun H rs v => [] = rs ∧ .int .i64 ((k135 : Int)) = v), (fun H rs v => [] = rs ∧ v112 = v), (fun H rs v => [] = rs ∧ .int .i64 (((slc to 0 ((min (to.length : Int) 6 : Int).toNat)).length : Int)) = v), (fun H rs v => [] = rs ∧ .bool (true) = v), (fun H rs v => [] = rs ∧ .bool (true) = v), (fun H rs v => [] = rs ∧ undef = v), (fun H rs v => [] = rs ∧ undef = v), (fun H rs v => [] = rs ∧ undef = v), (fun H rs v => [] = rs ∧ undef = v), (fun H rs v => [] = rs ∧ undef = v)]) [[], [], [], [], [], [], [], [], [], []] [[], [], [], [], [], [], [], [], [], []] [] [0, 1, 2, 3, 4, 5, 6, 7, 8, 9] Facts.mixed (by kernel_rfl) rfl rfl rfl (by kernel_rfl) (phiT_mono ⟨eq_monoT _ _, eq_monoT _ _, eq_monoT _ _, eq_monoT _ _, eq_monoT _ _, eq_monoT _ _, eq_monoT _ _, eq_monoT _ _, eq_monoT _ _, eq_monoT _ _, trivial⟩) ⟨?_, ?_, ?_, ?_, ?_, ?_, ?_, ?_, ?_, ?_, trivial⟩ ?_
          · intro HX hX X Rest hR
            intro hU
            refine W_move rfl rfl rfl ?_
            exact W_end (OneT_end [] (Hp.le_refl _) ⟨rfl, rfl⟩)
          · intro HX hX X Rest hR
            intro hU
            refine W_move rfl rfl rfl ?_
            exact W_end (OneT_end [] (Hp.le_refl _) ⟨rfl, rfl⟩)
          · intro HX hX X Rest hR
            rintro _ _ ⟨rfl, rfl⟩
            intro hU
            refine W_lenR rfl rfl Proofs.Try.runUnderlying23 rfl ((h113.mono hle200).mono hX) ?_
            exact W_end (OneT_end [] (Hp.le_refl _) ⟨rfl, rfl⟩)
          · intro HX hX X Rest hR
            rintro _ _ ⟨rfl, rfl⟩
            rintro _ _ ⟨rfl, rfl⟩
            intro hU
            refine W_bin rfl rfl rfl rfl rfl ?_
            exact W_end (OneT_end [] (Hp.le_refl _) ⟨rfl, (by rw [hb229]; try rfl)⟩)
          · intro HX hX X Rest hR
            rintro _ _ ⟨rfl, rfl⟩
            intro hU
            refine W_move rfl rfl rfl ?_
            exact W_end (OneT_end [] (Hp.le_refl _) ⟨rfl, rfl⟩)
          · intro HX hX X Rest hR
            rintro _ _ ⟨rfl, rfl⟩
            intro hU
            refine W_no rfl rfl rfl ?_
            exact W_end (OneT_end [] (Hp.le_refl _) ⟨rfl, rfl⟩)
          · intro HX hX X Rest hR
            rintro _ _ ⟨rfl, rfl⟩
            intro hU
            refine W_no rfl rfl rfl ?_
            exact W_end (OneT_end [] (Hp.le_refl _) ⟨rfl, rfl⟩)
          · intro HX hX X Rest hR
            rintro _ _ ⟨rfl, rfl⟩
            intro hU
            refine W_no rfl rfl rfl ?_
            exact W_end (OneT_end [] (Hp.le_refl _) ⟨rfl, rfl⟩)
          · intro HX hX X Rest hR
            rintro _ _ ⟨rfl, rfl⟩
            rintro _ _ ⟨rfl, rfl⟩
            rintro _ _ ⟨rfl, rfl⟩
            intro hU
            refine W_no rfl rfl rfl ?_
            exact W_end (OneT_end [] (Hp.le_refl _) ⟨rfl, rfl⟩)
          · intro HX hX X Rest hR
            rintro _ _ ⟨rfl, rfl⟩
            rintro _ _ ⟨rfl, rfl⟩
            intro hU
            refine W_no rfl rfl rfl ?_
            exact W_end (OneT_end [] (Hp.le_refl _) ⟨rfl, rfl⟩)
          intro H237 hle238
          rintro _ _ ⟨rfl, rfl⟩
          rintro _ _ ⟨rfl, rfl⟩
          rintro _ _ ⟨rfl, rfl⟩
          rintro _ _ ⟨rfl, rfl⟩
          rintro _ _ ⟨rfl, rfl⟩
          rintro _ _ ⟨rfl, rfl⟩
          rintro _ _ ⟨rfl, rfl⟩
          rintro _ _ ⟨rfl, rfl⟩
          rintro _ _ ⟨rfl, rfl⟩
          rintro _ _ ⟨rfl, rfl⟩
          refine W_no rfl rfl rfl ?_
          refine W_pick rfl rfl rfl rfl ?_
          refine W_end ?_
          refine E_then ?_
          refine C_cond (b := true) rfl (fun _ => ?_) (fun hb => Bool.noConfusion hb)
          refine C_region ?_
          refine W_move rfl rfl rfl ?_
          refine W_bin rfl rfl rfl rfl rfl ?_
          refine W_assign rfl rfl rfl ?_
          refine W_end ?_
          refine E_normal_block ?_
          refine E_drop (List.Sublist.cons _ (List.Sublist.refl _)) ?_
          exact E_keepJ (J226 _ _ _ ⟨IntKind.i64.wrap (n198 + 1), hm, hle238, rfl, rfl⟩) (List.Perm.refl _) ⟨rfl, rfl, rfl, rfl, rfl, rfl, rfl, rfl, rfl, trivial⟩
    · obtain rfl := rng_f hd208 hb210
      have hm : ((m_gridhallkeep4_orderFact).bind fun r239 => if r239 then (if decide (r130.2.2 = 0) then (if decide (r130.2.1 = 0) then ((m_slices_Equal_api_InterlockState_api_InterlockState r130.1 (slc to 0 ((min (to.length : Int) 6 : Int).toNat))).bind fun r244 => if r244 then (if decide (n198 ≤ (r117.1.length : Int)) then (some (decide ((Int.tmod (IntKind.i64.wrap ((r117.1.length : Int) - n198)) 2) = 0))) else (some false)) else (some false)) else (some false)) else (some false)) else (some false)) = some r := hm
      refine C_exit (E_exit_then ?_)
      refine E_exit_then ?_
      refine E_exit_hit ?_
      refine E_then ?_
      refine C_seq ?_
      refine C_region ?_
      obtain ⟨r239, hc240, hm⟩ := bind_some hm
      refine W_call Proofs.Try.call9 rfl rfl rfl (fun w ht => by have h := m_gridhallkeep4_orderFact_c (hm := hc240)  ht; exact h) ?_
      rintro _ _ _ ⟨rfl, rfl, rfl⟩
      refine W_move rfl rfl rfl ?_
      cases hb241 : (r239)
      · have hm := ite_f' hb241 hm
        refine W_no rfl rfl rfl ?_
        refine W_no rfl rfl rfl ?_
        refine W_pick rfl rfl rfl rfl ?_
        refine W_move rfl rfl rfl ?_
        refine W_no rfl rfl rfl ?_
        refine W_no rfl rfl rfl ?_
        refine W_pick rfl rfl rfl rfl ?_
        refine W_move rfl rfl rfl ?_
        refine W_no rfl rfl rfl ?_
        refine W_no rfl rfl rfl ?_
        refine W_no rfl rfl rfl ?_
        refine W_pick rfl rfl rfl rfl ?_
        refine W_move rfl rfl rfl ?_
        refine W_no rfl rfl rfl ?_
        refine W_no rfl rfl rfl ?_
        refine W_no rfl rfl rfl ?_
        refine W_no rfl rfl rfl ?_
        refine W_pick rfl rfl rfl rfl ?_
        refine W_move rfl rfl rfl ?_
        refine W_no rfl rfl rfl ?_
        refine W_no rfl rfl rfl ?_
        refine W_no rfl rfl rfl ?_
        refine W_no rfl rfl rfl ?_
        refine W_no rfl rfl rfl ?_
        refine W_no rfl rfl rfl ?_
        refine W_pick rfl rfl rfl rfl ?_
        refine W_assign rfl rfl rfl ?_
        refine W_end ?_
        refine E_then ?_
        refine C_ret ?_
        obtain rfl := Option.some.inj hm
        refine E_drop (List.Sublist.cons _ (List.Sublist.cons _ (List.Sublist.refl _))) ?_
        refine E_weak (Hp.le_trans hle116 hle200) ?_
        exact end1 rfl rfl ⟨rfl, rfl, rfl⟩
      · have hm := ite_t' hb241 hm
        refine W_move rfl rfl rfl ?_
        refine W_bin rfl rfl rfl rfl rfl ?_
        refine W_pick rfl rfl rfl rfl ?_
        refine W_move rfl rfl rfl ?_
        cases hb242 : (decide (r130.2.2 = 0))
        · have hm := ite_f' hb242 hm
          refine W_no rfl rfl rfl ?_
          refine W_no rfl rfl rfl ?_
          refine W_pick rfl rfl rfl rfl ?_
          refine W_move rfl rfl rfl ?_
          refine W_no rfl rfl rfl ?_
          refine W_no rfl rfl rfl ?_
          refine W_no rfl rfl rfl ?_
          refine W_pick rfl rfl rfl rfl ?_
          refine W_move rfl rfl rfl ?_
          refine W_no rfl rfl rfl ?_
          refine W_no rfl rfl rfl ?_
          refine W_no rfl rfl rfl ?_
          refine W_no rfl rfl rfl ?_
          refine W_pick rfl rfl rfl rfl ?_
          refine W_move rfl rfl rfl ?_
          refine W_no rfl rfl rfl ?_
          refine W_no rfl rfl rfl ?_
          refine W_no rfl rfl rfl ?_
          refine W_no rfl rfl rfl ?_
          refine W_no rfl rfl rfl ?_
          refine W_no rfl rfl rfl ?_
          refine W_pick rfl rfl rfl rfl ?_
          refine W_assign rfl rfl rfl ?_
          refine W_end ?_
          refine E_then ?_
          refine C_ret ?_
          obtain rfl := Option.some.inj hm
          refine E_drop (List.Sublist.cons _ (List.Sublist.cons _ (List.Sublist.refl _))) ?_
          refine E_weak (Hp.le_trans hle116 hle200) ?_
          exact end1 rfl rfl ⟨rfl, rfl, rfl⟩
        · have hm := ite_t' hb242 hm
          refine W_move rfl rfl rfl ?_
          refine W_bin rfl rfl rfl rfl rfl ?_
          refine W_pick rfl rfl rfl rfl ?_
          refine W_move rfl rfl rfl ?_
          cases hb243 : (decide (r130.2.1 = 0))
          · have hm := ite_f' hb243 hm
            refine W_no rfl rfl rfl ?_
            refine W_no rfl rfl rfl ?_
            refine W_no rfl rfl rfl ?_
            refine W_pick rfl rfl rfl rfl ?_
            refine W_move rfl rfl rfl ?_
            refine W_no rfl rfl rfl ?_
            refine W_no rfl rfl rfl ?_
            refine W_no rfl rfl rfl ?_
            refine W_no rfl rfl rfl ?_
            refine W_pick rfl rfl rfl rfl ?_
            refine W_move rfl rfl rfl ?_
            refine W_no rfl rfl rfl ?_
            refine W_no rfl rfl rfl ?_
            refine W_no rfl rfl rfl ?_
            refine W_no rfl rfl rfl ?_
            refine W_no rfl rfl rfl ?_
            refine W_no rfl rfl rfl ?_
            refine W_pick rfl rfl rfl rfl ?_
            refine W_assign rfl rfl rfl ?_
            refine W_end ?_
            refine E_then ?_
            refine C_ret ?_
            obtain rfl := Option.some.inj hm
            refine E_drop (List.Sublist.cons _ (List.Sublist.cons _ (List.Sublist.refl _))) ?_
            refine E_weak (Hp.le_trans hle116 hle200) ?_
            exact end1 rfl rfl ⟨rfl, rfl, rfl⟩
          · have hm := ite_t' hb243 hm
            refine W_move rfl rfl rfl ?_
            refine W_move rfl rfl rfl ?_
            refine W_perm (List.Perm.swap _ _ _) ?_
            obtain ⟨r244, hc245, hm⟩ := bind_some hm
            refine W_call Proofs.Try.call17 rfl rfl rfl (fun w ht => by obtain ⟨H0_, hl0_, ht0_, hr0_, bk0_⟩ := ht.lendRow (h134.mono hle200) rfl; have h := m_slices_Equal_api_InterlockState_api_InterlockState_c (hm := hc245) hr0_ ((h113.mono hle200).mono hl0_) ht0_; exact lend_back bk0_ (h)) ?_
            rintro _ _ _ ⟨rfl, ⟨_, rfl, rfl, rfl⟩⟩
            refine W_pick rfl rfl rfl rfl ?_
            refine W_move rfl rfl rfl ?_
            cases hb246 : (r244)
            · have hm := ite_f' hb246 hm
              refine W_no rfl rfl rfl ?_
              refine W_no rfl rfl rfl ?_
              refine W_no rfl rfl rfl ?_
              refine W_no rfl rfl rfl ?_
              refine W_pick rfl rfl rfl rfl ?_
              refine W_move rfl rfl rfl ?_
              refine W_no rfl rfl rfl ?_
              refine W_no rfl rfl rfl ?_
              refine W_no rfl rfl rfl ?_
              refine W_no rfl rfl rfl ?_
              refine W_no rfl rfl rfl ?_
              refine W_no rfl rfl rfl ?_
              refine W_pick rfl rfl rfl rfl ?_
              refine W_assign rfl rfl rfl ?_
              refine W_end ?_
              refine E_then ?_
              refine C_ret ?_
              obtain rfl := Option.some.inj hm
              refine E_drop (List.Sublist.cons _ (List.Sublist.cons _ (List.Sublist.refl _))) ?_
              refine E_weak (Hp.le_trans hle116 hle200) ?_
              exact end1 rfl rfl ⟨rfl, rfl, rfl⟩
            · have hm := ite_t' hb246 hm
              refine W_move rfl rfl rfl ?_
              refine W_lenO (List.mem_cons_of_mem _ (List.mem_cons_self ..)) rfl rfl Proofs.Try.runUnderlying25 rfl ?_
              refine W_move rfl rfl rfl ?_
              refine W_bin rfl rfl rfl rfl rfl ?_
              refine W_pick rfl rfl rfl rfl ?_
              refine W_move rfl rfl rfl ?_
              cases hb247 : (decide (n198 ≤ (r117.1.length : Int)))
              · have hm := ite_f' hb247 hm
                refine W_no rfl rfl rfl ?_
                refine W_no rfl rfl rfl ?_
                refine W_no rfl rfl rfl ?_
                refine W_no rfl rfl rfl ?_
                refine W_no rfl rfl rfl ?_
                refine W_no rfl rfl rfl ?_
                refine W_pick rfl rfl rfl rfl ?_
                refine W_assign rfl rfl rfl ?_
                refine W_end ?_
                refine E_then ?_
                refine C_ret ?_
                obtain rfl := Option.some.inj hm
                refine E_drop (List.Sublist.cons _ (List.Sublist.cons _ (List.Sublist.refl _))) ?_
                refine E_weak (Hp.le_trans hle116 hle200) ?_
                exact end1 rfl rfl ⟨rfl, rfl, rfl⟩
              · have hm := ite_t' hb247 hm
                refine W_move rfl rfl rfl ?_
                refine W_lenO (List.mem_cons_of_mem _ (List.mem_cons_self ..)) rfl rfl Proofs.Try.runUnderlying25 rfl ?_
                refine W_move rfl rfl rfl ?_
                refine W_bin rfl rfl rfl rfl rfl ?_
                refine W_rem rfl rfl rfl rfl (by decide) ?_
                refine W_bin rfl rfl rfl rfl rfl ?_
                refine W_pick rfl rfl rfl rfl ?_
                refine W_assign rfl rfl rfl ?_
                refine W_end ?_
                refine E_then ?_
                refine C_ret ?_
                obtain rfl := Option.some.inj hm
                refine E_drop (List.Sublist.cons _ (List.Sublist.cons _ (List.Sublist.refl _))) ?_
                refine E_weak (Hp.le_trans hle116 hle200) ?_
                exact end1 rfl rfl ⟨rfl, rfl, rfl⟩
end Go.Sim
