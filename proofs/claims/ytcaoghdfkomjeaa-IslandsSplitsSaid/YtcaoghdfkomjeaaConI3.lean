/-
  Printed by a program: each Go function computes its model.
-/
import Derived.Test.YtcaoghdfkomjeaaConI2
namespace Go.Sim
open Go
set_option linter.unusedVariables false
set_option linter.unusedSimpArgs false
set_option maxRecDepth 100000
theorem m_gridhallkeep4_IslandsShares_c {B : Nat} {w0 w : World} {H : Hp} {M : List Res} {p0_n : S_api_Network} {v0 : Value} {v1 : Value} {v2 : Value} {v3 : Value} {v4 : Value} {v5 : Value} {r : Bool} (hm : m_gridhallkeep4_IslandsShares p0_n = some r) (h0 : RdS H v0 p0_n.Nodes) (h1 : RdS H v1 p0_n.Switches) (h2 : RdS H v2 p0_n.Branches) (h3 : RdS H v3 p0_n.Gens) (h4 : RdS H v4 p0_n.Loads) (h5 : RdS H v5 p0_n.Stores) (ht : St B w0 H (M) w) :
    Calls Proofs.Try.prog 3 [.agg [v0, v1, v2, v3, v4, v5].toArray].toArray w (Ret B w0 fun H' M' v => H = H' ∧ M = M' ∧ .bool (r) = v) := by
  unfold m_gridhallkeep4_IslandsShares at hm
  refine enter Proofs.Try.func3 rfl rfl rfl ht ?_
  refine C_seq ?_
  refine C_region ?_
  refine W_box (cs := [v0, v1, v2, v3, v4, v5]) rfl rfl rfl rfl (fun b101 => ?_)
  refine W_assign rfl rfl rfl ?_
  refine W_end ?_
  refine E_then ?_
  refine C_seq ?_
  refine C_region ?_
  refine W_loadAgg rfl rfl Proofs.Try.isAgg29 Proofs.Try.sizeOf29 rfl (own_all (List.mem_cons_self ..)) rfl ?_
  obtain ⟨r102, hc103, hm⟩ := bind_some hm
  refine W_call Proofs.Try.call9 rfl rfl rfl (fun w ht => by have h := m_islands_Share_c (hm := hc103) h0 h1 h2 h3 h4 h5 ht; exact h) ?_
  rintro _ _ _ ⟨rfl, v104, xs105, rfl, rfl, h106⟩
  have h106 := h106 H
  refine W_move rfl rfl rfl ?_
  refine W_extract rfl rfl rfl rfl ?_
  refine W_extract rfl rfl rfl rfl ?_
  refine W_assign rfl rfl rfl ?_
  refine W_assign rfl rfl rfl ?_
  refine W_end ?_
  refine E_then ?_
  refine C_seq ?_
  refine C_region ?_
  refine W_loadAgg rfl rfl Proofs.Try.isAgg29 Proofs.Try.sizeOf29 rfl (own_all (List.mem_cons_of_mem _ (List.mem_cons_self ..))) rfl ?_
  obtain ⟨r107, hc108, hm⟩ := bind_some hm
  refine W_call Proofs.Try.call10 rfl rfl rfl (fun w ht => by have h := m_islands_Of_c (hm := hc108) h0 h1 h2 h3 h4 h5 ht; exact h) ?_
  rintro _ _ _ ⟨rfl, v109, xs110, rfl, rfl, h111⟩
  have h111 := h111 H
  refine W_move rfl rfl rfl ?_
  refine W_extract rfl rfl rfl rfl ?_
  refine W_extract rfl rfl rfl rfl ?_
  refine W_assign rfl rfl rfl ?_
  refine W_assign rfl rfl rfl ?_
  refine W_end ?_
  refine E_then ?_
  refine C_seq ?_
  refine C_seq ?_
  refine C_region ?_
  refine W_move rfl rfl rfl ?_
  refine W_bin rfl rfl rfl rfl rfl ?_
  refine W_end ?_
  refine E_then ?_
  refine C_cond (b := !decide (r102.2 = 0)) rfl (fun hb112 => ?_) (fun hb112 => ?_)
  · have hm := ite_t' hb112 hm
    obtain ⟨r119, hc120, hm⟩ := bind_some hm
    refine C_seq_join (fun H' M' L' => H = H' ∧ M = M' ∧ [(2, .bool ((r119 && (decide ((r102.1.length : Int) = 0))) && ((decide (r107.2 = r102.2)) || ((decide (r107.2 = 0)) && (decide (r102.2 = 14))))))] = L') ?_ (fun J121 => ?_)
    · rintro _ _ _ ⟨rfl, rfl, rfl⟩
      refine C_ret ?_
      refine E_ret_then ?_
      obtain rfl := Option.some.inj hm
      refine E_weak (Hp.le_refl _) ?_
      exact end1 rfl rfl ⟨rfl, rfl, rfl⟩
    · refine C_region ?_
      refine W_call Proofs.Try.call11 rfl rfl rfl (fun w ht => by have h := m_gridhallkeep4_islandsFact_c (hm := hc120)  ht; exact h) ?_
      rintro _ _ _ ⟨rfl, rfl, rfl⟩
      refine W_move rfl rfl rfl ?_
      cases hb122 : (r119)
      · refine W_no rfl rfl rfl ?_
        refine W_no rfl rfl rfl ?_
        refine W_no rfl rfl rfl ?_
        refine W_pick rfl rfl rfl rfl ?_
        refine W_move rfl rfl rfl ?_
        refine W_no rfl rfl rfl ?_
        refine W_no rfl rfl rfl ?_
        refine W_no rfl rfl rfl ?_
        refine W_no rfl rfl rfl ?_
        refine W_no rfl rfl rfl ?_
        refine W_no rfl rfl rfl ?_
        refine W_no rfl rfl rfl ?_
        refine W_no rfl rfl rfl ?_
        refine W_no rfl rfl rfl ?_
        refine W_no rfl rfl rfl ?_
        refine W_no rfl rfl rfl ?_
        refine W_pick rfl rfl rfl rfl ?_
        refine W_assign rfl rfl rfl ?_
        refine W_end ?_
        refine E_drop (List.Sublist.cons _ (List.Sublist.cons _ (List.Sublist.cons _ (List.Sublist.refl _)))) ?_
        exact E_keepJ (J121 _ _ _ ⟨rfl, rfl, rfl⟩) (List.Perm.refl _) ⟨(by show some (Value.bool (false)) = some (Value.bool ((r119 && (decide ((r102.1.length : Int) = 0))) && ((decide (r107.2 = r102.2)) || ((decide (r107.2 = 0)) && (decide (r102.2 = 14)))))); simp only [hb112, hb122, Bool.and_true, Bool.true_and, Bool.false_and, Bool.and_false, Bool.or_true, Bool.true_or, Bool.or_false, Bool.false_or, Bool.not_true, Bool.not_false]), trivial⟩
      · refine W_move rfl rfl rfl ?_
        refine W_lenO (List.mem_cons_of_mem _ (List.mem_cons_self ..)) rfl rfl Proofs.Try.runUnderlying30 rfl ?_
        refine W_bin rfl rfl rfl rfl rfl ?_
        refine W_pick rfl rfl rfl rfl ?_
        refine W_move rfl rfl rfl ?_
        cases hb123 : (decide ((r102.1.length : Int) = 0))
        · refine W_no rfl rfl rfl ?_
          refine W_no rfl rfl rfl ?_
          refine W_no rfl rfl rfl ?_
          refine W_no rfl rfl rfl ?_
          refine W_no rfl rfl rfl ?_
          refine W_no rfl rfl rfl ?_
          refine W_no rfl rfl rfl ?_
          refine W_no rfl rfl rfl ?_
          refine W_no rfl rfl rfl ?_
          refine W_no rfl rfl rfl ?_
          refine W_no rfl rfl rfl ?_
          refine W_pick rfl rfl rfl rfl ?_
          refine W_assign rfl rfl rfl ?_
          refine W_end ?_
          refine E_drop (List.Sublist.cons _ (List.Sublist.cons _ (List.Sublist.cons _ (List.Sublist.refl _)))) ?_
          exact E_keepJ (J121 _ _ _ ⟨rfl, rfl, rfl⟩) (List.Perm.refl _) ⟨(by show some (Value.bool (false)) = some (Value.bool ((r119 && (decide ((r102.1.length : Int) = 0))) && ((decide (r107.2 = r102.2)) || ((decide (r107.2 = 0)) && (decide (r102.2 = 14)))))); simp only [hb112, hb122, hb123, Bool.and_true, Bool.true_and, Bool.false_and, Bool.and_false, Bool.or_true, Bool.true_or, Bool.or_false, Bool.false_or, Bool.not_true, Bool.not_false]), trivial⟩
        · refine W_move rfl rfl rfl ?_
          refine W_move rfl rfl rfl ?_
          refine W_bin rfl rfl rfl rfl rfl ?_
          refine W_move rfl rfl rfl ?_
          cases hb124 : (decide (r107.2 = r102.2))
          · refine W_move rfl rfl rfl ?_
            refine W_bin rfl rfl rfl rfl rfl ?_
            refine W_move rfl rfl rfl ?_
            cases hb125 : (decide (r107.2 = 0))
            · refine W_no rfl rfl rfl ?_
              refine W_no rfl rfl rfl ?_
              refine W_pick rfl rfl rfl rfl ?_
              refine W_pick rfl rfl rfl rfl ?_
              refine W_pick rfl rfl rfl rfl ?_
              refine W_assign rfl rfl rfl ?_
              refine W_end ?_
              refine E_drop (List.Sublist.cons _ (List.Sublist.cons _ (List.Sublist.cons _ (List.Sublist.refl _)))) ?_
              exact E_keepJ (J121 _ _ _ ⟨rfl, rfl, rfl⟩) (List.Perm.refl _) ⟨(by show some (Value.bool (false)) = some (Value.bool ((r119 && (decide ((r102.1.length : Int) = 0))) && ((decide (r107.2 = r102.2)) || ((decide (r107.2 = 0)) && (decide (r102.2 = 14)))))); simp only [hb112, hb122, hb123, hb124, hb125, Bool.and_true, Bool.true_and, Bool.false_and, Bool.and_false, Bool.or_true, Bool.true_or, Bool.or_false, Bool.false_or, Bool.not_true, Bool.not_false]), trivial⟩
            · refine W_move rfl rfl rfl ?_
              refine W_bin rfl rfl rfl rfl rfl ?_
              refine W_pick rfl rfl rfl rfl ?_
              refine W_pick rfl rfl rfl rfl ?_
              refine W_pick rfl rfl rfl rfl ?_
              refine W_assign rfl rfl rfl ?_
              refine W_end ?_
              refine E_drop (List.Sublist.cons _ (List.Sublist.cons _ (List.Sublist.cons _ (List.Sublist.refl _)))) ?_
              exact E_keepJ (J121 _ _ _ ⟨rfl, rfl, rfl⟩) (List.Perm.refl _) ⟨(by show some (Value.bool (decide (r102.2 = 14))) = some (Value.bool ((r119 && (decide ((r102.1.length : Int) = 0))) && ((decide (r107.2 = r102.2)) || ((decide (r107.2 = 0)) && (decide (r102.2 = 14)))))); simp only [hb112, hb122, hb123, hb124, hb125, Bool.and_true, Bool.true_and, Bool.false_and, Bool.and_false, Bool.or_true, Bool.true_or, Bool.or_false, Bool.false_or, Bool.not_true, Bool.not_false]), trivial⟩
          · refine W_no rfl rfl rfl ?_
            refine W_no rfl rfl rfl ?_
            refine W_no rfl rfl rfl ?_
            refine W_no rfl rfl rfl ?_
            refine W_no rfl rfl rfl ?_
            refine W_no rfl rfl rfl ?_
            refine W_pick rfl rfl rfl rfl ?_
            refine W_pick rfl rfl rfl rfl ?_
            refine W_assign rfl rfl rfl ?_
            refine W_end ?_
            refine E_drop (List.Sublist.cons _ (List.Sublist.cons _ (List.Sublist.cons _ (List.Sublist.refl _)))) ?_
            exact E_keepJ (J121 _ _ _ ⟨rfl, rfl, rfl⟩) (List.Perm.refl _) ⟨(by show some (Value.bool (true)) = some (Value.bool ((r119 && (decide ((r102.1.length : Int) = 0))) && ((decide (r107.2 = r102.2)) || ((decide (r107.2 = 0)) && (decide (r102.2 = 14)))))); simp only [hb112, hb122, hb123, hb124, Bool.and_true, Bool.true_and, Bool.false_and, Bool.and_false, Bool.or_true, Bool.true_or, Bool.or_false, Bool.false_or, Bool.not_true, Bool.not_false]), trivial⟩
  · have hm := ite_f' hb112 hm
    refine C_skip ?_
    refine E_then ?_
    refine C_seq ?_
    refine C_seq_join (fun H' M' L' => H = H' ∧ .row v109 41 (Rep.sz S_api_IslandsSum) r107.1.length xs110 :: .row v104 3 (Rep.sz Int) r102.1.length xs105 :: .obj b101 (.cells [v0, v1, v2, v3, v4, v5].toArray 29 (0, 0)) :: M = M' ∧ [(1, .pointer (some ⟨b101, 0, none⟩)), (3, v104), (5, v109), (57, .bool ((!decide (r107.2 = 0)) || (!decide ((r102.1.length : Int) = (p0_n.Gens.length : Int)))))] = L') ?_ (fun J127 => ?_)
    · rintro _ _ _ ⟨rfl, rfl, rfl⟩
      refine C_cond (b := (!decide (r107.2 = 0)) || (!decide ((r102.1.length : Int) = (p0_n.Gens.length : Int)))) rfl (fun hb128 => ?_) (fun hb128 => ?_)
      · have hm := ite_t' hb128 hm
        refine C_seq ?_
        refine C_region ?_
        refine W_assign rfl rfl rfl ?_
        refine W_end ?_
        refine E_then ?_
        refine C_ret ?_
        refine E_ret_then ?_
        obtain rfl := Option.some.inj hm
        refine E_drop (List.Sublist.cons _ (List.Sublist.cons _ (List.Sublist.cons _ (List.Sublist.refl _)))) ?_
        refine E_weak (Hp.le_refl _) ?_
        exact end1 rfl rfl ⟨rfl, rfl, rfl⟩
      · have hm := ite_f' hb128 hm
        refine C_skip ?_
        refine E_then ?_
        refine C_seq ?_
        refine C_region ?_
        refine W_assign rfl rfl rfl ?_
        refine W_assign rfl rfl rfl ?_
        refine W_end ?_
        refine E_then ?_
        refine C_seq ?_
        refine C_seq ?_
        refine C_region ?_
        refine W_field (o := 3) rfl rfl Proofs.Try.runUnderlying29 rfl Proofs.Try.sizeOf25 rfl rfl rfl ?_
        refine W_load rfl rfl Proofs.Try.isAgg25 rfl (own_at (List.mem_cons_of_mem _ (List.mem_cons_of_mem _ (List.mem_cons_self ..))) rfl) ?_
        refine W_lenR rfl rfl Proofs.Try.runUnderlying25 rfl h3 ?_
        refine W_move rfl rfl rfl ?_
        refine W_end ?_
        refine E_then ?_
        refine C_block ?_
        refine C_keep (L' := [(1, .pointer (some ⟨b101, 0, none⟩)), (3, v104), (5, v109), (7, .int .i64 (0)), (8, .int .i64 (0)), (59, v3), (60, .int .i64 ((p0_n.Gens.length : Int))), (61, .int .i64 (((0 : Nat) : Int)))]) ⟨rfl, rfl, rfl, rfl, rfl, rfl, rfl, rfl, trivial⟩ (List.Perm.refl _) ?_
        refine C_loop (fun n H' M' L' => ∃ (k129 : Nat) (zs206' : List S_api_Gen), ∃ n198 : Int, (p0_n.Gens).drop k129 = zs206' ∧ zs206'.length = n ∧ forI (fun k y s201 n => m_gridhallkeep4_IslandsShares_b1 r102 k y s201 n) (fun s201 => forI (fun k y s254 n => m_gridhallkeep4_IslandsShares_b2 k y s254 n) (fun s254 => forI (fun k y s278 n => m_gridhallkeep4_IslandsShares_b3 k y s278 n) (fun s278 => forI (fun k y s300 n => m_gridhallkeep4_IslandsShares_b4 k y s300 n) (fun s300 => (m_gridhallkeep4_islandsFact).bind fun r316 => some ((r316 && (decide (s300 = 0))) && (decide (s278 = 0)))) 0 p0_n.Loads s201) 0 p0_n.Loads s254) 0 r107.1 0) k129 zs206' n198 = some r ∧ H.le H' ∧ .row v109 41 (Rep.sz S_api_IslandsSum) r107.1.length xs110 :: .row v104 3 (Rep.sz Int) r102.1.length xs105 :: .obj b101 (.cells [v0, v1, v2, v3, v4, v5].toArray 29 (0, 0)) :: M = M' ∧ [(1, .pointer (some ⟨b101, 0, none⟩)), (3, v104), (5, v109), (7, .int .i64 (n198)), (8, .int .i64 (0)), (59, v3), (60, .int .i64 ((p0_n.Gens.length : Int))), (61, .int .i64 ((k129 : Int)))] = L') _ ⟨0, _, 0, rfl, rfl, hm, (Hp.le_refl _), rfl, rfl⟩ ?_
        rintro _ H199 _ _ ⟨k129, zs206', n198, hd208, rfl, hm, hle200, rfl, rfl⟩
        refine C_seq ?_
        refine C_region ?_
        refine W_bin rfl rfl rfl rfl rfl ?_
        refine W_end (E_then ?_)
        refine C_seq ?_
        refine C_cond (b := decide ((k129 : Int) < (p0_n.Gens.length : Int))) rfl (fun hb210 => ?_) (fun hb210 => ?_)
        · obtain ⟨y205, zs206, rfl, hy207, hd209⟩ := rng_t hd208 hb210
          have hm : m_gridhallkeep4_IslandsShares_b1 r102 k129 y205 n198 (forI (fun k y s201 n => m_gridhallkeep4_IslandsShares_b1 r102 k y s201 n) (fun s201 => forI (fun k y s254 n => m_gridhallkeep4_IslandsShares_b2 k y s254 n) (fun s254 => forI (fun k y s278 n => m_gridhallkeep4_IslandsShares_b3 k y s278 n) (fun s278 => forI (fun k y s300 n => m_gridhallkeep4_IslandsShares_b4 k y s300 n) (fun s300 => (m_gridhallkeep4_islandsFact).bind fun r316 => some ((r316 && (decide (s300 = 0))) && (decide (s278 = 0)))) 0 p0_n.Loads s201) 0 p0_n.Loads s254) 0 r107.1 0) (k129 + 1) zs206) = some r := hm
          generalize hn203 : forI (fun k y s201 n => m_gridhallkeep4_IslandsShares_b1 r102 k y s201 n) (fun s201 => forI (fun k y s254 n => m_gridhallkeep4_IslandsShares_b2 k y s254 n) (fun s254 => forI (fun k y s278 n => m_gridhallkeep4_IslandsShares_b3 k y s278 n) (fun s278 => forI (fun k y s300 n => m_gridhallkeep4_IslandsShares_b4 k y s300 n) (fun s300 => (m_gridhallkeep4_islandsFact).bind fun r316 => some ((r316 && (decide (s300 = 0))) && (decide (s278 = 0)))) 0 p0_n.Loads s201) 0 p0_n.Loads s254) 0 r107.1 0) (k129 + 1) zs206 = nx202 at hm
          unfold m_gridhallkeep4_IslandsShares_b1 at hm
          refine C_skip (E_then ?_)
          refine C_seq ?_
          refine C_block ?_
          refine C_seq ?_
          refine C_region ?_
          refine W_move rfl rfl rfl ?_
          obtain ⟨_, ⟨rfl⟩, hc211⟩ := (h3).elem hy207
          refine W_indexS rfl rfl Proofs.Try.runUnderlying25 Proofs.Try.sizeOf39 rfl (h3.mono hle200) rfl (Int.natCast_nonneg _) hy207 ?_
          refine W_loadAgg rfl rfl Proofs.Try.isAgg39 Proofs.Try.sizeOf39 rfl (hc211.mono hle200).at rfl ?_
          refine W_alloc (cs := [.string (⟨#[]⟩), .string (⟨#[]⟩), .int .i64 (0), .int .i64 (0), .int .i64 (0)]) rfl rfl Proofs.Try.zeroValue39 rfl (fun b212 => ?_)
          refine W_assign rfl rfl rfl ?_
          refine W_store (cs := [.string (y205.Name), .string (y205.Node), .int .i64 (y205.Least), .int .i64 (y205.Most), .int .i64 (y205.Ramp)]) (out := [.string (y205.Name), .string (y205.Node), .int .i64 (y205.Least), .int .i64 (y205.Most), .int .i64 (y205.Ramp)]) rfl Proofs.Try.sizeOf39 rfl rfl rfl rfl rfl (all_cons rfl (all_cons rfl (all_cons rfl (all_cons rfl (all_cons rfl all_nil))))) (over_all rfl) ?_
          refine W_end ?_
          refine E_then ?_
          refine C_seq ?_
          refine C_seq ?_
          obtain ⟨y213, h214, he215, hm⟩ := idx_some hm
          obtain ⟨_, rfl, hg216⟩ := (h106).elem he215
          cases hb217 : (decide (y213 = 0))
          · have hm := ite_f' hb217 hm
            obtain ⟨y218, h219, he220, hm⟩ := idx_some hm
            obtain ⟨_, rfl, hg221⟩ := (h106).elem he220
            cases hb222 : (decide (y218 < y205.Least))
            · have hm := ite_f' hb222 hm
              obtain ⟨y223, h224, he225, hm⟩ := idx_some hm
              obtain ⟨_, rfl, hg226⟩ := (h106).elem he225
              refine C_region_tok0 20 (phiT [(fun H rs v => [] = rs ∧ v104 = v), (fun H rs v => [] = rs ∧ .int .i64 ((k129 : Int)) = v), (fun H rs v => [] = rs ∧ .pointer (some ((Value.base (v104)).add (((k129 : Int) : Int).toNat * Rep.sz Int))) = v), (fun H rs v => [] = rs ∧ .int .i64 (y213) = v), (fun H rs v => [] = rs ∧ .bool (true) = v), (fun H rs v => [] = rs ∧ .bool (true) = v), (fun H rs v => [] = rs ∧ v104 = v), (fun H rs v => [] = rs ∧ .int .i64 ((k129 : Int)) = v), (fun H rs v => [] = rs ∧ .pointer (some ((Value.base (v104)).add (((k129 : Int) : Int).toNat * Rep.sz Int))) = v), (fun H rs v => [] = rs ∧ .int .i64 (y218) = v), (fun H rs v => [] = rs ∧ .pointer (some ⟨b212, 2, none⟩) = v), (fun H rs v => [] = rs ∧ .int .i64 (y205.Least) = v), (fun H rs v => [] = rs ∧ .bool (false) = v), (fun H rs v => [] = rs ∧ .bool (false) = v), (fun H rs v => [] = rs ∧ v104 = v), (fun H rs v => [] = rs ∧ .int .i64 ((k129 : Int)) = v), (fun H rs v => [] = rs ∧ .pointer (some ((Value.base (v104)).add (((k129 : Int) : Int).toNat * Rep.sz Int))) = v), (fun H rs v => [] = rs ∧ .int .i64 (y223) = v), (fun H rs v => [] = rs ∧ .pointer (some ⟨b212, 3, none⟩) = v), (fun H rs v => [] = rs ∧ .int .i64 (y205.Most) = v)]) [[], [], [], [], [], [], [], [], [], [], [], [], [], [], [], [], [], [], [], []] [[], [], [], [], [], [], [], [], [], [], [], [], [], [], [], [], [], [], [], []] [] [0, 1, 2, 3, 4, 5, 6, 7, 8, 9, 10, 11, 12, 13, 14, 15, 16, 17, 18, 19] Facts.mixed (by kernel_rfl) rfl rfl rfl (by kernel_rfl) (phiT_mono ⟨eq_monoT _ _, eq_monoT _ _, eq_monoT _ _, eq_monoT _ _, eq_monoT _ _, eq_monoT _ _, eq_monoT _ _, eq_monoT _ _, eq_monoT _ _, eq_monoT _ _, eq_monoT _ _, eq_monoT _ _, eq_monoT _ _, eq_monoT _ _, eq_monoT _ _, eq_monoT _ _, eq_monoT _ _, eq_monoT _ _, eq_monoT _ _, eq_monoT _ _, trivial⟩) ⟨?_, ?_, ?_, ?_, ?_, ?_, ?_, ?_, ?_, ?_, ?_, ?_, ?_, ?_, ?_, ?_, ?_, ?_, ?_, ?_, trivial⟩ ?_
              · intro HX hX X Rest hR
                intro hU
                refine W_move rfl rfl rfl ?_
                exact W_end (OneT_end [] (Hp.le_refl _) ⟨rfl, rfl⟩)
              · intro HX hX X Rest hR
                intro hU
                refine W_move rfl rfl rfl ?_
                exact W_end (OneT_end [] (Hp.le_refl _) ⟨rfl, rfl⟩)
              · intro HX hX X Rest hR
                rintro _ _ ⟨rfl, rfl⟩
                rintro _ _ ⟨rfl, rfl⟩
                intro hU
                refine W_indexO (hR _ (List.mem_cons_of_mem _ (List.mem_cons_of_mem _ (List.mem_cons_self ..)))) rfl rfl Proofs.Try.runUnderlying30 Proofs.Try.sizeOf3 rfl rfl h214 (List.getElem?_eq_some_iff.1 he215).1 ?_
                exact W_end (OneT_end [] (Hp.le_refl _) ⟨rfl, rfl⟩)
              · intro HX hX X Rest hR
                rintro _ _ ⟨rfl, rfl⟩
                intro hU
                refine W_load rfl rfl Proofs.Try.isAgg3 rfl (row_one0 (hR _ (List.mem_cons_of_mem _ (List.mem_cons_of_mem _ (List.mem_cons_self ..)))) hg216 rfl) ?_
                exact W_end (OneT_end [] (Hp.le_refl _) ⟨rfl, rfl⟩)
              · intro HX hX X Rest hR
                rintro _ _ ⟨rfl, rfl⟩
                intro hU
                refine W_bin rfl rfl rfl rfl rfl ?_
                exact W_end (OneT_end [] (Hp.le_refl _) ⟨rfl, (by rw [hb217]; try rfl)⟩)
              · intro HX hX X Rest hR
                rintro _ _ ⟨rfl, rfl⟩
                intro hU
                refine W_move rfl rfl rfl ?_
                exact W_end (OneT_end [] (Hp.le_refl _) ⟨rfl, rfl⟩)
              · intro HX hX X Rest hR
                rintro _ _ ⟨rfl, rfl⟩
                intro hU
                refine W_move rfl rfl rfl ?_
                exact W_end (OneT_end [] (Hp.le_refl _) ⟨rfl, rfl⟩)
              · intro HX hX X Rest hR
                rintro _ _ ⟨rfl, rfl⟩
                intro hU
                refine W_move rfl rfl rfl ?_
                exact W_end (OneT_end [] (Hp.le_refl _) ⟨rfl, rfl⟩)
              · intro HX hX X Rest hR
                rintro _ _ ⟨rfl, rfl⟩
                rintro _ _ ⟨rfl, rfl⟩
                rintro _ _ ⟨rfl, rfl⟩
                intro hU
                refine W_indexO (hR _ (List.mem_cons_of_mem _ (List.mem_cons_of_mem _ (List.mem_cons_self ..)))) rfl rfl Proofs.Try.runUnderlying30 Proofs.Try.sizeOf3 rfl rfl h219 (List.getElem?_eq_some_iff.1 he220).1 ?_
                exact W_end (OneT_end [] (Hp.le_refl _) ⟨rfl, rfl⟩)
              · intro HX hX X Rest hR
                rintro _ _ ⟨rfl, rfl⟩
                rintro _ _ ⟨rfl, rfl⟩
                intro hU
                refine W_load rfl rfl Proofs.Try.isAgg3 rfl (row_one0 (hR _ (List.mem_cons_of_mem _ (List.mem_cons_of_mem _ (List.mem_cons_self ..)))) hg221 rfl) ?_
                exact W_end (OneT_end [] (Hp.le_refl _) ⟨rfl, rfl⟩)
              · intro HX hX X Rest hR
                rintro _ _ ⟨rfl, rfl⟩
                intro hU
                refine W_field (o := 2) rfl rfl Proofs.Try.runUnderlying39 rfl Proofs.Try.sizeOf3 rfl rfl rfl ?_
                exact W_end (OneT_end [] (Hp.le_refl _) ⟨rfl, rfl⟩)
              · intro HX hX X Rest hR
                rintro _ _ ⟨rfl, rfl⟩
                rintro _ _ ⟨rfl, rfl⟩
                intro hU
                refine W_load rfl rfl Proofs.Try.isAgg3 rfl (own_at (hR _ (List.mem_cons_self ..)) rfl) ?_
                exact W_end (OneT_end [] (Hp.le_refl _) ⟨rfl, rfl⟩)
              · intro HX hX X Rest hR
                rintro _ _ ⟨rfl, rfl⟩
                rintro _ _ ⟨rfl, rfl⟩
                rintro _ _ ⟨rfl, rfl⟩
                intro hU
                refine W_bin rfl rfl rfl rfl rfl ?_
                exact W_end (OneT_end [] (Hp.le_refl _) ⟨rfl, (by rw [hb222]; try rfl)⟩)
              · intro HX hX X Rest hR
                rintro _ _ ⟨rfl, rfl⟩
                rintro _ _ ⟨rfl, rfl⟩
                rintro _ _ ⟨rfl, rfl⟩
                intro hU
                refine W_move rfl rfl rfl ?_
                exact W_end (OneT_end [] (Hp.le_refl _) ⟨rfl, rfl⟩)
              · intro HX hX X Rest hR
                rintro _ _ ⟨rfl, rfl⟩
                intro hU
                refine W_move rfl rfl rfl ?_
                exact W_end (OneT_end [] (Hp.le_refl _) ⟨rfl, rfl⟩)
              · intro HX hX X Rest hR
                rintro _ _ ⟨rfl, rfl⟩
                intro hU
                refine W_move rfl rfl rfl ?_
                exact W_end (OneT_end [] (Hp.le_refl _) ⟨rfl, rfl⟩)
              · intro HX hX X Rest hR
                rintro _ _ ⟨rfl, rfl⟩
                rintro _ _ ⟨rfl, rfl⟩
                rintro _ _ ⟨rfl, rfl⟩
                intro hU
                refine W_indexO (hR _ (List.mem_cons_of_mem _ (List.mem_cons_of_mem _ (List.mem_cons_self ..)))) rfl rfl Proofs.Try.runUnderlying30 Proofs.Try.sizeOf3 rfl rfl h224 (List.getElem?_eq_some_iff.1 he225).1 ?_
                exact W_end (OneT_end [] (Hp.le_refl _) ⟨rfl, rfl⟩)
              · intro HX hX X Rest hR
                rintro _ _ ⟨rfl, rfl⟩
                rintro _ _ ⟨rfl, rfl⟩
                intro hU
                refine W_load rfl rfl Proofs.Try.isAgg3 rfl (row_one0 (hR _ (List.mem_cons_of_mem _ (List.mem_cons_of_mem _ (List.mem_cons_self ..)))) hg226 rfl) ?_
                exact W_end (OneT_end [] (Hp.le_refl _) ⟨rfl, rfl⟩)
              · intro HX hX X Rest hR
                rintro _ _ ⟨rfl, rfl⟩
                intro hU
                refine W_field (o := 3) rfl rfl Proofs.Try.runUnderlying39 rfl Proofs.Try.sizeOf3 rfl rfl rfl ?_
                exact W_end (OneT_end [] (Hp.le_refl _) ⟨rfl, rfl⟩)
              · intro HX hX X Rest hR
                rintro _ _ ⟨rfl, rfl⟩
                rintro _ _ ⟨rfl, rfl⟩
                intro hU
                refine W_load rfl rfl Proofs.Try.isAgg3 rfl (own_at (hR _ (List.mem_cons_self ..)) rfl) ?_
                exact W_end (OneT_end [] (Hp.le_refl _) ⟨rfl, rfl⟩)
              intro H227 hle228
              rintro _ _ ⟨rfl, rfl⟩
              rintro _ _ ⟨rfl, rfl⟩
              rintro _ _ ⟨rfl, rfl⟩
              rintro _ _ ⟨rfl, rfl⟩
              rintro _ _ ⟨rfl, rfl⟩
              rintro _ _ ⟨rfl, rfl⟩
              rintro _ _ ⟨rfl, rfl⟩
              rintro _ _ ⟨rfl, rfl⟩
              rintro _ _ ⟨rfl, rfl⟩
              rintro _ _ ⟨rfl, rfl⟩
              rintro _ _ ⟨rfl, rfl⟩
              rintro _ _ ⟨rfl, rfl⟩
              rintro _ _ ⟨rfl, rfl⟩
              rintro _ _ ⟨rfl, rfl⟩
              rintro _ _ ⟨rfl, rfl⟩
              rintro _ _ ⟨rfl, rfl⟩
              rintro _ _ ⟨rfl, rfl⟩
              rintro _ _ ⟨rfl, rfl⟩
              rintro _ _ ⟨rfl, rfl⟩
              rintro _ _ ⟨rfl, rfl⟩
              refine W_bin rfl rfl rfl rfl rfl ?_
              refine W_pick rfl rfl rfl rfl ?_
              refine W_pick rfl rfl rfl rfl ?_
              refine W_end ?_
              refine E_then ?_
              refine C_cond (b := decide (y205.Most < y223)) rfl (fun hb229 => ?_) (fun hb229 => ?_)
              · have hm := ite_t' hb229 hm
                refine C_seq ?_
                refine C_region ?_
                refine W_assign rfl rfl rfl ?_
                refine W_end ?_
                refine E_then ?_
                refine C_ret ?_
                refine E_ret_then ?_
                refine E_ret_block ?_
                refine E_ret_then ?_
                refine E_ret_then ?_
                refine E_ret_block ?_
                refine E_ret_then ?_
                obtain rfl := Option.some.inj hm
                refine E_drop (List.Sublist.cons _ (List.Sublist.cons _ (List.Sublist.cons _ (List.Sublist.cons _ (List.Sublist.refl _))))) ?_
                refine E_weak (Hp.le_trans hle200 hle228) ?_
                exact end1 rfl rfl ⟨rfl, rfl, rfl⟩
              · have hm := ite_f' hb229 hm
                refine C_skip ?_
                refine E_then ?_
                refine C_region ?_
                refine W_move rfl rfl rfl ?_
                refine W_move rfl rfl rfl ?_
                refine W_move rfl rfl rfl ?_
                obtain ⟨y230, h231, he232, hm⟩ := idx_some hm
                refine W_indexO (List.mem_cons_of_mem _ (List.mem_cons_of_mem _ (List.mem_cons_self ..))) rfl rfl Proofs.Try.runUnderlying30 Proofs.Try.sizeOf3 rfl rfl h231 (List.getElem?_eq_some_iff.1 he232).1 ?_
                obtain ⟨_, rfl, hg233⟩ := (h106).elem he232
                refine W_load rfl rfl Proofs.Try.isAgg3 rfl (row_one0 (List.mem_cons_of_mem _ (List.mem_cons_of_mem _ (List.mem_cons_self ..))) hg233 rfl) ?_
                refine W_bin rfl rfl rfl rfl rfl ?_
                refine W_assign rfl rfl rfl ?_
                refine W_end ?_
                refine E_normal_block ?_
                refine E_then ?_
                refine C_region ?_
                refine W_bin rfl rfl rfl rfl rfl ?_
                refine W_move rfl rfl rfl ?_
                refine W_end ?_
                refine E_drop (List.Sublist.cons _ (List.Sublist.refl _)) ?_
                exact E_keepJ (E_back (Nat.lt_succ_self _) ⟨k129 + 1, zs206, IntKind.i64.wrap (n198 + y230), hd209, rfl, (by rw [hn203]; exact hm), (Hp.le_trans hle200 hle228), rfl, rfl⟩) (List.Perm.refl _) ⟨rfl, rfl, rfl, rfl, rfl, rfl, rfl, (congrArg (fun z => some (Value.int .i64 z)) (i64_succ hy207 ((h3.mono hle200)).lenMax)), trivial⟩
            · have hm := ite_t' hb222 hm
              refine C_region_tok0 20 (phiT [(fun H rs v => [] = rs ∧ v104 = v), (fun H rs v => [] = rs ∧ .int .i64 ((k129 : Int)) = v), (fun H rs v => [] = rs ∧ .pointer (some ((Value.base (v104)).add (((k129 : Int) : Int).toNat * Rep.sz Int))) = v), (fun H rs v => [] = rs ∧ .int .i64 (y213) = v), (fun H rs v => [] = rs ∧ .bool (true) = v), (fun H rs v => [] = rs ∧ .bool (true) = v), (fun H rs v => [] = rs ∧ v104 = v), (fun H rs v => [] = rs ∧ .int .i64 ((k129 : Int)) = v), (fun H rs v => [] = rs ∧ .pointer (some ((Value.base (v104)).add (((k129 : Int) : Int).toNat * Rep.sz Int))) = v), (fun H rs v => [] = rs ∧ .int .i64 (y218) = v), (fun H rs v => [] = rs ∧ .pointer (some ⟨b212, 2, none⟩) = v), (fun H rs v => [] = rs ∧ .int .i64 (y205.Least) = v), (fun H rs v => [] = rs ∧ .bool (true) = v), (fun H rs v => [] = rs ∧ .bool (true) = v), (fun H rs v => [] = rs ∧ undef = v), (fun H rs v => [] = rs ∧ undef = v), (fun H rs v => [] = rs ∧ undef = v), (fun H rs v => [] = rs ∧ undef = v), (fun H rs v => [] = rs ∧ undef = v), (fun H rs v => [] = rs ∧ undef = v)]) [[], [], [], [], [], [], [], [], [], [], [], [], [], [], [], [], [], [], [], []] [[], [], [], [], [], [], [], [], [], [], [], [], [], [], [], [], [], [], [], []] [] [0, 1, 2, 3, 4, 5, 6, 7, 8, 9, 10, 11, 12, 13, 14, 15, 16, 17, 18, 19] Facts.mixed (by kernel_rfl) rfl rfl rfl (by kernel_rfl) (phiT_mono ⟨eq_monoT _ _, eq_monoT _ _, eq_monoT _ _, eq_monoT _ _, eq_monoT _ _, eq_monoT _ _, eq_monoT _ _, eq_monoT _ _, eq_monoT _ _, eq_monoT _ _, eq_monoT _ _, eq_monoT _ _, eq_monoT _ _, eq_monoT _ _, eq_monoT _ _, eq_monoT _ _, eq_monoT _ _, eq_monoT _ _, eq_monoT _ _, eq_monoT _ _, trivial⟩) ⟨?_, ?_, ?_, ?_, ?_, ?_, ?_, ?_, ?_, ?_, ?_, ?_, ?_, ?_, ?_, ?_, ?_, ?_, ?_, ?_, trivial⟩ ?_
              · intro HX hX X Rest hR
                intro hU
                refine W_move rfl rfl rfl ?_
                exact W_end (OneT_end [] (Hp.le_refl _) ⟨rfl, rfl⟩)
              · intro HX hX X Rest hR
                intro hU
                refine W_move rfl rfl rfl ?_
                exact W_end (OneT_end [] (Hp.le_refl _) ⟨rfl, rfl⟩)
              · intro HX hX X Rest hR
                rintro _ _ ⟨rfl, rfl⟩
                rintro _ _ ⟨rfl, rfl⟩
                intro hU
                refine W_indexO (hR _ (List.mem_cons_of_mem _ (List.mem_cons_of_mem _ (List.mem_cons_self ..)))) rfl rfl Proofs.Try.runUnderlying30 Proofs.Try.sizeOf3 rfl rfl h214 (List.getElem?_eq_some_iff.1 he215).1 ?_
                exact W_end (OneT_end [] (Hp.le_refl _) ⟨rfl, rfl⟩)
              · intro HX hX X Rest hR
                rintro _ _ ⟨rfl, rfl⟩
                intro hU
                refine W_load rfl rfl Proofs.Try.isAgg3 rfl (row_one0 (hR _ (List.mem_cons_of_mem _ (List.mem_cons_of_mem _ (List.mem_cons_self ..)))) hg216 rfl) ?_
                exact W_end (OneT_end [] (Hp.le_refl _) ⟨rfl, rfl⟩)
              · intro HX hX X Rest hR
                rintro _ _ ⟨rfl, rfl⟩
                intro hU
                refine W_bin rfl rfl rfl rfl rfl ?_
                exact W_end (OneT_end [] (Hp.le_refl _) ⟨rfl, (by rw [hb217]; try rfl)⟩)
              · intro HX hX X Rest hR
                rintro _ _ ⟨rfl, rfl⟩
                intro hU
                refine W_move rfl rfl rfl ?_
                exact W_end (OneT_end [] (Hp.le_refl _) ⟨rfl, rfl⟩)
              · intro HX hX X Rest hR
                rintro _ _ ⟨rfl, rfl⟩
                intro hU
                refine W_move rfl rfl rfl ?_
                exact W_end (OneT_end [] (Hp.le_refl _) ⟨rfl, rfl⟩)
              · intro HX hX X Rest hR
                rintro _ _ ⟨rfl, rfl⟩
                intro hU
                refine W_move rfl rfl rfl ?_
                exact W_end (OneT_end [] (Hp.le_refl _) ⟨rfl, rfl⟩)
              · intro HX hX X Rest hR
                rintro _ _ ⟨rfl, rfl⟩
                rintro _ _ ⟨rfl, rfl⟩
                rintro _ _ ⟨rfl, rfl⟩
                intro hU
                refine W_indexO (hR _ (List.mem_cons_of_mem _ (List.mem_cons_of_mem _ (List.mem_cons_self ..)))) rfl rfl Proofs.Try.runUnderlying30 Proofs.Try.sizeOf3 rfl rfl h219 (List.getElem?_eq_some_iff.1 he220).1 ?_
                exact W_end (OneT_end [] (Hp.le_refl _) ⟨rfl, rfl⟩)
              · intro HX hX X Rest hR
                rintro _ _ ⟨rfl, rfl⟩
                rintro _ _ ⟨rfl, rfl⟩
                intro hU
                refine W_load rfl rfl Proofs.Try.isAgg3 rfl (row_one0 (hR _ (List.mem_cons_of_mem _ (List.mem_cons_of_mem _ (List.mem_cons_self ..)))) hg221 rfl) ?_
                exact W_end (OneT_end [] (Hp.le_refl _) ⟨rfl, rfl⟩)
              · intro HX hX X Rest hR
                rintro _ _ ⟨rfl, rfl⟩
                intro hU
                refine W_field (o := 2) rfl rfl Proofs.Try.runUnderlying39 rfl Proofs.Try.sizeOf3 rfl rfl rfl ?_
                exact W_end (OneT_end [] (Hp.le_refl _) ⟨rfl, rfl⟩)
              · intro HX hX X Rest hR
                rintro _ _ ⟨rfl, rfl⟩
                rintro _ _ ⟨rfl, rfl⟩
                intro hU
                refine W_load rfl rfl Proofs.Try.isAgg3 rfl (own_at (hR _ (List.mem_cons_self ..)) rfl) ?_
                exact W_end (OneT_end [] (Hp.le_refl _) ⟨rfl, rfl⟩)
              · intro HX hX X Rest hR
                rintro _ _ ⟨rfl, rfl⟩
                rintro _ _ ⟨rfl, rfl⟩
                rintro _ _ ⟨rfl, rfl⟩
                intro hU
                refine W_bin rfl rfl rfl rfl rfl ?_
                exact W_end (OneT_end [] (Hp.le_refl _) ⟨rfl, (by rw [hb222]; try rfl)⟩)
              · intro HX hX X Rest hR
                rintro _ _ ⟨rfl, rfl⟩
                rintro _ _ ⟨rfl, rfl⟩
                rintro _ _ ⟨rfl, rfl⟩
                intro hU
                refine W_move rfl rfl rfl ?_
                exact W_end (OneT_end [] (Hp.le_refl _) ⟨rfl, rfl⟩)
              · intro HX hX X Rest hR
                rintro _ _ ⟨rfl, rfl⟩
                intro hU
                refine W_no rfl rfl rfl ?_
                exact W_end (OneT_end [] (Hp.le_refl _) ⟨rfl, rfl⟩)
              · intro HX hX X Rest hR
                rintro _ _ ⟨rfl, rfl⟩
                intro hU
                refine W_no rfl rfl rfl ?_
                exact W_end (OneT_end [] (Hp.le_refl _) ⟨rfl, rfl⟩)
              · intro HX hX X Rest hR
                rintro _ _ ⟨rfl, rfl⟩
                rintro _ _ ⟨rfl, rfl⟩
                rintro _ _ ⟨rfl, rfl⟩
                intro hU
                refine W_no rfl rfl rfl ?_
                exact W_end (OneT_end [] (Hp.le_refl _) ⟨rfl, rfl⟩)
              · intro HX hX X Rest hR
                rintro _ _ ⟨rfl, rfl⟩
                rintro _ _ ⟨rfl, rfl⟩
                intro hU
                refine W_no rfl rfl rfl ?_
                exact W_end (OneT_end [] (Hp.le_refl _) ⟨rfl, rfl⟩)
              · intro HX hX X Rest hR
                rintro _ _ ⟨rfl, rfl⟩
                intro hU
                refine W_no rfl rfl rfl ?_
                exact W_end (OneT_end [] (Hp.le_refl _) ⟨rfl, rfl⟩)
              · intro HX hX X Rest hR
                rintro _ _ ⟨rfl, rfl⟩
                rintro _ _ ⟨rfl, rfl⟩
                intro hU
                refine W_no rfl rfl rfl ?_
                exact W_end (OneT_end [] (Hp.le_refl _) ⟨rfl, rfl⟩)
              intro H234 hle235
              rintro _ _ ⟨rfl, rfl⟩
              rintro _ _ ⟨rfl, rfl⟩
              rintro _ _ ⟨rfl, rfl⟩
              rintro _ _ ⟨rfl, rfl⟩
              rintro _ _ ⟨rfl, rfl⟩
              rintro _ _ ⟨rfl, rfl⟩
              rintro _ _ ⟨rfl, rfl⟩
              rintro _ _ ⟨rfl, rfl⟩
              rintro _ _ ⟨rfl, rfl⟩
              rintro _ _ ⟨rfl, rfl⟩
              rintro _ _ ⟨rfl, rfl⟩
              rintro _ _ ⟨rfl, rfl⟩
              rintro _ _ ⟨rfl, rfl⟩
              rintro _ _ ⟨rfl, rfl⟩
              rintro _ _ ⟨rfl, rfl⟩
              rintro _ _ ⟨rfl, rfl⟩
              rintro _ _ ⟨rfl, rfl⟩
              rintro _ _ ⟨rfl, rfl⟩
              rintro _ _ ⟨rfl, rfl⟩
              rintro _ _ ⟨rfl, rfl⟩
              refine W_no rfl rfl rfl ?_
              refine W_pick rfl rfl rfl rfl ?_
              refine W_pick rfl rfl rfl rfl ?_
              refine W_end ?_
              refine E_then ?_
              refine C_cond (b := true) rfl (fun _ => ?_) (fun hb => Bool.noConfusion hb)
              refine C_seq ?_
              refine C_region ?_
              refine W_assign rfl rfl rfl ?_
              refine W_end ?_
              refine E_then ?_
              refine C_ret ?_
              refine E_ret_then ?_
              refine E_ret_block ?_
              refine E_ret_then ?_
              refine E_ret_then ?_
              refine E_ret_block ?_
              refine E_ret_then ?_
              obtain rfl := Option.some.inj hm
              refine E_drop (List.Sublist.cons _ (List.Sublist.cons _ (List.Sublist.cons _ (List.Sublist.cons _ (List.Sublist.refl _))))) ?_
              refine E_weak (Hp.le_trans hle200 hle235) ?_
              exact end1 rfl rfl ⟨rfl, rfl, rfl⟩
          · have hm := ite_t' hb217 hm
            refine C_region_tok0 20 (phiT [(fun H rs v => [] = rs ∧ v104 = v), (fun H rs v => [] = rs ∧ .int .i64 ((k129 : Int)) = v), (fun H rs v => [] = rs ∧ .pointer (some ((Value.base (v104)).add (((k129 : Int) : Int).toNat * Rep.sz Int))) = v), (fun H rs v => [] = rs ∧ .int .i64 (y213) = v), (fun H rs v => [] = rs ∧ .bool (false) = v), (fun H rs v => [] = rs ∧ .bool (false) = v), (fun H rs v => [] = rs ∧ undef = v), (fun H rs v => [] = rs ∧ undef = v), (fun H rs v => [] = rs ∧ undef = v), (fun H rs v => [] = rs ∧ undef = v), (fun H rs v => [] = rs ∧ undef = v), (fun H rs v => [] = rs ∧ undef = v), (fun H rs v => [] = rs ∧ undef = v), (fun H rs v => [] = rs ∧ undef = v), (fun H rs v => [] = rs ∧ undef = v), (fun H rs v => [] = rs ∧ undef = v), (fun H rs v => [] = rs ∧ undef = v), (fun H rs v => [] = rs ∧ undef = v), (fun H rs v => [] = rs ∧ undef = v), (fun H rs v => [] = rs ∧ undef = v)]) [[], [], [], [], [], [], [], [], [], [], [], [], [], [], [], [], [], [], [], []] [[], [], [], [], [], [], [], [], [], [], [], [], [], [], [], [], [], [], [], []] [] [0, 1, 2, 3, 4, 5, 6, 7, 8, 9, 10, 11, 12, 13, 14, 15, 16, 17, 18, 19] Facts.mixed (by kernel_rfl) rfl rfl rfl (by kernel_rfl) (phiT_mono ⟨eq_monoT _ _, eq_monoT _ _, eq_monoT _ _, eq_monoT _ _, eq_monoT _ _, eq_monoT _ _, eq_monoT _ _, eq_monoT _ _, eq_monoT _ _, eq_monoT _ _, eq_monoT _ _, eq_monoT _ _, eq_monoT _ _, eq_monoT _ _, eq_monoT _ _, eq_monoT _ _, eq_monoT _ _, eq_monoT _ _, eq_monoT _ _, eq_monoT _ _, trivial⟩) ⟨?_, ?_, ?_, ?_, ?_, ?_, ?_, ?_, ?_, ?_, ?_, ?_, ?_, ?_, ?_, ?_, ?_, ?_, ?_, ?_, trivial⟩ ?_
            · intro HX hX X Rest hR
              intro hU
              refine W_move rfl rfl rfl ?_
              exact W_end (OneT_end [] (Hp.le_refl _) ⟨rfl, rfl⟩)
            · intro HX hX X Rest hR
              intro hU
              refine W_move rfl rfl rfl ?_
              exact W_end (OneT_end [] (Hp.le_refl _) ⟨rfl, rfl⟩)
            · intro HX hX X Rest hR
              rintro _ _ ⟨rfl, rfl⟩
              rintro _ _ ⟨rfl, rfl⟩
              intro hU
              refine W_indexO (hR _ (List.mem_cons_of_mem _ (List.mem_cons_of_mem _ (List.mem_cons_self ..)))) rfl rfl Proofs.Try.runUnderlying30 Proofs.Try.sizeOf3 rfl rfl h214 (List.getElem?_eq_some_iff.1 he215).1 ?_
              exact W_end (OneT_end [] (Hp.le_refl _) ⟨rfl, rfl⟩)
            · intro HX hX X Rest hR
              rintro _ _ ⟨rfl, rfl⟩
              intro hU
              refine W_load rfl rfl Proofs.Try.isAgg3 rfl (row_one0 (hR _ (List.mem_cons_of_mem _ (List.mem_cons_of_mem _ (List.mem_cons_self ..)))) hg216 rfl) ?_
              exact W_end (OneT_end [] (Hp.le_refl _) ⟨rfl, rfl⟩)
            · intro HX hX X Rest hR
              rintro _ _ ⟨rfl, rfl⟩
              intro hU
              refine W_bin rfl rfl rfl rfl rfl ?_
              exact W_end (OneT_end [] (Hp.le_refl _) ⟨rfl, (by rw [hb217]; try rfl)⟩)
            · intro HX hX X Rest hR
              rintro _ _ ⟨rfl, rfl⟩
              intro hU
              refine W_move rfl rfl rfl ?_
              exact W_end (OneT_end [] (Hp.le_refl _) ⟨rfl, rfl⟩)
            · intro HX hX X Rest hR
              rintro _ _ ⟨rfl, rfl⟩
              intro hU
              refine W_no rfl rfl rfl ?_
              exact W_end (OneT_end [] (Hp.le_refl _) ⟨rfl, rfl⟩)
            · intro HX hX X Rest hR
              rintro _ _ ⟨rfl, rfl⟩
              intro hU
              refine W_no rfl rfl rfl ?_
              exact W_end (OneT_end [] (Hp.le_refl _) ⟨rfl, rfl⟩)
            · intro HX hX X Rest hR
              rintro _ _ ⟨rfl, rfl⟩
              rintro _ _ ⟨rfl, rfl⟩
              rintro _ _ ⟨rfl, rfl⟩
              intro hU
              refine W_no rfl rfl rfl ?_
              exact W_end (OneT_end [] (Hp.le_refl _) ⟨rfl, rfl⟩)
            · intro HX hX X Rest hR
              rintro _ _ ⟨rfl, rfl⟩
              rintro _ _ ⟨rfl, rfl⟩
              intro hU
              refine W_no rfl rfl rfl ?_
              exact W_end (OneT_end [] (Hp.le_refl _) ⟨rfl, rfl⟩)
            · intro HX hX X Rest hR
              rintro _ _ ⟨rfl, rfl⟩
              intro hU
              refine W_no rfl rfl rfl ?_
              exact W_end (OneT_end [] (Hp.le_refl _) ⟨rfl, rfl⟩)
            · intro HX hX X Rest hR
              rintro _ _ ⟨rfl, rfl⟩
              rintro _ _ ⟨rfl, rfl⟩
              intro hU
              refine W_no rfl rfl rfl ?_
              exact W_end (OneT_end [] (Hp.le_refl _) ⟨rfl, rfl⟩)
            · intro HX hX X Rest hR
              rintro _ _ ⟨rfl, rfl⟩
              rintro _ _ ⟨rfl, rfl⟩
              rintro _ _ ⟨rfl, rfl⟩
              intro hU
              refine W_no rfl rfl rfl ?_
              exact W_end (OneT_end [] (Hp.le_refl _) ⟨rfl, rfl⟩)
            · intro HX hX X Rest hR
              rintro _ _ ⟨rfl, rfl⟩
              rintro _ _ ⟨rfl, rfl⟩
              rintro _ _ ⟨rfl, rfl⟩
              intro hU
              refine W_no rfl rfl rfl ?_
              exact W_end (OneT_end [] (Hp.le_refl _) ⟨rfl, rfl⟩)
            · intro HX hX X Rest hR
              rintro _ _ ⟨rfl, rfl⟩
              intro hU
              refine W_no rfl rfl rfl ?_
              exact W_end (OneT_end [] (Hp.le_refl _) ⟨rfl, rfl⟩)
            · intro HX hX X Rest hR
              rintro _ _ ⟨rfl, rfl⟩
              intro hU
              refine W_no rfl rfl rfl ?_
              exact W_end (OneT_end [] (Hp.le_refl _) ⟨rfl, rfl⟩)
            · intro HX hX X Rest hR
              rintro _ _ ⟨rfl, rfl⟩
              rintro _ _ ⟨rfl, rfl⟩
              rintro _ _ ⟨rfl, rfl⟩
              intro hU
              refine W_no rfl rfl rfl ?_
              exact W_end (OneT_end [] (Hp.le_refl _) ⟨rfl, rfl⟩)
            · intro HX hX X Rest hR
              rintro _ _ ⟨rfl, rfl⟩
              rintro _ _ ⟨rfl, rfl⟩
              intro hU
              refine W_no rfl rfl rfl ?_
              exact W_end (OneT_end [] (Hp.le_refl _) ⟨rfl, rfl⟩)
            · intro HX hX X Rest hR
              rintro _ _ ⟨rfl, rfl⟩
              intro hU
              refine W_no rfl rfl rfl ?_
              exact W_end (OneT_end [] (Hp.le_refl _) ⟨rfl, rfl⟩)
            · intro HX hX X Rest hR
              rintro _ _ ⟨rfl, rfl⟩
              rintro _ _ ⟨rfl, rfl⟩
              intro hU
              refine W_no rfl rfl rfl ?_
              exact W_end (OneT_end [] (Hp.le_refl _) ⟨rfl, rfl⟩)
            intro H236 hle237
            rintro _ _ ⟨rfl, rfl⟩
            rintro _ _ ⟨rfl, rfl⟩
            rintro _ _ ⟨rfl, rfl⟩
            rintro _ _ ⟨rfl, rfl⟩
            rintro _ _ ⟨rfl, rfl⟩
            rintro _ _ ⟨rfl, rfl⟩
            rintro _ _ ⟨rfl, rfl⟩
            rintro _ _ ⟨rfl, rfl⟩
            rintro _ _ ⟨rfl, rfl⟩
            rintro _ _ ⟨rfl, rfl⟩
            rintro _ _ ⟨rfl, rfl⟩
            rintro _ _ ⟨rfl, rfl⟩
            rintro _ _ ⟨rfl, rfl⟩
            rintro _ _ ⟨rfl, rfl⟩
            rintro _ _ ⟨rfl, rfl⟩
            rintro _ _ ⟨rfl, rfl⟩
            rintro _ _ ⟨rfl, rfl⟩
            rintro _ _ ⟨rfl, rfl⟩
            rintro _ _ ⟨rfl, rfl⟩
            rintro _ _ ⟨rfl, rfl⟩
            refine W_no rfl rfl rfl ?_
            refine W_no rfl rfl rfl ?_
            refine W_pick rfl rfl rfl rfl ?_
            refine W_end ?_
            refine E_then ?_
            refine C_cond (b := false) rfl (fun hb => Bool.noConfusion hb) (fun _ => ?_)
            refine C_skip ?_
            refine E_then ?_
            refine C_region ?_
            refine W_move rfl rfl rfl ?_
            refine W_move rfl rfl rfl ?_
            refine W_move rfl rfl rfl ?_
            obtain ⟨y238, h239, he240, hm⟩ := idx_some hm
            refine W_indexO (List.mem_cons_of_mem _ (List.mem_cons_of_mem _ (List.mem_cons_self ..))) rfl rfl Proofs.Try.runUnderlying30 Proofs.Try.sizeOf3 rfl rfl h239 (List.getElem?_eq_some_iff.1 he240).1 ?_
            obtain ⟨_, rfl, hg241⟩ := (h106).elem he240
            refine W_load rfl rfl Proofs.Try.isAgg3 rfl (row_one0 (List.mem_cons_of_mem _ (List.mem_cons_of_mem _ (List.mem_cons_self ..))) hg241 rfl) ?_
            refine W_bin rfl rfl rfl rfl rfl ?_
            refine W_assign rfl rfl rfl ?_
            refine W_end ?_
            refine E_normal_block ?_
            refine E_then ?_
            refine C_region ?_
            refine W_bin rfl rfl rfl rfl rfl ?_
            refine W_move rfl rfl rfl ?_
            refine W_end ?_
            refine E_drop (List.Sublist.cons _ (List.Sublist.refl _)) ?_
            exact E_keepJ (E_back (Nat.lt_succ_self _) ⟨k129 + 1, zs206, IntKind.i64.wrap (n198 + y238), hd209, rfl, (by rw [hn203]; exact hm), (Hp.le_trans hle200 hle237), rfl, rfl⟩) (List.Perm.refl _) ⟨rfl, rfl, rfl, rfl, rfl, rfl, rfl, (congrArg (fun z => some (Value.int .i64 z)) (i64_succ hy207 ((h3.mono hle200)).lenMax)), trivial⟩
        · obtain rfl := rng_f hd208 hb210
          have hm : (forI (fun k y s254 n => m_gridhallkeep4_IslandsShares_b2 k y s254 n) (fun s254 => forI (fun k y s278 n => m_gridhallkeep4_IslandsShares_b3 k y s278 n) (fun s278 => forI (fun k y s300 n => m_gridhallkeep4_IslandsShares_b4 k y s300 n) (fun s300 => (m_gridhallkeep4_islandsFact).bind fun r316 => some ((r316 && (decide (s300 = 0))) && (decide (s278 = 0)))) 0 p0_n.Loads n198) 0 p0_n.Loads s254) 0 r107.1 0) = some r := hm
          refine C_exit (E_exit_then ?_)
          refine E_exit_then ?_
          refine E_exit_hit ?_
          refine E_then ?_
          refine C_seq ?_
          refine C_seq ?_
          refine C_region ?_
          refine W_move rfl rfl rfl ?_
          refine W_lenO (List.mem_cons_self ..) rfl rfl Proofs.Try.runUnderlying34 rfl ?_
          refine W_move rfl rfl rfl ?_
          refine W_end ?_
          refine E_then ?_
          refine C_block ?_
          refine C_rowMax (List.mem_cons_self ..) (fun hmx258 => ?_)
          refine C_drop (List.Sublist.cons_cons _ (List.Sublist.cons _ (List.Sublist.refl _))) ?_
          refine C_keep (L' := [(1, .pointer (some ⟨b101, 0, none⟩)), (7, .int .i64 (n198)), (8, .int .i64 (0)), (96, v109), (97, .int .i64 ((r107.1.length : Int))), (98, .int .i64 (((0 : Nat) : Int)))]) ⟨rfl, rfl, rfl, rfl, rfl, rfl, trivial⟩ (List.Perm.refl _) ?_
          refine C_loop (fun n H' M' L' => ∃ (k242 : Nat) (zs260' : List S_api_IslandsSum), ∃ n251 : Int, (r107.1).drop k242 = zs260' ∧ zs260'.length = n ∧ forI (fun k y s254 n => m_gridhallkeep4_IslandsShares_b2 k y s254 n) (fun s254 => forI (fun k y s278 n => m_gridhallkeep4_IslandsShares_b3 k y s278 n) (fun s278 => forI (fun k y s300 n => m_gridhallkeep4_IslandsShares_b4 k y s300 n) (fun s300 => (m_gridhallkeep4_islandsFact).bind fun r316 => some ((r316 && (decide (s300 = 0))) && (decide (s278 = 0)))) 0 p0_n.Loads n198) 0 p0_n.Loads s254) k242 zs260' n251 = some r ∧ H199.le H' ∧ .row v109 41 (Rep.sz S_api_IslandsSum) r107.1.length xs110 :: .obj b101 (.cells [v0, v1, v2, v3, v4, v5].toArray 29 (0, 0)) :: M = M' ∧ [(1, .pointer (some ⟨b101, 0, none⟩)), (7, .int .i64 (n198)), (8, .int .i64 (n251)), (96, v109), (97, .int .i64 ((r107.1.length : Int))), (98, .int .i64 ((k242 : Int)))] = L') _ ⟨0, _, 0, rfl, rfl, hm, (Hp.le_refl _), rfl, rfl⟩ ?_
          rintro _ H252 _ _ ⟨k242, zs260', n251, hd262, rfl, hm, hle253, rfl, rfl⟩
          refine C_seq ?_
          refine C_region ?_
          refine W_bin rfl rfl rfl rfl rfl ?_
          refine W_end (E_then ?_)
          refine C_seq ?_
          refine C_cond (b := decide ((k242 : Int) < (r107.1.length : Int))) rfl (fun hb264 => ?_) (fun hb264 => ?_)
          · obtain ⟨y259, zs260, rfl, hy261, hd263⟩ := rng_t hd262 hb264
            have hm : m_gridhallkeep4_IslandsShares_b2 k242 y259 n251 (forI (fun k y s254 n => m_gridhallkeep4_IslandsShares_b2 k y s254 n) (fun s254 => forI (fun k y s278 n => m_gridhallkeep4_IslandsShares_b3 k y s278 n) (fun s278 => forI (fun k y s300 n => m_gridhallkeep4_IslandsShares_b4 k y s300 n) (fun s300 => (m_gridhallkeep4_islandsFact).bind fun r316 => some ((r316 && (decide (s300 = 0))) && (decide (s278 = 0)))) 0 p0_n.Loads n198) 0 p0_n.Loads s254) (k242 + 1) zs260) = some r := hm
            generalize hn256 : forI (fun k y s254 n => m_gridhallkeep4_IslandsShares_b2 k y s254 n) (fun s254 => forI (fun k y s278 n => m_gridhallkeep4_IslandsShares_b3 k y s278 n) (fun s278 => forI (fun k y s300 n => m_gridhallkeep4_IslandsShares_b4 k y s300 n) (fun s300 => (m_gridhallkeep4_islandsFact).bind fun r316 => some ((r316 && (decide (s300 = 0))) && (decide (s278 = 0)))) 0 p0_n.Loads n198) 0 p0_n.Loads s254) (k242 + 1) zs260 = nx255 at hm
            unfold m_gridhallkeep4_IslandsShares_b2 at hm
            refine C_skip (E_then ?_)
            refine C_seq ?_
            refine C_block ?_
            refine C_seq ?_
            refine C_region ?_
            refine W_indexO (List.mem_cons_self ..) rfl rfl Proofs.Try.runUnderlying34 Proofs.Try.sizeOf41 rfl rfl (Int.natCast_nonneg _) (List.getElem?_eq_some_iff.1 hy261).1 ?_
            obtain ⟨_, rfl, hg265⟩ := (h111).elem hy261
            refine W_loadAgg (cs := [.int .i64 (y259.Least), .int .i64 (y259.Most), .int .i64 (y259.Demand)]) rfl rfl Proofs.Try.isAgg41 Proofs.Try.sizeOf41 rfl (row_cells (List.mem_cons_self ..) hg265) rfl ?_
            refine W_alloc (cs := [.int .i64 (0), .int .i64 (0), .int .i64 (0)]) rfl rfl Proofs.Try.zeroValue41 rfl (fun b266 => ?_)
            refine W_store (cs := [.int .i64 (y259.Least), .int .i64 (y259.Most), .int .i64 (y259.Demand)]) (out := [.int .i64 (y259.Least), .int .i64 (y259.Most), .int .i64 (y259.Demand)]) rfl Proofs.Try.sizeOf41 rfl rfl rfl rfl rfl (all_cons rfl (all_cons rfl (all_cons rfl all_nil))) (over_all rfl) ?_
            refine W_end ?_
            refine E_then ?_
            refine C_seq ?_
            refine C_seq ?_
            refine C_region ?_
            refine W_field (o := 0) rfl rfl Proofs.Try.runUnderlying41 rfl Proofs.Try.sizeOf3 rfl rfl rfl ?_
            refine W_load rfl rfl Proofs.Try.isAgg3 rfl (own_at (List.mem_cons_self ..) rfl) ?_
            refine W_field (o := 1) rfl rfl Proofs.Try.runUnderlying41 rfl Proofs.Try.sizeOf3 rfl rfl rfl ?_
            refine W_load rfl rfl Proofs.Try.isAgg3 rfl (own_at (List.mem_cons_self ..) rfl) ?_
            refine W_bin rfl rfl rfl rfl rfl ?_
            refine W_end ?_
            refine E_then ?_
            refine C_cond (b := decide (y259.Most < y259.Least)) rfl (fun hb267 => ?_) (fun hb267 => ?_)
            · have hm := ite_t' hb267 hm
              refine C_seq ?_
              refine C_region ?_
              refine W_assign rfl rfl rfl ?_
              refine W_end ?_
              refine E_then ?_
              refine C_ret ?_
              refine E_ret_then ?_
              refine E_ret_block ?_
              refine E_ret_then ?_
              refine E_ret_then ?_
              refine E_ret_block ?_
              refine E_ret_then ?_
              obtain rfl := Option.some.inj hm
              refine E_drop (List.Sublist.cons _ (List.Sublist.cons _ (List.Sublist.cons _ (List.Sublist.refl _)))) ?_
              refine E_weak (Hp.le_trans hle200 hle253) ?_
              exact end1 rfl rfl ⟨rfl, rfl, rfl⟩
            · have hm := ite_f' hb267 hm
              refine C_skip ?_
              refine E_then ?_
              refine C_region ?_
              refine W_move rfl rfl rfl ?_
              refine W_field (o := 2) rfl rfl Proofs.Try.runUnderlying41 rfl Proofs.Try.sizeOf3 rfl rfl rfl ?_
              refine W_load rfl rfl Proofs.Try.isAgg3 rfl (own_at (List.mem_cons_self ..) rfl) ?_
              refine W_bin rfl rfl rfl rfl rfl ?_
              refine W_assign rfl rfl rfl ?_
              refine W_end ?_
              refine E_normal_block ?_
              refine E_then ?_
              refine C_region ?_
              refine W_bin rfl rfl rfl rfl rfl ?_
              refine W_move rfl rfl rfl ?_
              refine W_end ?_
              refine E_drop (List.Sublist.cons _ (List.Sublist.refl _)) ?_
              exact E_keepJ (E_back (Nat.lt_succ_self _) ⟨k242 + 1, zs260, IntKind.i64.wrap (n251 + y259.Demand), hd263, rfl, (by rw [hn256]; exact hm), hle253, rfl, rfl⟩) (List.Perm.refl _) ⟨rfl, rfl, rfl, rfl, rfl, (congrArg (fun z => some (Value.int .i64 z)) (i64_succ hy261 hmx258)), trivial⟩
          · obtain rfl := rng_f hd262 hb264
            have hm : (forI (fun k y s278 n => m_gridhallkeep4_IslandsShares_b3 k y s278 n) (fun s278 => forI (fun k y s300 n => m_gridhallkeep4_IslandsShares_b4 k y s300 n) (fun s300 => (m_gridhallkeep4_islandsFact).bind fun r316 => some ((r316 && (decide (s300 = 0))) && (decide (s278 = 0)))) 0 p0_n.Loads n198) 0 p0_n.Loads n251) = some r := hm
            refine C_exit (E_exit_then ?_)
            refine E_exit_then ?_
            refine E_exit_hit ?_
            refine E_then ?_
            refine C_seq ?_
            refine C_seq ?_
            refine C_region ?_
            refine W_field (o := 4) rfl rfl Proofs.Try.runUnderlying29 rfl Proofs.Try.sizeOf26 rfl rfl rfl ?_
            refine W_load rfl rfl Proofs.Try.isAgg26 rfl (own_at (List.mem_cons_of_mem _ (List.mem_cons_self ..)) rfl) ?_
            refine W_lenR rfl rfl Proofs.Try.runUnderlying26 rfl ((h4.mono hle200).mono hle253) ?_
            refine W_move rfl rfl rfl ?_
            refine W_end ?_
            refine E_then ?_
            refine C_block ?_
            refine C_drop (List.Sublist.cons _ (List.Sublist.refl _)) ?_
            refine C_keep (L' := [(1, .pointer (some ⟨b101, 0, none⟩)), (7, .int .i64 (n198)), (8, .int .i64 (n251)), (113, v4), (114, .int .i64 ((p0_n.Loads.length : Int))), (115, .int .i64 (((0 : Nat) : Int)))]) ⟨rfl, rfl, rfl, rfl, rfl, rfl, trivial⟩ (List.Perm.refl _) ?_
            refine C_loop (fun n H' M' L' => ∃ (k268 : Nat) (zs283' : List S_api_Load), ∃ n275 : Int, (p0_n.Loads).drop k268 = zs283' ∧ zs283'.length = n ∧ forI (fun k y s278 n => m_gridhallkeep4_IslandsShares_b3 k y s278 n) (fun s278 => forI (fun k y s300 n => m_gridhallkeep4_IslandsShares_b4 k y s300 n) (fun s300 => (m_gridhallkeep4_islandsFact).bind fun r316 => some ((r316 && (decide (s300 = 0))) && (decide (s278 = 0)))) 0 p0_n.Loads n198) k268 zs283' n275 = some r ∧ H252.le H' ∧ .obj b101 (.cells [v0, v1, v2, v3, v4, v5].toArray 29 (0, 0)) :: M = M' ∧ [(1, .pointer (some ⟨b101, 0, none⟩)), (7, .int .i64 (n198)), (8, .int .i64 (n275)), (113, v4), (114, .int .i64 ((p0_n.Loads.length : Int))), (115, .int .i64 ((k268 : Int)))] = L') _ ⟨0, _, n251, rfl, rfl, hm, (Hp.le_refl _), rfl, rfl⟩ ?_
            rintro _ H276 _ _ ⟨k268, zs283', n275, hd285, rfl, hm, hle277, rfl, rfl⟩
            refine C_seq ?_
            refine C_region ?_
            refine W_bin rfl rfl rfl rfl rfl ?_
            refine W_end (E_then ?_)
            refine C_seq ?_
            refine C_cond (b := decide ((k268 : Int) < (p0_n.Loads.length : Int))) rfl (fun hb287 => ?_) (fun hb287 => ?_)
            · obtain ⟨y282, zs283, rfl, hy284, hd286⟩ := rng_t hd285 hb287
              have hm : m_gridhallkeep4_IslandsShares_b3 k268 y282 n275 (forI (fun k y s278 n => m_gridhallkeep4_IslandsShares_b3 k y s278 n) (fun s278 => forI (fun k y s300 n => m_gridhallkeep4_IslandsShares_b4 k y s300 n) (fun s300 => (m_gridhallkeep4_islandsFact).bind fun r316 => some ((r316 && (decide (s300 = 0))) && (decide (s278 = 0)))) 0 p0_n.Loads n198) (k268 + 1) zs283) = some r := hm
              generalize hn280 : forI (fun k y s278 n => m_gridhallkeep4_IslandsShares_b3 k y s278 n) (fun s278 => forI (fun k y s300 n => m_gridhallkeep4_IslandsShares_b4 k y s300 n) (fun s300 => (m_gridhallkeep4_islandsFact).bind fun r316 => some ((r316 && (decide (s300 = 0))) && (decide (s278 = 0)))) 0 p0_n.Loads n198) (k268 + 1) zs283 = nx279 at hm
              unfold m_gridhallkeep4_IslandsShares_b3 at hm
              refine C_skip (E_then ?_)
              refine C_seq ?_
              refine C_block ?_
              refine C_seq ?_
              refine C_region ?_
              obtain ⟨_, ⟨rfl⟩, hc288⟩ := (h4).elem hy284
              refine W_indexS rfl rfl Proofs.Try.runUnderlying26 Proofs.Try.sizeOf43 rfl (((h4.mono hle200).mono hle253).mono hle277) rfl (Int.natCast_nonneg _) hy284 ?_
              refine W_loadAgg rfl rfl Proofs.Try.isAgg43 Proofs.Try.sizeOf43 rfl (((hc288.mono hle200).mono hle253).mono hle277).at rfl ?_
              refine W_alloc (cs := [.string (⟨#[]⟩), .string (⟨#[]⟩), .int .i64 (0)]) rfl rfl Proofs.Try.zeroValue43 rfl (fun b289 => ?_)
              refine W_store (cs := [.string (y282.Name), .string (y282.Node), .int .i64 (y282.Demand)]) (out := [.string (y282.Name), .string (y282.Node), .int .i64 (y282.Demand)]) rfl Proofs.Try.sizeOf43 rfl rfl rfl rfl rfl (all_cons rfl (all_cons rfl (all_cons rfl all_nil))) (over_all rfl) ?_
              refine W_end ?_
              refine E_then ?_
              refine C_region ?_
              refine W_move rfl rfl rfl ?_
              refine W_field (o := 2) rfl rfl Proofs.Try.runUnderlying43 rfl Proofs.Try.sizeOf3 rfl rfl rfl ?_
              refine W_load rfl rfl Proofs.Try.isAgg3 rfl (own_at (List.mem_cons_self ..) rfl) ?_
              refine W_bin rfl rfl rfl rfl rfl ?_
              refine W_assign rfl rfl rfl ?_
              refine W_end ?_
              refine E_normal_block ?_
              refine E_then ?_
              refine C_region ?_
              refine W_bin rfl rfl rfl rfl rfl ?_
              refine W_move rfl rfl rfl ?_
              refine W_end ?_
              refine E_drop (List.Sublist.cons _ (List.Sublist.refl _)) ?_
              exact E_keepJ (E_back (Nat.lt_succ_self _) ⟨k268 + 1, zs283, IntKind.i64.wrap (n275 - y282.Demand), hd286, rfl, (by rw [hn280]; exact hm), hle277, rfl, rfl⟩) (List.Perm.refl _) ⟨rfl, rfl, rfl, rfl, rfl, (congrArg (fun z => some (Value.int .i64 z)) (i64_succ hy284 ((((h4.mono hle200).mono hle253).mono hle277)).lenMax)), trivial⟩
            · obtain rfl := rng_f hd285 hb287
              have hm : (forI (fun k y s300 n => m_gridhallkeep4_IslandsShares_b4 k y s300 n) (fun s300 => (m_gridhallkeep4_islandsFact).bind fun r316 => some ((r316 && (decide (s300 = 0))) && (decide (n275 = 0)))) 0 p0_n.Loads n198) = some r := hm
              refine C_exit (E_exit_then ?_)
              refine E_exit_then ?_
              refine E_exit_hit ?_
              refine E_then ?_
              refine C_seq ?_
              refine C_seq ?_
              refine C_region ?_
              refine W_field (o := 4) rfl rfl Proofs.Try.runUnderlying29 rfl Proofs.Try.sizeOf26 rfl rfl rfl ?_
              refine W_load rfl rfl Proofs.Try.isAgg26 rfl (own_at (List.mem_cons_self ..) rfl) ?_
              refine W_lenR rfl rfl Proofs.Try.runUnderlying26 rfl (((h4.mono hle200).mono hle253).mono hle277) ?_
              refine W_move rfl rfl rfl ?_
              refine W_end ?_
              refine E_then ?_
              refine C_block ?_
              refine C_drop (List.Sublist.cons _ (List.Sublist.refl _)) ?_
              refine C_keep (L' := [(7, .int .i64 (n198)), (8, .int .i64 (n275)), (125, v4), (126, .int .i64 ((p0_n.Loads.length : Int))), (127, .int .i64 (((0 : Nat) : Int)))]) ⟨rfl, rfl, rfl, rfl, rfl, trivial⟩ (List.Perm.refl _) ?_
              refine C_loop (fun n H' M' L' => ∃ (k290 : Nat) (zs305' : List S_api_Load), ∃ n297 : Int, (p0_n.Loads).drop k290 = zs305' ∧ zs305'.length = n ∧ forI (fun k y s300 n => m_gridhallkeep4_IslandsShares_b4 k y s300 n) (fun s300 => (m_gridhallkeep4_islandsFact).bind fun r316 => some ((r316 && (decide (s300 = 0))) && (decide (n275 = 0)))) k290 zs305' n297 = some r ∧ H276.le H' ∧ M = M' ∧ [(7, .int .i64 (n297)), (8, .int .i64 (n275)), (125, v4), (126, .int .i64 ((p0_n.Loads.length : Int))), (127, .int .i64 ((k290 : Int)))] = L') _ ⟨0, _, n198, rfl, rfl, hm, (Hp.le_refl _), rfl, rfl⟩ ?_
              rintro _ H298 _ _ ⟨k290, zs305', n297, hd307, rfl, hm, hle299, rfl, rfl⟩
              refine C_seq ?_
              refine C_region ?_
              refine W_bin rfl rfl rfl rfl rfl ?_
              refine W_end (E_then ?_)
              refine C_seq ?_
              refine C_cond (b := decide ((k290 : Int) < (p0_n.Loads.length : Int))) rfl (fun hb309 => ?_) (fun hb309 => ?_)
              · obtain ⟨y304, zs305, rfl, hy306, hd308⟩ := rng_t hd307 hb309
                have hm : m_gridhallkeep4_IslandsShares_b4 k290 y304 n297 (forI (fun k y s300 n => m_gridhallkeep4_IslandsShares_b4 k y s300 n) (fun s300 => (m_gridhallkeep4_islandsFact).bind fun r316 => some ((r316 && (decide (s300 = 0))) && (decide (n275 = 0)))) (k290 + 1) zs305) = some r := hm
                generalize hn302 : forI (fun k y s300 n => m_gridhallkeep4_IslandsShares_b4 k y s300 n) (fun s300 => (m_gridhallkeep4_islandsFact).bind fun r316 => some ((r316 && (decide (s300 = 0))) && (decide (n275 = 0)))) (k290 + 1) zs305 = nx301 at hm
                unfold m_gridhallkeep4_IslandsShares_b4 at hm
                refine C_skip (E_then ?_)
                refine C_seq ?_
                refine C_block ?_
                refine C_seq ?_
                refine C_region ?_
                obtain ⟨_, ⟨rfl⟩, hc310⟩ := (h4).elem hy306
                refine W_indexS rfl rfl Proofs.Try.runUnderlying26 Proofs.Try.sizeOf43 rfl ((((h4.mono hle200).mono hle253).mono hle277).mono hle299) rfl (Int.natCast_nonneg _) hy306 ?_
                refine W_loadAgg rfl rfl Proofs.Try.isAgg43 Proofs.Try.sizeOf43 rfl ((((hc310.mono hle200).mono hle253).mono hle277).mono hle299).at rfl ?_
                refine W_alloc (cs := [.string (⟨#[]⟩), .string (⟨#[]⟩), .int .i64 (0)]) rfl rfl Proofs.Try.zeroValue43 rfl (fun b311 => ?_)
                refine W_store (cs := [.string (y304.Name), .string (y304.Node), .int .i64 (y304.Demand)]) (out := [.string (y304.Name), .string (y304.Node), .int .i64 (y304.Demand)]) rfl Proofs.Try.sizeOf43 rfl rfl rfl rfl rfl (all_cons rfl (all_cons rfl (all_cons rfl all_nil))) (over_all rfl) ?_
                refine W_end ?_
                refine E_then ?_
                refine C_region ?_
                refine W_move rfl rfl rfl ?_
                refine W_field (o := 2) rfl rfl Proofs.Try.runUnderlying43 rfl Proofs.Try.sizeOf3 rfl rfl rfl ?_
                refine W_load rfl rfl Proofs.Try.isAgg3 rfl (own_at (List.mem_cons_self ..) rfl) ?_
                refine W_bin rfl rfl rfl rfl rfl ?_
                refine W_assign rfl rfl rfl ?_
                refine W_end ?_
                refine E_normal_block ?_
                refine E_then ?_
                refine C_region ?_
                refine W_bin rfl rfl rfl rfl rfl ?_
                refine W_move rfl rfl rfl ?_
                refine W_end ?_
                refine E_drop (List.Sublist.cons _ (List.Sublist.refl _)) ?_
                exact E_keepJ (E_back (Nat.lt_succ_self _) ⟨k290 + 1, zs305, IntKind.i64.wrap (n297 - y304.Demand), hd308, rfl, (by rw [hn302]; exact hm), hle299, rfl, rfl⟩) (List.Perm.refl _) ⟨rfl, rfl, rfl, rfl, (congrArg (fun z => some (Value.int .i64 z)) (i64_succ hy306 (((((h4.mono hle200).mono hle253).mono hle277).mono hle299)).lenMax)), trivial⟩
              · obtain rfl := rng_f hd307 hb309
                have hm : ((m_gridhallkeep4_islandsFact).bind fun r316 => some ((r316 && (decide (n297 = 0))) && (decide (n275 = 0)))) = some r := hm
                refine C_exit (E_exit_then ?_)
                refine E_exit_then ?_
                refine E_exit_hit ?_
                refine E_then ?_
                obtain ⟨r316, hc317, hm⟩ := bind_some hm
                refine C_seq_join (fun H' M' L' => H298 = H' ∧ M = M' ∧ [(2, .bool ((r316 && (decide (n297 = 0))) && (decide (n275 = 0))))] = L') ?_ (fun J318 => ?_)
                · rintro _ _ _ ⟨rfl, rfl, rfl⟩
                  refine C_ret ?_
                  obtain rfl := Option.some.inj hm
                  refine E_weak (Hp.le_trans (Hp.le_trans (Hp.le_trans hle200 hle253) hle277) hle299) ?_
                  exact end1 rfl rfl ⟨rfl, rfl, rfl⟩
                · refine C_region ?_
                  refine W_call Proofs.Try.call11 rfl rfl rfl (fun w ht => by have h := m_gridhallkeep4_islandsFact_c (hm := hc317)  ht; exact h) ?_
                  rintro _ _ _ ⟨rfl, rfl, rfl⟩
                  refine W_move rfl rfl rfl ?_
                  cases hb319 : (r316)
                  · refine W_no rfl rfl rfl ?_
                    refine W_no rfl rfl rfl ?_
                    refine W_pick rfl rfl rfl rfl ?_
                    refine W_move rfl rfl rfl ?_
                    refine W_no rfl rfl rfl ?_
                    refine W_no rfl rfl rfl ?_
                    refine W_pick rfl rfl rfl rfl ?_
                    refine W_assign rfl rfl rfl ?_
                    refine W_end ?_
                    exact E_keepJ (J318 _ _ _ ⟨rfl, rfl, rfl⟩) (List.Perm.refl _) ⟨(by show some (Value.bool (false)) = some (Value.bool ((r316 && (decide (n297 = 0))) && (decide (n275 = 0)))); simp only [hb112, hb128, hb319, Bool.and_true, Bool.true_and, Bool.false_and, Bool.and_false, Bool.or_true, Bool.true_or, Bool.or_false, Bool.false_or, Bool.not_true, Bool.not_false]), trivial⟩
                  · refine W_move rfl rfl rfl ?_
                    refine W_bin rfl rfl rfl rfl rfl ?_
                    refine W_pick rfl rfl rfl rfl ?_
                    refine W_move rfl rfl rfl ?_
                    cases hb320 : (decide (n297 = 0))
                    · refine W_no rfl rfl rfl ?_
                      refine W_no rfl rfl rfl ?_
                      refine W_pick rfl rfl rfl rfl ?_
                      refine W_assign rfl rfl rfl ?_
                      refine W_end ?_
                      exact E_keepJ (J318 _ _ _ ⟨rfl, rfl, rfl⟩) (List.Perm.refl _) ⟨(by show some (Value.bool (false)) = some (Value.bool ((r316 && (decide (n297 = 0))) && (decide (n275 = 0)))); simp only [hb112, hb128, hb319, hb320, Bool.and_true, Bool.true_and, Bool.false_and, Bool.and_false, Bool.or_true, Bool.true_or, Bool.or_false, Bool.false_or, Bool.not_true, Bool.not_false]), trivial⟩
                    · refine W_move rfl rfl rfl ?_
                      refine W_bin rfl rfl rfl rfl rfl ?_
                      refine W_pick rfl rfl rfl rfl ?_
                      refine W_assign rfl rfl rfl ?_
                      refine W_end ?_
                      exact E_keepJ (J318 _ _ _ ⟨rfl, rfl, rfl⟩) (List.Perm.refl _) ⟨(by show some (Value.bool (decide (n275 = 0))) = some (Value.bool ((r316 && (decide (n297 = 0))) && (decide (n275 = 0)))); simp only [hb112, hb128, hb319, hb320, Bool.and_true, Bool.true_and, Bool.false_and, Bool.and_false, Bool.or_true, Bool.true_or, Bool.or_false, Bool.false_or, Bool.not_true, Bool.not_false]), trivial⟩
    · refine C_region ?_
      refine W_move rfl rfl rfl ?_
      refine W_bin rfl rfl rfl rfl rfl ?_
      refine W_move rfl rfl rfl ?_
      cases hb321 : (decide (r107.2 = 0))
      · refine W_no rfl rfl rfl ?_
        refine W_no rfl rfl rfl ?_
        refine W_no rfl rfl rfl ?_
        refine W_no rfl rfl rfl ?_
        refine W_no rfl rfl rfl ?_
        refine W_no rfl rfl rfl ?_
        refine W_pick rfl rfl rfl rfl ?_
        refine W_end ?_
        exact E_keepJ (J127 _ _ _ ⟨rfl, rfl, rfl⟩) (List.Perm.refl _) ⟨rfl, rfl, rfl, (by show some (Value.bool (true)) = some (Value.bool ((!decide (r107.2 = 0)) || (!decide ((r102.1.length : Int) = (p0_n.Gens.length : Int))))); simp only [hb112, hb321, Bool.and_true, Bool.true_and, Bool.false_and, Bool.and_false, Bool.or_true, Bool.true_or, Bool.or_false, Bool.false_or, Bool.not_true, Bool.not_false]), trivial⟩
      · refine W_move rfl rfl rfl ?_
        refine W_lenO (List.mem_cons_of_mem _ (List.mem_cons_self ..)) rfl rfl Proofs.Try.runUnderlying30 rfl ?_
        refine W_field (o := 3) rfl rfl Proofs.Try.runUnderlying29 rfl Proofs.Try.sizeOf25 rfl rfl rfl ?_
        refine W_load rfl rfl Proofs.Try.isAgg25 rfl (own_at (List.mem_cons_of_mem _ (List.mem_cons_of_mem _ (List.mem_cons_self ..))) rfl) ?_
        refine W_lenR rfl rfl Proofs.Try.runUnderlying25 rfl h3 ?_
        refine W_bin rfl rfl rfl rfl rfl ?_
        refine W_pick rfl rfl rfl rfl ?_
        refine W_end ?_
        exact E_keepJ (J127 _ _ _ ⟨rfl, rfl, rfl⟩) (List.Perm.refl _) ⟨rfl, rfl, rfl, (by show some (Value.bool (!decide ((r102.1.length : Int) = (p0_n.Gens.length : Int)))) = some (Value.bool ((!decide (r107.2 = 0)) || (!decide ((r102.1.length : Int) = (p0_n.Gens.length : Int))))); simp only [hb112, hb321, Bool.and_true, Bool.true_and, Bool.false_and, Bool.and_false, Bool.or_true, Bool.true_or, Bool.or_false, Bool.false_or, Bool.not_true, Bool.not_false]), trivial⟩

theorem m_islands_Lack_c {B : Nat} {w0 w : World} {H : Hp} {M : List Res} {p0_n : S_api_Network} {v0 : Value} {v1 : Value} {v2 : Value} {v3 : Value} {v4 : Value} {v5 : Value} {r : (List Int) × Int} (hm : m_islands_Lack p0_n = some r) (h0 : RdS H v0 p0_n.Nodes) (h1 : RdS H v1 p0_n.Switches) (h2 : RdS H v2 p0_n.Branches) (h3 : RdS H v3 p0_n.Gens) (h4 : RdS H v4 p0_n.Loads) (h5 : RdS H v5 p0_n.Stores) (ht : St B w0 H (M) w) :
    Calls Proofs.Try.prog 12 [.agg [v0, v1, v2, v3, v4, v5].toArray].toArray w (Ret B w0 fun H' M' v => H = H' ∧ ∃ qv0 : Value, ∃ qxs0 : List Value, .row qv0 3 (Rep.sz Int) r.1.length qxs0 :: M = M' ∧ .tuple #[qv0, .int .i64 (r.2)] = v ∧ RwF qv0 qxs0 r.1) := by
  unfold m_islands_Lack at hm
  refine enter Proofs.Try.func12 rfl rfl rfl ht ?_
  refine C_seq ?_
  refine C_region ?_
  refine W_box (cs := [v0, v1, v2, v3, v4, v5]) rfl rfl rfl rfl (fun b101 => ?_)
  refine W_assign rfl rfl rfl ?_
  refine W_assign rfl rfl rfl ?_
  refine W_end ?_
  refine E_then ?_
  refine C_seq ?_
  refine C_region ?_
  refine W_loadAgg rfl rfl Proofs.Try.isAgg29 Proofs.Try.sizeOf29 rfl (own_all (List.mem_cons_self ..)) rfl ?_
  obtain ⟨r102, hc103, hm⟩ := bind_some hm
  refine W_call Proofs.Try.call10 rfl rfl rfl (fun w ht => by have h := m_islands_Of_c (hm := hc103) h0 h1 h2 h3 h4 h5 ht; exact h) ?_
  rintro _ _ _ ⟨rfl, v104, xs105, rfl, rfl, h106⟩
  have h106 := h106 H
  refine W_move rfl rfl rfl ?_
  refine W_extract rfl rfl rfl rfl ?_
  refine W_extract rfl rfl rfl rfl ?_
  refine W_assign rfl rfl rfl ?_
  refine W_assign rfl rfl rfl ?_
  refine W_end ?_
  refine E_then ?_
  refine C_seq ?_
  refine C_seq ?_
  refine C_region ?_
  refine W_move rfl rfl rfl ?_
  refine W_bin rfl rfl rfl rfl rfl ?_
  refine W_end ?_
  refine E_then ?_
  refine C_cond (b := !decide (r102.2 = 0)) rfl (fun hb107 => ?_) (fun hb107 => ?_)
  · have hm := ite_t' hb107 hm
    refine C_seq ?_
    refine C_region ?_
    refine W_move rfl rfl rfl ?_
    refine W_assign rfl rfl rfl ?_
    refine W_assign rfl rfl rfl ?_
    refine W_end ?_
    refine E_then ?_
    refine C_ret ?_
    refine E_ret_then ?_
    refine E_nilRow 3 (Rep.sz Int) ?_
    obtain rfl := Option.some.inj hm
    refine E_drop (List.Sublist.cons_cons _ (List.Sublist.cons _ (List.Sublist.cons _ (List.Sublist.refl _)))) ?_
    refine E_weak (Hp.le_refl _) ?_
    exact end2 rfl rfl rfl ⟨rfl, (.slice none 0 0), [], rfl, rfl, (Rw.nil (H := H)).toF⟩
  · have hm := ite_f' hb107 hm
    refine C_skip ?_
    refine E_then ?_
    refine C_seq ?_
    refine C_region ?_
    refine W_assign rfl rfl rfl ?_
    refine W_end ?_
    refine E_then ?_
    refine C_seq ?_
    refine C_seq ?_
    refine C_region ?_
    refine W_move rfl rfl rfl ?_
    refine W_lenO (List.mem_cons_self ..) rfl rfl Proofs.Try.runUnderlying34 rfl ?_
    refine W_move rfl rfl rfl ?_
    refine W_end ?_
    refine E_then ?_
    refine C_block ?_
    refine C_rowMax (List.mem_cons_self ..) (fun hmx157 => ?_)
    refine C_nilRow 3 (Rep.sz Int) ?_
    refine C_drop (List.Sublist.cons_cons _ (List.Sublist.cons_cons _ (List.Sublist.cons _ (List.Sublist.refl _)))) ?_
    refine C_keep (L' := [(6, (.slice none 0 0)), (17, v104), (18, .int .i64 ((r102.1.length : Int))), (19, .int .i64 (((0 : Nat) : Int)))]) ⟨rfl, rfl, rfl, rfl, trivial⟩ (List.Perm.refl _) ?_
    refine C_loop (fun n H' M' L' => ∃ (k108 : Nat) (zs159' : List S_api_IslandsSum), ∃ l149 : List Int, ∃ v147 : Value, ∃ xs148 : List Value, (r102.1).drop k108 = zs159' ∧ zs159'.length = n ∧ forI (fun k y s153 n => m_islands_Lack_b1 k y s153 n) (fun s153 => some (s153, 0)) k108 zs159' l149 = some r ∧ Rw H' v147 xs148 l149 ∧ H.le H' ∧ .row v147 3 (Rep.sz Int) l149.length xs148 :: .row v104 41 (Rep.sz S_api_IslandsSum) r102.1.length xs105 :: M = M' ∧ [(6, v147), (17, v104), (18, .int .i64 ((r102.1.length : Int))), (19, .int .i64 ((k108 : Int)))] = L') _ ⟨0, _, ([] : List Int), (.slice none 0 0), ([]), rfl, rfl, hm, Rw.nil, (Hp.le_refl _), rfl, rfl⟩ ?_
    rintro _ H151 _ _ ⟨k108, zs159', l149, v147, xs148, hd161, rfl, hm, hr150, hle152, rfl, rfl⟩
    refine C_seq ?_
    refine C_region ?_
    refine W_bin rfl rfl rfl rfl rfl ?_
    refine W_end (E_then ?_)
    refine C_seq ?_
    refine C_cond (b := decide ((k108 : Int) < (r102.1.length : Int))) rfl (fun hb163 => ?_) (fun hb163 => ?_)
    · obtain ⟨y158, zs159, rfl, hy160, hd162⟩ := rng_t hd161 hb163
      have hm : m_islands_Lack_b1 k108 y158 l149 (forI (fun k y s153 n => m_islands_Lack_b1 k y s153 n) (fun s153 => some (s153, 0)) (k108 + 1) zs159) = some r := hm
      generalize hn155 : forI (fun k y s153 n => m_islands_Lack_b1 k y s153 n) (fun s153 => some (s153, 0)) (k108 + 1) zs159 = nx154 at hm
      unfold m_islands_Lack_b1 at hm
      refine C_skip (E_then ?_)
      refine C_seq ?_
      refine C_block ?_
      refine C_seq ?_
      refine C_region ?_
      refine W_indexO (List.mem_cons_of_mem _ (List.mem_cons_self ..)) rfl rfl Proofs.Try.runUnderlying34 Proofs.Try.sizeOf41 rfl rfl (Int.natCast_nonneg _) (List.getElem?_eq_some_iff.1 hy160).1 ?_
      obtain ⟨_, rfl, hg164⟩ := (h106).elem hy160
      refine W_loadAgg (cs := [.int .i64 (y158.Least), .int .i64 (y158.Most), .int .i64 (y158.Demand)]) rfl rfl Proofs.Try.isAgg41 Proofs.Try.sizeOf41 rfl (row_cells (List.mem_cons_of_mem _ (List.mem_cons_self ..)) hg164) rfl ?_
      refine W_alloc (cs := [.int .i64 (0), .int .i64 (0), .int .i64 (0)]) rfl rfl Proofs.Try.zeroValue41 rfl (fun b165 => ?_)
      refine W_store (cs := [.int .i64 (y158.Least), .int .i64 (y158.Most), .int .i64 (y158.Demand)]) (out := [.int .i64 (y158.Least), .int .i64 (y158.Most), .int .i64 (y158.Demand)]) rfl Proofs.Try.sizeOf41 rfl rfl rfl rfl rfl (all_cons rfl (all_cons rfl (all_cons rfl all_nil))) (over_all rfl) ?_
      refine W_end ?_
      refine E_then ?_
      refine C_region ?_
      refine W_move rfl rfl rfl ?_
      refine W_field (o := 2) rfl rfl Proofs.Try.runUnderlying41 rfl Proofs.Try.sizeOf3 rfl rfl rfl ?_
      refine W_load rfl rfl Proofs.Try.isAgg3 rfl (own_at (List.mem_cons_self ..) rfl) ?_
      refine W_field (o := 1) rfl rfl Proofs.Try.runUnderlying41 rfl Proofs.Try.sizeOf3 rfl rfl rfl ?_
      refine W_load rfl rfl Proofs.Try.isAgg3 rfl (own_at (List.mem_cons_self ..) rfl) ?_
      refine W_bin rfl rfl rfl rfl rfl ?_
      refine W_max rfl rfl rfl rfl ?_
      refine W_buildSlice (α := Int) (css := [[.int .i64 (max 0 (IntKind.i64.wrap (y158.Demand - y158.Most)))]]) (zs := [.int .i64 (0)]) (out := [.int .i64 (max 0 (IntKind.i64.wrap (y158.Demand - y158.Most)))]) (ys := [(max 0 (IntKind.i64.wrap (y158.Demand - y158.Most)))]) rfl rfl rfl ⟨rfl, trivial⟩ Proofs.Try.runUnderlying30 Proofs.Try.sizeOf3 rfl Proofs.Try.zeroValue3 (by kernel_rfl) rfl rfl rfl rfl ⟨[.int .i64 (max 0 (IntKind.i64.wrap (y158.Demand - y158.Most)))], [], rfl, rfl, rfl⟩ rfl ?_
      intro b166 v167 H168 hv169 hle170 h171
      have hc172 : Value.cap' v167 = ([(max 0 (IntKind.i64.wrap (y158.Demand - y158.Most)))]).length := by rw [hv169]; rfl
      obtain ⟨hz173, hm⟩ := need_some hm
      refine W_perm (List.Perm.swap _ _ _) ?_
      refine W_appendO (α := Int) (l := l149) (ys := [(max 0 (IntKind.i64.wrap (y158.Demand - y158.Most)))]) rfl rfl Proofs.Try.underlying30 ⟨_, rfl, rfl, rfl, rfl⟩ rfl rfl rfl rfl rfl (hr150.mono hle170) h171 hz173 ?_
      intro v174 xs175 hr176
      refine W_assign rfl rfl rfl ?_
      refine W_end ?_
      refine E_normal_block ?_
      refine E_then ?_
      refine C_region ?_
      refine W_bin rfl rfl rfl rfl rfl ?_
      refine W_move rfl rfl rfl ?_
      refine W_end ?_
      refine E_drop (List.Sublist.cons_cons _ (List.Sublist.cons _ (List.Sublist.refl _))) ?_
      exact E_keepJ (E_back (Nat.lt_succ_self _) ⟨k108 + 1, zs159, (l149 ++ ([(max 0 (IntKind.i64.wrap (y158.Demand - y158.Most)))])), v174, xs175, hd162, rfl, (by rw [hn155]; exact hm), hr176, (Hp.le_trans hle152 hle170), rfl, rfl⟩) (List.Perm.refl _) ⟨rfl, rfl, rfl, (congrArg (fun z => some (Value.int .i64 z)) (i64_succ hy160 hmx157)), trivial⟩
    · obtain rfl := rng_f hd161 hb163
      have hm : (some (l149, 0)) = some r := hm
      refine C_exit (E_exit_then ?_)
      refine E_exit_then ?_
      refine E_exit_hit ?_
      refine E_then ?_
      refine C_seq ?_
      refine C_region ?_
      refine W_move rfl rfl rfl ?_
      refine W_assign rfl rfl rfl ?_
      refine W_assign rfl rfl rfl ?_
      refine W_end ?_
      refine E_then ?_
      refine C_ret ?_
      obtain rfl := Option.some.inj hm
      refine E_drop (List.Sublist.cons_cons _ (List.Sublist.cons _ (List.Sublist.refl _))) ?_
      refine E_weak hle152 ?_
      exact end2 rfl rfl rfl ⟨rfl, v147, xs148, rfl, rfl, (hr150).toF⟩

theorem m_gridhallkeep4_IslandsLacks_c {B : Nat} {w0 w : World} {H : Hp} {M : List Res} {p0_n : S_api_Network} {v0 : Value} {v1 : Value} {v2 : Value} {v3 : Value} {v4 : Value} {v5 : Value} {r : Bool} (hm : m_gridhallkeep4_IslandsLacks p0_n = some r) (h0 : RdS H v0 p0_n.Nodes) (h1 : RdS H v1 p0_n.Switches) (h2 : RdS H v2 p0_n.Branches) (h3 : RdS H v3 p0_n.Gens) (h4 : RdS H v4 p0_n.Loads) (h5 : RdS H v5 p0_n.Stores) (ht : St B w0 H (M) w) :
    Calls Proofs.Try.prog 4 [.agg [v0, v1, v2, v3, v4, v5].toArray].toArray w (Ret B w0 fun H' M' v => H = H' ∧ M = M' ∧ .bool (r) = v) := by
  unfold m_gridhallkeep4_IslandsLacks at hm
  refine enter Proofs.Try.func4 rfl rfl rfl ht ?_
  refine C_seq ?_
  refine C_region ?_
  refine W_box (cs := [v0, v1, v2, v3, v4, v5]) rfl rfl rfl rfl (fun b101 => ?_)
  refine W_assign rfl rfl rfl ?_
  refine W_end ?_
  refine E_then ?_
  refine C_seq ?_
  refine C_region ?_
  refine W_loadAgg rfl rfl Proofs.Try.isAgg29 Proofs.Try.sizeOf29 rfl (own_all (List.mem_cons_self ..)) rfl ?_
  obtain ⟨r102, hc103, hm⟩ := bind_some hm
  refine W_call Proofs.Try.call12 rfl rfl rfl (fun w ht => by have h := m_islands_Lack_c (hm := hc103) h0 h1 h2 h3 h4 h5 ht; exact h) ?_
  rintro _ _ _ ⟨rfl, v104, xs105, rfl, rfl, h106⟩
  have h106 := h106 H
  refine W_move rfl rfl rfl ?_
  refine W_extract rfl rfl rfl rfl ?_
  refine W_extract rfl rfl rfl rfl ?_
  refine W_assign rfl rfl rfl ?_
  refine W_assign rfl rfl rfl ?_
  refine W_end ?_
  refine E_then ?_
  refine C_seq ?_
  refine C_region ?_
  refine W_loadAgg rfl rfl Proofs.Try.isAgg29 Proofs.Try.sizeOf29 rfl (own_all (List.mem_cons_of_mem _ (List.mem_cons_self ..))) rfl ?_
  obtain ⟨r107, hc108, hm⟩ := bind_some hm
  refine W_call Proofs.Try.call9 rfl rfl rfl (fun w ht => by have h := m_islands_Share_c (hm := hc108) h0 h1 h2 h3 h4 h5 ht; exact h) ?_
  rintro _ _ _ ⟨rfl, v109, xs110, rfl, rfl, h111⟩
  have h111 := h111 H
  refine W_move rfl rfl rfl ?_
  refine W_extract rfl rfl rfl rfl ?_
  refine W_extract rfl rfl rfl rfl ?_
  refine W_assign rfl rfl rfl ?_
  refine W_assign rfl rfl rfl ?_
  refine W_end ?_
  refine E_then ?_
  refine C_seq ?_
  refine C_region ?_
  refine W_loadAgg rfl rfl Proofs.Try.isAgg29 Proofs.Try.sizeOf29 rfl (own_all (List.mem_cons_of_mem _ (List.mem_cons_of_mem _ (List.mem_cons_self ..)))) rfl ?_
  obtain ⟨r112, hc113, hm⟩ := bind_some hm
  refine W_call Proofs.Try.call10 rfl rfl rfl (fun w ht => by have h := m_islands_Of_c (hm := hc113) h0 h1 h2 h3 h4 h5 ht; exact h) ?_
  rintro _ _ _ ⟨rfl, v114, xs115, rfl, rfl, h116⟩
  have h116 := h116 H
  refine W_move rfl rfl rfl ?_
  refine W_extract rfl rfl rfl rfl ?_
  refine W_extract rfl rfl rfl rfl ?_
  refine W_assign rfl rfl rfl ?_
  refine W_assign rfl rfl rfl ?_
  refine W_end ?_
  refine E_then ?_
  refine C_seq ?_
  refine C_seq ?_
  refine C_region ?_
  refine W_move rfl rfl rfl ?_
  refine W_bin rfl rfl rfl rfl rfl ?_
  refine W_end ?_
  refine E_then ?_
  refine C_cond (b := !decide (r102.2 = 0)) rfl (fun hb117 => ?_) (fun hb117 => ?_)
  · have hm := ite_t' hb117 hm
    obtain ⟨r123, hc124, hm⟩ := bind_some hm
    refine C_seq_join (fun H' M' L' => H = H' ∧ M = M' ∧ [(2, .bool (((r123 && (decide ((r102.1.length : Int) = 0))) && (decide (r107.2 = r102.2))) && (decide (r112.2 = r102.2))))] = L') ?_ (fun J125 => ?_)
    · rintro _ _ _ ⟨rfl, rfl, rfl⟩
      refine C_ret ?_
      refine E_ret_then ?_
      obtain rfl := Option.some.inj hm
      refine E_weak (Hp.le_refl _) ?_
      exact end1 rfl rfl ⟨rfl, rfl, rfl⟩
    · refine C_region ?_
      refine W_call Proofs.Try.call11 rfl rfl rfl (fun w ht => by have h := m_gridhallkeep4_islandsFact_c (hm := hc124)  ht; exact h) ?_
      rintro _ _ _ ⟨rfl, rfl, rfl⟩
      refine W_move rfl rfl rfl ?_
      cases hb126 : (r123)
      · refine W_no rfl rfl rfl ?_
        refine W_no rfl rfl rfl ?_
        refine W_no rfl rfl rfl ?_
        refine W_pick rfl rfl rfl rfl ?_
        refine W_move rfl rfl rfl ?_
        refine W_no rfl rfl rfl ?_
        refine W_no rfl rfl rfl ?_
        refine W_no rfl rfl rfl ?_
        refine W_pick rfl rfl rfl rfl ?_
        refine W_move rfl rfl rfl ?_
        refine W_no rfl rfl rfl ?_
        refine W_no rfl rfl rfl ?_
        refine W_no rfl rfl rfl ?_
        refine W_pick rfl rfl rfl rfl ?_
        refine W_assign rfl rfl rfl ?_
        refine W_end ?_
        refine E_drop (List.Sublist.cons _ (List.Sublist.cons _ (List.Sublist.cons _ (List.Sublist.cons _ (List.Sublist.refl _))))) ?_
        exact E_keepJ (J125 _ _ _ ⟨rfl, rfl, rfl⟩) (List.Perm.refl _) ⟨(by show some (Value.bool (false)) = some (Value.bool (((r123 && (decide ((r102.1.length : Int) = 0))) && (decide (r107.2 = r102.2))) && (decide (r112.2 = r102.2)))); simp only [hb117, hb126, Bool.and_true, Bool.true_and, Bool.false_and, Bool.and_false, Bool.or_true, Bool.true_or, Bool.or_false, Bool.false_or, Bool.not_true, Bool.not_false]), trivial⟩
      · refine W_move rfl rfl rfl ?_
        refine W_lenO (List.mem_cons_of_mem _ (List.mem_cons_of_mem _ (List.mem_cons_self ..))) rfl rfl Proofs.Try.runUnderlying30 rfl ?_
        refine W_bin rfl rfl rfl rfl rfl ?_
        refine W_pick rfl rfl rfl rfl ?_
        refine W_move rfl rfl rfl ?_
        cases hb127 : (decide ((r102.1.length : Int) = 0))
        · refine W_no rfl rfl rfl ?_
          refine W_no rfl rfl rfl ?_
          refine W_no rfl rfl rfl ?_
          refine W_pick rfl rfl rfl rfl ?_
          refine W_move rfl rfl rfl ?_
          refine W_no rfl rfl rfl ?_
          refine W_no rfl rfl rfl ?_
          refine W_no rfl rfl rfl ?_
          refine W_pick rfl rfl rfl rfl ?_
          refine W_assign rfl rfl rfl ?_
          refine W_end ?_
          refine E_drop (List.Sublist.cons _ (List.Sublist.cons _ (List.Sublist.cons _ (List.Sublist.cons _ (List.Sublist.refl _))))) ?_
          exact E_keepJ (J125 _ _ _ ⟨rfl, rfl, rfl⟩) (List.Perm.refl _) ⟨(by show some (Value.bool (false)) = some (Value.bool (((r123 && (decide ((r102.1.length : Int) = 0))) && (decide (r107.2 = r102.2))) && (decide (r112.2 = r102.2)))); simp only [hb117, hb126, hb127, Bool.and_true, Bool.true_and, Bool.false_and, Bool.and_false, Bool.or_true, Bool.true_or, Bool.or_false, Bool.false_or, Bool.not_true, Bool.not_false]), trivial⟩
        · refine W_move rfl rfl rfl ?_
          refine W_move rfl rfl rfl ?_
          refine W_bin rfl rfl rfl rfl rfl ?_
          refine W_pick rfl rfl rfl rfl ?_
          refine W_move rfl rfl rfl ?_
          cases hb128 : (decide (r107.2 = r102.2))
          · refine W_no rfl rfl rfl ?_
            refine W_no rfl rfl rfl ?_
            refine W_no rfl rfl rfl ?_
            refine W_pick rfl rfl rfl rfl ?_
            refine W_assign rfl rfl rfl ?_
            refine W_end ?_
            refine E_drop (List.Sublist.cons _ (List.Sublist.cons _ (List.Sublist.cons _ (List.Sublist.cons _ (List.Sublist.refl _))))) ?_
            exact E_keepJ (J125 _ _ _ ⟨rfl, rfl, rfl⟩) (List.Perm.refl _) ⟨(by show some (Value.bool (false)) = some (Value.bool (((r123 && (decide ((r102.1.length : Int) = 0))) && (decide (r107.2 = r102.2))) && (decide (r112.2 = r102.2)))); simp only [hb117, hb126, hb127, hb128, Bool.and_true, Bool.true_and, Bool.false_and, Bool.and_false, Bool.or_true, Bool.true_or, Bool.or_false, Bool.false_or, Bool.not_true, Bool.not_false]), trivial⟩
          · refine W_move rfl rfl rfl ?_
            refine W_move rfl rfl rfl ?_
            refine W_bin rfl rfl rfl rfl rfl ?_
            refine W_pick rfl rfl rfl rfl ?_
            refine W_assign rfl rfl rfl ?_
            refine W_end ?_
            refine E_drop (List.Sublist.cons _ (List.Sublist.cons _ (List.Sublist.cons _ (List.Sublist.cons _ (List.Sublist.refl _))))) ?_
            exact E_keepJ (J125 _ _ _ ⟨rfl, rfl, rfl⟩) (List.Perm.refl _) ⟨(by show some (Value.bool (decide (r112.2 = r102.2))) = some (Value.bool (((r123 && (decide ((r102.1.length : Int) = 0))) && (decide (r107.2 = r102.2))) && (decide (r112.2 = r102.2)))); simp only [hb117, hb126, hb127, hb128, Bool.and_true, Bool.true_and, Bool.false_and, Bool.and_false, Bool.or_true, Bool.true_or, Bool.or_false, Bool.false_or, Bool.not_true, Bool.not_false]), trivial⟩
  · have hm := ite_f' hb117 hm
    refine C_skip ?_
    refine E_then ?_
    refine C_seq ?_
    refine C_seq_join (fun H' M' L' => H = H' ∧ .row v114 41 (Rep.sz S_api_IslandsSum) r112.1.length xs115 :: .row v104 3 (Rep.sz Int) r102.1.length xs105 :: M = M' ∧ [(3, v104), (6, .int .i64 (r107.2)), (7, v114), (52, .bool ((!decide (r112.2 = 0)) || (!decide ((r112.1.length : Int) = (r102.1.length : Int)))))] = L') ?_ (fun J130 => ?_)
    · rintro _ _ _ ⟨rfl, rfl, rfl⟩
      refine C_cond (b := (!decide (r112.2 = 0)) || (!decide ((r112.1.length : Int) = (r102.1.length : Int)))) rfl (fun hb131 => ?_) (fun hb131 => ?_)
      · have hm := ite_t' hb131 hm
        refine C_seq ?_
        refine C_region ?_
        refine W_assign rfl rfl rfl ?_
        refine W_end ?_
        refine E_then ?_
        refine C_ret ?_
        refine E_ret_then ?_
        obtain rfl := Option.some.inj hm
        refine E_drop (List.Sublist.cons _ (List.Sublist.cons _ (List.Sublist.refl _))) ?_
        refine E_weak (Hp.le_refl _) ?_
        exact end1 rfl rfl ⟨rfl, rfl, rfl⟩
      · have hm := ite_f' hb131 hm
        refine C_skip ?_
        refine E_then ?_
        refine C_seq ?_
        refine C_seq ?_
        refine C_region ?_
        refine W_move rfl rfl rfl ?_
        refine W_lenO (List.mem_cons_of_mem _ (List.mem_cons_self ..)) rfl rfl Proofs.Try.runUnderlying30 rfl ?_
        refine W_move rfl rfl rfl ?_
        refine W_end ?_
        refine E_then ?_
        refine C_block ?_
        refine C_rowMax (List.mem_cons_of_mem _ (List.mem_cons_self ..)) (fun hmx201 => ?_)
        refine C_keep (L' := [(6, .int .i64 (r107.2)), (7, v114), (53, v104), (54, .int .i64 ((r102.1.length : Int))), (55, .int .i64 (((0 : Nat) : Int)))]) ⟨rfl, rfl, rfl, rfl, rfl, trivial⟩ (List.Perm.refl _) ?_
        refine C_loop (fun n H' M' L' => ∃ (k132 : Nat) (zs203' : List Int), (r102.1).drop k132 = zs203' ∧ zs203'.length = n ∧ forI (fun k y s197 n => m_gridhallkeep4_IslandsLacks_b1 r107 r112 k y n) (fun _ => (m_gridhallkeep4_islandsFact).bind fun r237 => some r237) k132 zs203' () = some r ∧ H.le H' ∧ .row v114 41 (Rep.sz S_api_IslandsSum) r112.1.length xs115 :: .row v104 3 (Rep.sz Int) r102.1.length xs105 :: M = M' ∧ [(6, .int .i64 (r107.2)), (7, v114), (53, v104), (54, .int .i64 ((r102.1.length : Int))), (55, .int .i64 ((k132 : Int)))] = L') _ ⟨0, _, rfl, rfl, hm, (Hp.le_refl _), rfl, rfl⟩ ?_
        rintro _ H195 _ _ ⟨k132, zs203', hd205, rfl, hm, hle196, rfl, rfl⟩
        refine C_seq ?_
        refine C_region ?_
        refine W_bin rfl rfl rfl rfl rfl ?_
        refine W_end (E_then ?_)
        refine C_seq ?_
        refine C_cond (b := decide ((k132 : Int) < (r102.1.length : Int))) rfl (fun hb207 => ?_) (fun hb207 => ?_)
        · obtain ⟨y202, zs203, rfl, hy204, hd206⟩ := rng_t hd205 hb207
          have hm : m_gridhallkeep4_IslandsLacks_b1 r107 r112 k132 y202 (forI (fun k y s197 n => m_gridhallkeep4_IslandsLacks_b1 r107 r112 k y n) (fun _ => (m_gridhallkeep4_islandsFact).bind fun r237 => some r237) (k132 + 1) zs203) = some r := hm
          generalize hn199 : forI (fun k y s197 n => m_gridhallkeep4_IslandsLacks_b1 r107 r112 k y n) (fun _ => (m_gridhallkeep4_islandsFact).bind fun r237 => some r237) (k132 + 1) zs203 = nx198 at hm
          unfold m_gridhallkeep4_IslandsLacks_b1 at hm
          refine C_skip (E_then ?_)
          refine C_seq ?_
          refine C_block ?_
          refine C_seq ?_
          refine C_region ?_
          refine W_move rfl rfl rfl ?_
          refine W_indexO (List.mem_cons_of_mem _ (List.mem_cons_self ..)) rfl rfl Proofs.Try.runUnderlying30 Proofs.Try.sizeOf3 rfl rfl (Int.natCast_nonneg _) (List.getElem?_eq_some_iff.1 hy204).1 ?_
          obtain ⟨_, rfl, hg208⟩ := (h106).elem hy204
          refine W_load rfl rfl Proofs.Try.isAgg3 rfl (row_one0 (List.mem_cons_of_mem _ (List.mem_cons_self ..)) hg208 rfl) ?_
          refine W_assign rfl rfl rfl ?_
          refine W_assign rfl rfl rfl ?_
          refine W_end ?_
          refine E_then ?_
          obtain ⟨y221, h222, he223, hm⟩ := idx_some hm
          obtain ⟨_, rfl, hg224⟩ := (h116).elem he223
          obtain ⟨y225, h226, he227, hm⟩ := idx_some hm
          obtain ⟨_, rfl, hg228⟩ := (h116).elem he227
          refine C_seq_join (fun H' M' L' => H195.le H' ∧ .row v114 41 (Rep.sz S_api_IslandsSum) r112.1.length xs115 :: .row v104 3 (Rep.sz Int) r102.1.length xs105 :: M = M' ∧ [(6, .int .i64 (r107.2)), (7, v114), (53, v104), (54, .int .i64 ((r102.1.length : Int))), (55, .int .i64 ((k132 : Int))), (81, .bool ((!decide (y202 = (max 0 (IntKind.i64.wrap (y221.Demand - y225.Most))))) || ((decide (0 < y202)) && (!decide (r107.2 = 14)))))] = L') ?_ (fun J231 => ?_)
          · rintro H229 _ _ ⟨hle230, rfl, rfl⟩
            refine C_cond (b := (!decide (y202 = (max 0 (IntKind.i64.wrap (y221.Demand - y225.Most))))) || ((decide (0 < y202)) && (!decide (r107.2 = 14)))) rfl (fun hb232 => ?_) (fun hb232 => ?_)
            · have hm := ite_t' hb232 hm
              refine C_seq ?_
              refine C_region ?_
              refine W_assign rfl rfl rfl ?_
              refine W_end ?_
              refine E_then ?_
              refine C_ret ?_
              refine E_ret_block ?_
              refine E_ret_then ?_
              refine E_ret_then ?_
              refine E_ret_block ?_
              refine E_ret_then ?_
              obtain rfl := Option.some.inj hm
              refine E_drop (List.Sublist.cons _ (List.Sublist.cons _ (List.Sublist.refl _))) ?_
              refine E_weak (Hp.le_trans hle196 hle230) ?_
              exact end1 rfl rfl ⟨rfl, rfl, rfl⟩
            · have hm := ite_f' hb232 hm
              refine C_skip ?_
              refine E_normal_block ?_
              refine E_then ?_
              refine C_region ?_
              refine W_bin rfl rfl rfl rfl rfl ?_
              refine W_move rfl rfl rfl ?_
              refine W_end ?_
              exact E_keepJ (E_back (Nat.lt_succ_self _) ⟨k132 + 1, zs203, hd206, rfl, (by rw [hn199]; exact hm), (Hp.le_trans hle196 hle230), rfl, rfl⟩) (List.Perm.refl _) ⟨rfl, rfl, rfl, rfl, (congrArg (fun z => some (Value.int .i64 z)) (i64_succ hy204 hmx201)), trivial⟩
          · refine C_region_tok0 13 (phiT [(fun H rs v => [] = rs ∧ .int .i64 (y202) = v), (fun H rs v => [] = rs ∧ v114 = v), (fun H rs v => [] = rs ∧ .int .i64 ((k132 : Int)) = v), (fun H rs v => [] = rs ∧ .pointer (some ((Value.base (v114)).add (((k132 : Int) : Int).toNat * Rep.sz S_api_IslandsSum))) = v), (fun H rs v => [] = rs ∧ .pointer (some (((Value.base (v114)).add (((k132 : Int) : Int).toNat * Rep.sz S_api_IslandsSum)).add 2)) = v), (fun H rs v => [] = rs ∧ .int .i64 (y221.Demand) = v), (fun H rs v => [] = rs ∧ v114 = v), (fun H rs v => [] = rs ∧ .int .i64 ((k132 : Int)) = v), (fun H rs v => [] = rs ∧ .pointer (some ((Value.base (v114)).add (((k132 : Int) : Int).toNat * Rep.sz S_api_IslandsSum))) = v), (fun H rs v => [] = rs ∧ .pointer (some (((Value.base (v114)).add (((k132 : Int) : Int).toNat * Rep.sz S_api_IslandsSum)).add 1)) = v), (fun H rs v => [] = rs ∧ .int .i64 (y225.Most) = v), (fun H rs v => [] = rs ∧ .int .i64 (IntKind.i64.wrap (y221.Demand - y225.Most)) = v), (fun H rs v => [] = rs ∧ .int .i64 (max 0 (IntKind.i64.wrap (y221.Demand - y225.Most))) = v)]) [[], [], [], [], [], [], [], [], [], [], [], [], []] [[], [], [], [], [], [], [], [], [], [], [], [], []] [] [0, 1, 2, 3, 4, 5, 6, 7, 8, 9, 10, 11, 12] Facts.mixed (by kernel_rfl) rfl rfl rfl (by kernel_rfl) (phiT_mono ⟨eq_monoT _ _, eq_monoT _ _, eq_monoT _ _, eq_monoT _ _, eq_monoT _ _, eq_monoT _ _, eq_monoT _ _, eq_monoT _ _, eq_monoT _ _, eq_monoT _ _, eq_monoT _ _, eq_monoT _ _, eq_monoT _ _, trivial⟩) ⟨?_, ?_, ?_, ?_, ?_, ?_, ?_, ?_, ?_, ?_, ?_, ?_, ?_, trivial⟩ ?_
            · intro HX hX X Rest hR
              intro hU
              refine W_move rfl rfl rfl ?_
              exact W_end (OneT_end [] (Hp.le_refl _) ⟨rfl, rfl⟩)
            · intro HX hX X Rest hR
              intro hU
              refine W_move rfl rfl rfl ?_
              exact W_end (OneT_end [] (Hp.le_refl _) ⟨rfl, rfl⟩)
            · intro HX hX X Rest hR
              intro hU
              refine W_move rfl rfl rfl ?_
              exact W_end (OneT_end [] (Hp.le_refl _) ⟨rfl, rfl⟩)
            · intro HX hX X Rest hR
              rintro _ _ ⟨rfl, rfl⟩
              rintro _ _ ⟨rfl, rfl⟩
              intro hU
              refine W_indexO (hR _ (List.mem_cons_self ..)) rfl rfl Proofs.Try.runUnderlying34 Proofs.Try.sizeOf41 rfl rfl h222 (List.getElem?_eq_some_iff.1 he223).1 ?_
              exact W_end (OneT_end [] (Hp.le_refl _) ⟨rfl, rfl⟩)
            · intro HX hX X Rest hR
              rintro _ _ ⟨rfl, rfl⟩
              intro hU
              refine W_field (o := 2) rfl rfl Proofs.Try.runUnderlying41 rfl Proofs.Try.sizeOf3 rfl rfl rfl ?_
              exact W_end (OneT_end [] (Hp.le_refl _) ⟨rfl, rfl⟩)
            · intro HX hX X Rest hR
              rintro _ _ ⟨rfl, rfl⟩
              intro hU
              refine W_load rfl rfl Proofs.Try.isAgg3 rfl (row_one (o := 2) (hR _ (List.mem_cons_self ..)) hg224 rfl) ?_
              exact W_end (OneT_end [] (Hp.le_refl _) ⟨rfl, rfl⟩)
            · intro HX hX X Rest hR
              intro hU
              refine W_move rfl rfl rfl ?_
              exact W_end (OneT_end [] (Hp.le_refl _) ⟨rfl, rfl⟩)
            · intro HX hX X Rest hR
              intro hU
              refine W_move rfl rfl rfl ?_
              exact W_end (OneT_end [] (Hp.le_refl _) ⟨rfl, rfl⟩)
            · intro HX hX X Rest hR
              rintro _ _ ⟨rfl, rfl⟩
              rintro _ _ ⟨rfl, rfl⟩
              intro hU
              refine W_indexO (hR _ (List.mem_cons_self ..)) rfl rfl Proofs.Try.runUnderlying34 Proofs.Try.sizeOf41 rfl rfl h226 (List.getElem?_eq_some_iff.1 he227).1 ?_
              exact W_end (OneT_end [] (Hp.le_refl _) ⟨rfl, rfl⟩)
            · intro HX hX X Rest hR
              rintro _ _ ⟨rfl, rfl⟩
              intro hU
              refine W_field (o := 1) rfl rfl Proofs.Try.runUnderlying41 rfl Proofs.Try.sizeOf3 rfl rfl rfl ?_
              exact W_end (OneT_end [] (Hp.le_refl _) ⟨rfl, rfl⟩)
            · intro HX hX X Rest hR
              rintro _ _ ⟨rfl, rfl⟩
              intro hU
              refine W_load rfl rfl Proofs.Try.isAgg3 rfl (row_one (o := 1) (hR _ (List.mem_cons_self ..)) hg228 rfl) ?_
              exact W_end (OneT_end [] (Hp.le_refl _) ⟨rfl, rfl⟩)
            · intro HX hX X Rest hR
              rintro _ _ ⟨rfl, rfl⟩
              rintro _ _ ⟨rfl, rfl⟩
              intro hU
              refine W_bin rfl rfl rfl rfl rfl ?_
              exact W_end (OneT_end [] (Hp.le_refl _) ⟨rfl, rfl⟩)
            · intro HX hX X Rest hR
              rintro _ _ ⟨rfl, rfl⟩
              intro hU
              refine W_max rfl rfl rfl rfl ?_
              exact W_end (OneT_end [] (Hp.le_refl _) ⟨rfl, rfl⟩)
            intro H233 hle234
            rintro _ _ ⟨rfl, rfl⟩
            rintro _ _ ⟨rfl, rfl⟩
            rintro _ _ ⟨rfl, rfl⟩
            rintro _ _ ⟨rfl, rfl⟩
            rintro _ _ ⟨rfl, rfl⟩
            rintro _ _ ⟨rfl, rfl⟩
            rintro _ _ ⟨rfl, rfl⟩
            rintro _ _ ⟨rfl, rfl⟩
            rintro _ _ ⟨rfl, rfl⟩
            rintro _ _ ⟨rfl, rfl⟩
            rintro _ _ ⟨rfl, rfl⟩
            rintro _ _ ⟨rfl, rfl⟩
            rintro _ _ ⟨rfl, rfl⟩
            refine W_bin rfl rfl rfl rfl rfl ?_
            refine W_move rfl rfl rfl ?_
            cases hb235 : (decide (y202 = (max 0 (IntKind.i64.wrap (y221.Demand - y225.Most)))))
            · refine W_no rfl rfl rfl ?_
              refine W_no rfl rfl rfl ?_
              refine W_no rfl rfl rfl ?_
              refine W_no rfl rfl rfl ?_
              refine W_no rfl rfl rfl ?_
              refine W_no rfl rfl rfl ?_
              refine W_pick rfl rfl rfl rfl ?_
              refine W_end ?_
              exact E_keepJ (J231 _ _ _ ⟨hle234, rfl, rfl⟩) (List.Perm.refl _) ⟨rfl, rfl, rfl, rfl, rfl, (by show some (Value.bool (true)) = some (Value.bool ((!decide (y202 = (max 0 (IntKind.i64.wrap (y221.Demand - y225.Most))))) || ((decide (0 < y202)) && (!decide (r107.2 = 14))))); simp only [hb117, hb131, hb235, Bool.and_true, Bool.true_and, Bool.false_and, Bool.and_false, Bool.or_true, Bool.true_or, Bool.or_false, Bool.false_or, Bool.not_true, Bool.not_false]), trivial⟩
            · refine W_move rfl rfl rfl ?_
              refine W_bin rfl rfl rfl rfl rfl ?_
              refine W_move rfl rfl rfl ?_
              cases hb236 : (decide (0 < y202))
              · refine W_no rfl rfl rfl ?_
                refine W_no rfl rfl rfl ?_
                refine W_pick rfl rfl rfl rfl ?_
                refine W_pick rfl rfl rfl rfl ?_
                refine W_end ?_
                exact E_keepJ (J231 _ _ _ ⟨hle234, rfl, rfl⟩) (List.Perm.refl _) ⟨rfl, rfl, rfl, rfl, rfl, (by show some (Value.bool (false)) = some (Value.bool ((!decide (y202 = (max 0 (IntKind.i64.wrap (y221.Demand - y225.Most))))) || ((decide (0 < y202)) && (!decide (r107.2 = 14))))); simp only [hb117, hb131, hb235, hb236, Bool.and_true, Bool.true_and, Bool.false_and, Bool.and_false, Bool.or_true, Bool.true_or, Bool.or_false, Bool.false_or, Bool.not_true, Bool.not_false]), trivial⟩
              · refine W_move rfl rfl rfl ?_
                refine W_bin rfl rfl rfl rfl rfl ?_
                refine W_pick rfl rfl rfl rfl ?_
                refine W_pick rfl rfl rfl rfl ?_
                refine W_end ?_
                exact E_keepJ (J231 _ _ _ ⟨hle234, rfl, rfl⟩) (List.Perm.refl _) ⟨rfl, rfl, rfl, rfl, rfl, (by show some (Value.bool (!decide (r107.2 = 14))) = some (Value.bool ((!decide (y202 = (max 0 (IntKind.i64.wrap (y221.Demand - y225.Most))))) || ((decide (0 < y202)) && (!decide (r107.2 = 14))))); simp only [hb117, hb131, hb235, hb236, Bool.and_true, Bool.true_and, Bool.false_and, Bool.and_false, Bool.or_true, Bool.true_or, Bool.or_false, Bool.false_or, Bool.not_true, Bool.not_false]), trivial⟩
        · obtain rfl := rng_f hd205 hb207
          have hm : ((m_gridhallkeep4_islandsFact).bind fun r237 => some r237) = some r := hm
          refine C_exit (E_exit_then ?_)
          refine E_exit_then ?_
          refine E_exit_hit ?_
          refine E_then ?_
          refine C_seq ?_
          refine C_region ?_
          obtain ⟨r237, hc238, hm⟩ := bind_some hm
          refine W_call Proofs.Try.call11 rfl rfl rfl (fun w ht => by have h := m_gridhallkeep4_islandsFact_c (hm := hc238)  ht; exact h) ?_
          rintro _ _ _ ⟨rfl, rfl, rfl⟩
          refine W_assign rfl rfl rfl ?_
          refine W_end ?_
          refine E_then ?_
          refine C_ret ?_
          obtain rfl := Option.some.inj hm
          refine E_drop (List.Sublist.cons _ (List.Sublist.cons _ (List.Sublist.refl _))) ?_
          refine E_weak hle196 ?_
          exact end1 rfl rfl ⟨rfl, rfl, rfl⟩
    · refine C_region ?_
      refine W_move rfl rfl rfl ?_
      refine W_bin rfl rfl rfl rfl rfl ?_
      refine W_move rfl rfl rfl ?_
      cases hb239 : (decide (r112.2 = 0))
      · refine W_no rfl rfl rfl ?_
        refine W_no rfl rfl rfl ?_
        refine W_no rfl rfl rfl ?_
        refine W_no rfl rfl rfl ?_
        refine W_no rfl rfl rfl ?_
        refine W_pick rfl rfl rfl rfl ?_
        refine W_end ?_
        refine E_drop (List.Sublist.cons_cons _ (List.Sublist.cons _ (List.Sublist.cons_cons _ (List.Sublist.cons _ (List.Sublist.refl _))))) ?_
        exact E_keepJ (J130 _ _ _ ⟨rfl, rfl, rfl⟩) (List.Perm.refl _) ⟨rfl, rfl, rfl, (by show some (Value.bool (true)) = some (Value.bool ((!decide (r112.2 = 0)) || (!decide ((r112.1.length : Int) = (r102.1.length : Int))))); simp only [hb117, hb239, Bool.and_true, Bool.true_and, Bool.false_and, Bool.and_false, Bool.or_true, Bool.true_or, Bool.or_false, Bool.false_or, Bool.not_true, Bool.not_false]), trivial⟩
      · refine W_move rfl rfl rfl ?_
        refine W_lenO (List.mem_cons_self ..) rfl rfl Proofs.Try.runUnderlying34 rfl ?_
        refine W_move rfl rfl rfl ?_
        refine W_lenO (List.mem_cons_of_mem _ (List.mem_cons_of_mem _ (List.mem_cons_self ..))) rfl rfl Proofs.Try.runUnderlying30 rfl ?_
        refine W_bin rfl rfl rfl rfl rfl ?_
        refine W_pick rfl rfl rfl rfl ?_
        refine W_end ?_
        refine E_drop (List.Sublist.cons_cons _ (List.Sublist.cons _ (List.Sublist.cons_cons _ (List.Sublist.cons _ (List.Sublist.refl _))))) ?_
        exact E_keepJ (J130 _ _ _ ⟨rfl, rfl, rfl⟩) (List.Perm.refl _) ⟨rfl, rfl, rfl, (by show some (Value.bool (!decide ((r112.1.length : Int) = (r102.1.length : Int)))) = some (Value.bool ((!decide (r112.2 = 0)) || (!decide ((r112.1.length : Int) = (r102.1.length : Int))))); simp only [hb117, hb239, Bool.and_true, Bool.true_and, Bool.false_and, Bool.and_false, Bool.or_true, Bool.true_or, Bool.or_false, Bool.false_or, Bool.not_true, Bool.not_false]), trivial⟩

theorem m_gridhallref4_Cut_c {B : Nat} {w0 w : World} {H : Hp} {M : List Res} {p0_n : Int} {p1_low : Int} {p2_high : Int} {r : Int} (hm : m_gridhallref4_Cut p0_n p1_low p2_high = some r) (ht : St B w0 H (M) w) :
    Calls Proofs.Try.prog 14 [.int .i64 (p0_n), .int .i64 (p1_low), .int .i64 (p2_high)].toArray w (Ret B w0 fun H' M' v => H = H' ∧ M = M' ∧ .int .i64 (r) = v) := by
  unfold m_gridhallref4_Cut at hm
  refine enter Proofs.Try.func14 rfl rfl rfl ht ?_
  refine C_seq ?_
  refine C_region ?_
  refine W_assign rfl rfl rfl ?_
  refine W_end ?_
  refine E_then ?_
  refine C_seq ?_
  refine C_region ?_
  refine W_move rfl rfl rfl ?_
  refine W_move rfl rfl rfl ?_
  refine W_bin rfl rfl rfl rfl rfl ?_
  refine W_bin rfl rfl rfl rfl rfl ?_
  refine W_assign rfl rfl rfl ?_
  refine W_end ?_
  refine E_then ?_
  refine C_seq ?_
  refine C_region ?_
  refine W_move rfl rfl rfl ?_
  refine W_move rfl rfl rfl ?_
  obtain ⟨hq101, hm⟩ := need_some hm
  refine W_rem rfl rfl rfl rfl hq101 ?_
  refine W_assign rfl rfl rfl ?_
  refine W_end ?_
  refine E_then ?_
  refine C_seq_join (fun H' M' L' => ∃ n103 : Int, m_gridhallref4_Cut_b1 p1_low n103 = some r ∧ H = H' ∧ M = M' ∧ [(0, .int .i64 (n103)), (1, .int .i64 (p1_low))] = L') ?_ (fun J104 => ?_)
  · rintro _ _ _ ⟨n103, hm, rfl, rfl, rfl⟩
    unfold m_gridhallref4_Cut_b1 at hm
    refine C_seq ?_
    refine C_region ?_
    refine W_move rfl rfl rfl ?_
    refine W_move rfl rfl rfl ?_
    refine W_bin rfl rfl rfl rfl rfl ?_
    refine W_assign rfl rfl rfl ?_
    refine W_end ?_
    refine E_then ?_
    refine C_ret ?_
    obtain rfl := Option.some.inj hm
    refine E_weak (Hp.le_refl _) ?_
    exact end1 rfl rfl ⟨rfl, rfl, rfl⟩
  · refine C_seq ?_
    refine C_region ?_
    refine W_move rfl rfl rfl ?_
    refine W_bin rfl rfl rfl rfl rfl ?_
    refine W_end ?_
    refine E_then ?_
    refine C_cond (b := decide ((Int.tmod p0_n (IntKind.i64.wrap ((IntKind.i64.wrap (p2_high - p1_low)) + 1))) < 0)) rfl (fun hb105 => ?_) (fun hb105 => ?_)
    · have hm := ite_t' hb105 hm
      refine C_region ?_
      refine W_move rfl rfl rfl ?_
      refine W_move rfl rfl rfl ?_
      refine W_bin rfl rfl rfl rfl rfl ?_
      refine W_assign rfl rfl rfl ?_
      refine W_end ?_
      exact E_keepJ (J104 _ _ _ ⟨IntKind.i64.wrap ((Int.tmod p0_n (IntKind.i64.wrap ((IntKind.i64.wrap (p2_high - p1_low)) + 1))) + (IntKind.i64.wrap ((IntKind.i64.wrap (p2_high - p1_low)) + 1))), hm, rfl, rfl, rfl⟩) (List.Perm.refl _) ⟨rfl, rfl, trivial⟩
    · have hm := ite_f' hb105 hm
      refine C_skip ?_
      exact E_keepJ (J104 _ _ _ ⟨Int.tmod p0_n (IntKind.i64.wrap ((IntKind.i64.wrap (p2_high - p1_low)) + 1)), hm, rfl, rfl, rfl⟩) (List.Perm.refl _) ⟨rfl, rfl, trivial⟩

theorem m_netmodel_find_1_c {B : Nat} {w0 w : World} {H : Hp} {M : List Res} {p0_x : S_api_Switch} {p1_c1 : ByteArray} {b0 : Nat} {r : Bool} (hm : m_netmodel_find_1 p0_x p1_c1 = r) (ht : St B w0 H (.obj b0 (.cells [.string (p1_c1)].toArray 9 (0, 0)) :: M) w) :
    Calls Proofs.Try.prog 83 [.agg [.string (p0_x.Name), .string (p0_x.A), .string (p0_x.B_), .bool (p0_x.Breaker), .bool (p0_x.Open)].toArray, .pointer (some ⟨b0, 0, none⟩)].toArray w (Ret B w0 fun H' M' v => H = H' ∧ .obj b0 (.cells [.string (p1_c1)].toArray 9 (0, 0)) :: M = M' ∧ .bool (r) = v) := by
  unfold m_netmodel_find_1 at hm
  refine enter Proofs.Try.func83 rfl rfl rfl ht ?_
  refine C_seq ?_
  refine C_region ?_
  refine W_box (cs := [.string (p0_x.Name), .string (p0_x.A), .string (p0_x.B_), .bool (p0_x.Breaker), .bool (p0_x.Open)]) rfl rfl rfl rfl (fun b101 => ?_)
  refine W_assign rfl rfl rfl ?_
  refine W_end ?_
  refine E_then ?_
  refine C_seq ?_
  refine C_region ?_
  refine W_field (o := 0) rfl rfl Proofs.Try.runUnderlying92 rfl Proofs.Try.sizeOf9 rfl rfl rfl ?_
  refine W_load rfl rfl Proofs.Try.isAgg9 rfl (own_at (List.mem_cons_self ..) rfl) ?_
  refine W_load rfl rfl Proofs.Try.isAgg9 rfl (own_at (List.mem_cons_of_mem _ (List.mem_cons_self ..)) rfl) ?_
  refine W_bin rfl rfl rfl rfl rfl ?_
  refine W_assign rfl rfl rfl ?_
  refine W_end ?_
  refine E_then ?_
  refine C_ret ?_
  obtain rfl := hm
  refine E_drop (List.Sublist.cons _ (List.Sublist.refl _)) ?_
  refine E_weak (Hp.le_refl _) ?_
  exact end1 rfl rfl ⟨rfl, rfl, rfl⟩

theorem m_slices_IndexFunc_api_Switch_api_Switch__netmodel_find_1_c {B : Nat} {w0 w : World} {H : Hp} {M : List Res} {p0_s : (List S_api_Switch)} {p1_f_0 : ByteArray} {v0 : Value} {b0 : Nat} {r : Int} (hm : m_slices_IndexFunc_api_Switch_api_Switch__netmodel_find_1 p0_s p1_f_0 = some r) (h0 : RdS H v0 p0_s) (ht : St B w0 H (.obj b0 (.cells [.string (p1_f_0)].toArray 9 (0, 0)) :: M) w) :
    Calls Proofs.Try.prog 75 [v0, .func (.func 83) [].toArray [.pointer (some ⟨b0, 0, none⟩)].toArray].toArray w (Ret B w0 fun H' M' v => H = H' ∧ .obj b0 (.cells [.string (p1_f_0)].toArray 9 (0, 0)) :: M = M' ∧ .int .i64 (r) = v) := by
  unfold m_slices_IndexFunc_api_Switch_api_Switch__netmodel_find_1 at hm
  refine enter Proofs.Try.func75 rfl rfl rfl ht ?_
  refine C_seq ?_
  refine C_region ?_
  refine W_assign rfl rfl rfl ?_
  refine W_end ?_
  refine E_then ?_
  refine C_seq ?_
  refine C_seq ?_
  refine C_region ?_
  refine W_move rfl rfl rfl ?_
  refine W_lenR rfl rfl Proofs.Try.runUnderlying23 rfl h0 ?_
  refine W_move rfl rfl rfl ?_
  refine W_end ?_
  refine E_then ?_
  refine C_block ?_
  refine C_keep (L' := [(0, v0), (1, .func (.func 83) [].toArray [.pointer (some ⟨b0, 0, none⟩)].toArray), (7, .int .i64 ((p0_s.length : Int))), (8, .int .i64 (((0 : Nat) : Int)))]) ⟨rfl, rfl, rfl, rfl, trivial⟩ (List.Perm.refl _) ?_
  refine C_loop (fun n H' M' L' => ∃ (k101 : Nat) (zs119' : Nat), k101 + zs119' = ((p0_s.length : Int) : Int).toNat ∧ zs119' = n ∧ forN (fun k s114 n => m_slices_IndexFunc_api_Switch_api_Switch__netmodel_find_1_b1 p0_s p1_f_0 k n) (fun _ => some (-1)) zs119' k101 () = some r ∧ H.le H' ∧ .obj b0 (.cells [.string (p1_f_0)].toArray 9 (0, 0)) :: M = M' ∧ [(0, v0), (1, .func (.func 83) [].toArray [.pointer (some ⟨b0, 0, none⟩)].toArray), (7, .int .i64 ((p0_s.length : Int))), (8, .int .i64 ((k101 : Int)))] = L') _ ⟨0, _, Nat.zero_add _, rfl, hm, (Hp.le_refl _), rfl, rfl⟩ ?_
  rintro _ H112 _ _ ⟨k101, zs119', hd121, rfl, hm, hle113, rfl, rfl⟩
  refine C_seq ?_
  refine C_region ?_
  refine W_bin rfl rfl rfl rfl rfl ?_
  refine W_end (E_then ?_)
  refine C_seq ?_
  refine C_cond (b := decide ((k101 : Int) < (p0_s.length : Int))) rfl (fun hb123 => ?_) (fun hb123 => ?_)
  · obtain ⟨zs119, rfl, hd122, hy120⟩ := rngN_t hd121 hb123
    have hm : m_slices_IndexFunc_api_Switch_api_Switch__netmodel_find_1_b1 p0_s p1_f_0 k101 (forN (fun k s114 n => m_slices_IndexFunc_api_Switch_api_Switch__netmodel_find_1_b1 p0_s p1_f_0 k n) (fun _ => some (-1)) zs119 (k101 + 1)) = some r := hm
    generalize hn116 : forN (fun k s114 n => m_slices_IndexFunc_api_Switch_api_Switch__netmodel_find_1_b1 p0_s p1_f_0 k n) (fun _ => some (-1)) zs119 (k101 + 1) = nx115 at hm
    unfold m_slices_IndexFunc_api_Switch_api_Switch__netmodel_find_1_b1 at hm
    refine C_skip (E_then ?_)
    refine C_seq ?_
    refine C_block ?_
    refine C_seq ?_
    refine C_region ?_
    refine W_move rfl rfl rfl ?_
    refine W_assign rfl rfl rfl ?_
    refine W_end ?_
    refine E_then ?_
    refine C_seq ?_
    refine C_region ?_
    refine W_move rfl rfl rfl ?_
    refine W_move rfl rfl rfl ?_
    refine W_move rfl rfl rfl ?_
    obtain ⟨y124, h125, he126, hm⟩ := idx_some hm
    obtain ⟨_, ⟨rfl⟩, hc127⟩ := (h0).elem he126
    refine W_indexS rfl rfl Proofs.Try.runUnderlying23 Proofs.Try.sizeOf92 rfl (h0.mono hle113) rfl h125 he126 ?_
    refine W_loadAgg rfl rfl Proofs.Try.isAgg92 Proofs.Try.sizeOf92 rfl (hc127.mono hle113).at rfl ?_
    refine W_callv Proofs.Try.call83 rfl rfl rfl rfl (fun w ht => by have h := m_netmodel_find_1_c (hm := (rfl : m_netmodel_find_1 y124 p1_f_0 = _))  ht; exact h) ?_
    rintro _ _ _ ⟨rfl, rfl, rfl⟩
    refine W_end ?_
    refine E_then ?_
    refine C_cond (b := (m_netmodel_find_1 y124 p1_f_0)) rfl (fun hb128 => ?_) (fun hb128 => ?_)
    · have hm := ite_t' hb128 hm
      refine C_seq ?_
      refine C_region ?_
      refine W_move rfl rfl rfl ?_
      refine W_assign rfl rfl rfl ?_
      refine W_end ?_
      refine E_then ?_
      refine C_ret ?_
      refine E_ret_block ?_
      refine E_ret_then ?_
      refine E_ret_then ?_
      refine E_ret_block ?_
      refine E_ret_then ?_
      obtain rfl := Option.some.inj hm
      refine E_weak hle113 ?_
      exact end1 rfl rfl ⟨rfl, rfl, rfl⟩
    · have hm := ite_f' hb128 hm
      refine C_skip ?_
      refine E_normal_block ?_
      refine E_then ?_
      refine C_region ?_
      refine W_bin rfl rfl rfl rfl rfl ?_
      refine W_move rfl rfl rfl ?_
      refine W_end ?_
      exact E_keepJ (E_back (Nat.lt_succ_self _) ⟨k101 + 1, zs119, hd122, rfl, (by rw [hn116]; exact hm), hle113, rfl, rfl⟩) (List.Perm.refl _) ⟨rfl, rfl, rfl, (congrArg (fun z => some (Value.int .i64 z)) (i64_succN hy120 (toNat_max (len_max (h0).lenMax)))), trivial⟩
  · obtain rfl := rngN_f hd121 hb123
    have hm : (some (-1)) = some r := hm
    refine C_exit (E_exit_then ?_)
    refine E_exit_then ?_
    refine E_exit_hit ?_
    refine E_then ?_
    refine C_seq ?_
    refine C_region ?_
    refine W_assign rfl rfl rfl ?_
    refine W_end ?_
    refine E_then ?_
    refine C_ret ?_
    obtain rfl := Option.some.inj hm
    refine E_weak hle113 ?_
    exact end1 rfl rfl ⟨rfl, rfl, rfl⟩

theorem m_netmodel_find_2_c {B : Nat} {w0 w : World} {H : Hp} {M : List Res} {p0_x : S_api_Branch} {p1_c1 : ByteArray} {b0 : Nat} {r : Bool} (hm : m_netmodel_find_2 p0_x p1_c1 = r) (ht : St B w0 H (.obj b0 (.cells [.string (p1_c1)].toArray 9 (0, 0)) :: M) w) :
    Calls Proofs.Try.prog 85 [.agg [.string (p0_x.Name), .string (p0_x.From), .string (p0_x.To), .int .i64 (p0_x.X), .int .i64 (p0_x.Tap), .int .i64 (p0_x.Shift), .int .i64 (p0_x.Limit), .int .i64 (p0_x.Short), .int .i64 (p0_x.Hold)].toArray, .pointer (some ⟨b0, 0, none⟩)].toArray w (Ret B w0 fun H' M' v => H = H' ∧ .obj b0 (.cells [.string (p1_c1)].toArray 9 (0, 0)) :: M = M' ∧ .bool (r) = v) := by
  unfold m_netmodel_find_2 at hm
  refine enter Proofs.Try.func85 rfl rfl rfl ht ?_
  refine C_seq ?_
  refine C_region ?_
  refine W_box (cs := [.string (p0_x.Name), .string (p0_x.From), .string (p0_x.To), .int .i64 (p0_x.X), .int .i64 (p0_x.Tap), .int .i64 (p0_x.Shift), .int .i64 (p0_x.Limit), .int .i64 (p0_x.Short), .int .i64 (p0_x.Hold)]) rfl rfl rfl rfl (fun b101 => ?_)
  refine W_assign rfl rfl rfl ?_
  refine W_end ?_
  refine E_then ?_
  refine C_seq ?_
  refine C_region ?_
  refine W_field (o := 0) rfl rfl Proofs.Try.runUnderlying47 rfl Proofs.Try.sizeOf9 rfl rfl rfl ?_
  refine W_load rfl rfl Proofs.Try.isAgg9 rfl (own_at (List.mem_cons_self ..) rfl) ?_
  refine W_load rfl rfl Proofs.Try.isAgg9 rfl (own_at (List.mem_cons_of_mem _ (List.mem_cons_self ..)) rfl) ?_
  refine W_bin rfl rfl rfl rfl rfl ?_
  refine W_assign rfl rfl rfl ?_
  refine W_end ?_
  refine E_then ?_
  refine C_ret ?_
  obtain rfl := hm
  refine E_drop (List.Sublist.cons _ (List.Sublist.refl _)) ?_
  refine E_weak (Hp.le_refl _) ?_
  exact end1 rfl rfl ⟨rfl, rfl, rfl⟩

theorem m_slices_IndexFunc_api_Branch_api_Branch__netmodel_find_2_c {B : Nat} {w0 w : World} {H : Hp} {M : List Res} {p0_s : (List S_api_Branch)} {p1_f_0 : ByteArray} {v0 : Value} {b0 : Nat} {r : Int} (hm : m_slices_IndexFunc_api_Branch_api_Branch__netmodel_find_2 p0_s p1_f_0 = some r) (h0 : RdS H v0 p0_s) (ht : St B w0 H (.obj b0 (.cells [.string (p1_f_0)].toArray 9 (0, 0)) :: M) w) :
    Calls Proofs.Try.prog 84 [v0, .func (.func 85) [].toArray [.pointer (some ⟨b0, 0, none⟩)].toArray].toArray w (Ret B w0 fun H' M' v => H = H' ∧ .obj b0 (.cells [.string (p1_f_0)].toArray 9 (0, 0)) :: M = M' ∧ .int .i64 (r) = v) := by
  unfold m_slices_IndexFunc_api_Branch_api_Branch__netmodel_find_2 at hm
  refine enter Proofs.Try.func84 rfl rfl rfl ht ?_
  refine C_seq ?_
  refine C_region ?_
  refine W_assign rfl rfl rfl ?_
  refine W_end ?_
  refine E_then ?_
  refine C_seq ?_
  refine C_seq ?_
  refine C_region ?_
  refine W_move rfl rfl rfl ?_
  refine W_lenR rfl rfl Proofs.Try.runUnderlying24 rfl h0 ?_
  refine W_move rfl rfl rfl ?_
  refine W_end ?_
  refine E_then ?_
  refine C_block ?_
  refine C_keep (L' := [(0, v0), (1, .func (.func 85) [].toArray [.pointer (some ⟨b0, 0, none⟩)].toArray), (7, .int .i64 ((p0_s.length : Int))), (8, .int .i64 (((0 : Nat) : Int)))]) ⟨rfl, rfl, rfl, rfl, trivial⟩ (List.Perm.refl _) ?_
  refine C_loop (fun n H' M' L' => ∃ (k101 : Nat) (zs119' : Nat), k101 + zs119' = ((p0_s.length : Int) : Int).toNat ∧ zs119' = n ∧ forN (fun k s114 n => m_slices_IndexFunc_api_Branch_api_Branch__netmodel_find_2_b1 p0_s p1_f_0 k n) (fun _ => some (-1)) zs119' k101 () = some r ∧ H.le H' ∧ .obj b0 (.cells [.string (p1_f_0)].toArray 9 (0, 0)) :: M = M' ∧ [(0, v0), (1, .func (.func 85) [].toArray [.pointer (some ⟨b0, 0, none⟩)].toArray), (7, .int .i64 ((p0_s.length : Int))), (8, .int .i64 ((k101 : Int)))] = L') _ ⟨0, _, Nat.zero_add _, rfl, hm, (Hp.le_refl _), rfl, rfl⟩ ?_
  rintro _ H112 _ _ ⟨k101, zs119', hd121, rfl, hm, hle113, rfl, rfl⟩
  refine C_seq ?_
  refine C_region ?_
  refine W_bin rfl rfl rfl rfl rfl ?_
  refine W_end (E_then ?_)
  refine C_seq ?_
  refine C_cond (b := decide ((k101 : Int) < (p0_s.length : Int))) rfl (fun hb123 => ?_) (fun hb123 => ?_)
  · obtain ⟨zs119, rfl, hd122, hy120⟩ := rngN_t hd121 hb123
    have hm : m_slices_IndexFunc_api_Branch_api_Branch__netmodel_find_2_b1 p0_s p1_f_0 k101 (forN (fun k s114 n => m_slices_IndexFunc_api_Branch_api_Branch__netmodel_find_2_b1 p0_s p1_f_0 k n) (fun _ => some (-1)) zs119 (k101 + 1)) = some r := hm
    generalize hn116 : forN (fun k s114 n => m_slices_IndexFunc_api_Branch_api_Branch__netmodel_find_2_b1 p0_s p1_f_0 k n) (fun _ => some (-1)) zs119 (k101 + 1) = nx115 at hm
    unfold m_slices_IndexFunc_api_Branch_api_Branch__netmodel_find_2_b1 at hm
    refine C_skip (E_then ?_)
    refine C_seq ?_
    refine C_block ?_
    refine C_seq ?_
    refine C_region ?_
    refine W_move rfl rfl rfl ?_
    refine W_assign rfl rfl rfl ?_
    refine W_end ?_
    refine E_then ?_
    refine C_seq ?_
    refine C_region ?_
    refine W_move rfl rfl rfl ?_
    refine W_move rfl rfl rfl ?_
    refine W_move rfl rfl rfl ?_
    obtain ⟨y124, h125, he126, hm⟩ := idx_some hm
    obtain ⟨_, ⟨rfl⟩, hc127⟩ := (h0).elem he126
    refine W_indexS rfl rfl Proofs.Try.runUnderlying24 Proofs.Try.sizeOf47 rfl (h0.mono hle113) rfl h125 he126 ?_
    refine W_loadAgg rfl rfl Proofs.Try.isAgg47 Proofs.Try.sizeOf47 rfl (hc127.mono hle113).at rfl ?_
    refine W_callv Proofs.Try.call85 rfl rfl rfl rfl (fun w ht => by have h := m_netmodel_find_2_c (hm := (rfl : m_netmodel_find_2 y124 p1_f_0 = _))  ht; exact h) ?_
    rintro _ _ _ ⟨rfl, rfl, rfl⟩
    refine W_end ?_
    refine E_then ?_
    refine C_cond (b := (m_netmodel_find_2 y124 p1_f_0)) rfl (fun hb128 => ?_) (fun hb128 => ?_)
    · have hm := ite_t' hb128 hm
      refine C_seq ?_
      refine C_region ?_
      refine W_move rfl rfl rfl ?_
      refine W_assign rfl rfl rfl ?_
      refine W_end ?_
      refine E_then ?_
      refine C_ret ?_
      refine E_ret_block ?_
      refine E_ret_then ?_
      refine E_ret_then ?_
      refine E_ret_block ?_
      refine E_ret_then ?_
      obtain rfl := Option.some.inj hm
      refine E_weak hle113 ?_
      exact end1 rfl rfl ⟨rfl, rfl, rfl⟩
    · have hm := ite_f' hb128 hm
      refine C_skip ?_
      refine E_normal_block ?_
      refine E_then ?_
      refine C_region ?_
      refine W_bin rfl rfl rfl rfl rfl ?_
      refine W_move rfl rfl rfl ?_
      refine W_end ?_
      exact E_keepJ (E_back (Nat.lt_succ_self _) ⟨k101 + 1, zs119, hd122, rfl, (by rw [hn116]; exact hm), hle113, rfl, rfl⟩) (List.Perm.refl _) ⟨rfl, rfl, rfl, (congrArg (fun z => some (Value.int .i64 z)) (i64_succN hy120 (toNat_max (len_max (h0).lenMax)))), trivial⟩
  · obtain rfl := rngN_f hd121 hb123
    have hm : (some (-1)) = some r := hm
    refine C_exit (E_exit_then ?_)
    refine E_exit_then ?_
    refine E_exit_hit ?_
    refine E_then ?_
    refine C_seq ?_
    refine C_region ?_
    refine W_assign rfl rfl rfl ?_
    refine W_end ?_
    refine E_then ?_
    refine C_ret ?_
    obtain rfl := Option.some.inj hm
    refine E_weak hle113 ?_
    exact end1 rfl rfl ⟨rfl, rfl, rfl⟩

theorem m_netmodel_find_3_c {B : Nat} {w0 w : World} {H : Hp} {M : List Res} {p0_x : S_api_Gen} {p1_c1 : ByteArray} {b0 : Nat} {r : Bool} (hm : m_netmodel_find_3 p0_x p1_c1 = r) (ht : St B w0 H (.obj b0 (.cells [.string (p1_c1)].toArray 9 (0, 0)) :: M) w) :
    Calls Proofs.Try.prog 86 [.agg [.string (p0_x.Name), .string (p0_x.Node), .int .i64 (p0_x.Least), .int .i64 (p0_x.Most), .int .i64 (p0_x.Ramp)].toArray, .pointer (some ⟨b0, 0, none⟩)].toArray w (Ret B w0 fun H' M' v => H = H' ∧ .obj b0 (.cells [.string (p1_c1)].toArray 9 (0, 0)) :: M = M' ∧ .bool (r) = v) := by
  unfold m_netmodel_find_3 at hm
  refine enter Proofs.Try.func86 rfl rfl rfl ht ?_
  refine C_seq ?_
  refine C_region ?_
  refine W_box (cs := [.string (p0_x.Name), .string (p0_x.Node), .int .i64 (p0_x.Least), .int .i64 (p0_x.Most), .int .i64 (p0_x.Ramp)]) rfl rfl rfl rfl (fun b101 => ?_)
  refine W_assign rfl rfl rfl ?_
  refine W_end ?_
  refine E_then ?_
  refine C_seq ?_
  refine C_region ?_
  refine W_field (o := 0) rfl rfl Proofs.Try.runUnderlying39 rfl Proofs.Try.sizeOf9 rfl rfl rfl ?_
  refine W_load rfl rfl Proofs.Try.isAgg9 rfl (own_at (List.mem_cons_self ..) rfl) ?_
  refine W_load rfl rfl Proofs.Try.isAgg9 rfl (own_at (List.mem_cons_of_mem _ (List.mem_cons_self ..)) rfl) ?_
  refine W_bin rfl rfl rfl rfl rfl ?_
  refine W_assign rfl rfl rfl ?_
  refine W_end ?_
  refine E_then ?_
  refine C_ret ?_
  obtain rfl := hm
  refine E_drop (List.Sublist.cons _ (List.Sublist.refl _)) ?_
  refine E_weak (Hp.le_refl _) ?_
  exact end1 rfl rfl ⟨rfl, rfl, rfl⟩

theorem m_slices_IndexFunc_api_Gen_api_Gen__netmodel_find_3_c {B : Nat} {w0 w : World} {H : Hp} {M : List Res} {p0_s : (List S_api_Gen)} {p1_f_0 : ByteArray} {v0 : Value} {b0 : Nat} {r : Int} (hm : m_slices_IndexFunc_api_Gen_api_Gen__netmodel_find_3 p0_s p1_f_0 = some r) (h0 : RdS H v0 p0_s) (ht : St B w0 H (.obj b0 (.cells [.string (p1_f_0)].toArray 9 (0, 0)) :: M) w) :
    Calls Proofs.Try.prog 73 [v0, .func (.func 86) [].toArray [.pointer (some ⟨b0, 0, none⟩)].toArray].toArray w (Ret B w0 fun H' M' v => H = H' ∧ .obj b0 (.cells [.string (p1_f_0)].toArray 9 (0, 0)) :: M = M' ∧ .int .i64 (r) = v) := by
  unfold m_slices_IndexFunc_api_Gen_api_Gen__netmodel_find_3 at hm
  refine enter Proofs.Try.func73 rfl rfl rfl ht ?_
  refine C_seq ?_
  refine C_region ?_
  refine W_assign rfl rfl rfl ?_
  refine W_end ?_
  refine E_then ?_
  refine C_seq ?_
  refine C_seq ?_
  refine C_region ?_
  refine W_move rfl rfl rfl ?_
  refine W_lenR rfl rfl Proofs.Try.runUnderlying25 rfl h0 ?_
  refine W_move rfl rfl rfl ?_
  refine W_end ?_
  refine E_then ?_
  refine C_block ?_
  refine C_keep (L' := [(0, v0), (1, .func (.func 86) [].toArray [.pointer (some ⟨b0, 0, none⟩)].toArray), (7, .int .i64 ((p0_s.length : Int))), (8, .int .i64 (((0 : Nat) : Int)))]) ⟨rfl, rfl, rfl, rfl, trivial⟩ (List.Perm.refl _) ?_
  refine C_loop (fun n H' M' L' => ∃ (k101 : Nat) (zs119' : Nat), k101 + zs119' = ((p0_s.length : Int) : Int).toNat ∧ zs119' = n ∧ forN (fun k s114 n => m_slices_IndexFunc_api_Gen_api_Gen__netmodel_find_3_b1 p0_s p1_f_0 k n) (fun _ => some (-1)) zs119' k101 () = some r ∧ H.le H' ∧ .obj b0 (.cells [.string (p1_f_0)].toArray 9 (0, 0)) :: M = M' ∧ [(0, v0), (1, .func (.func 86) [].toArray [.pointer (some ⟨b0, 0, none⟩)].toArray), (7, .int .i64 ((p0_s.length : Int))), (8, .int .i64 ((k101 : Int)))] = L') _ ⟨0, _, Nat.zero_add _, rfl, hm, (Hp.le_refl _), rfl, rfl⟩ ?_
  rintro _ H112 _ _ ⟨k101, zs119', hd121, rfl, hm, hle113, rfl, rfl⟩
  refine C_seq ?_
  refine C_region ?_
  refine W_bin rfl rfl rfl rfl rfl ?_
  refine W_end (E_then ?_)
  refine C_seq ?_
  refine C_cond (b := decide ((k101 : Int) < (p0_s.length : Int))) rfl (fun hb123 => ?_) (fun hb123 => ?_)
  · obtain ⟨zs119, rfl, hd122, hy120⟩ := rngN_t hd121 hb123
    have hm : m_slices_IndexFunc_api_Gen_api_Gen__netmodel_find_3_b1 p0_s p1_f_0 k101 (forN (fun k s114 n => m_slices_IndexFunc_api_Gen_api_Gen__netmodel_find_3_b1 p0_s p1_f_0 k n) (fun _ => some (-1)) zs119 (k101 + 1)) = some r := hm
    generalize hn116 : forN (fun k s114 n => m_slices_IndexFunc_api_Gen_api_Gen__netmodel_find_3_b1 p0_s p1_f_0 k n) (fun _ => some (-1)) zs119 (k101 + 1) = nx115 at hm
    unfold m_slices_IndexFunc_api_Gen_api_Gen__netmodel_find_3_b1 at hm
    refine C_skip (E_then ?_)
    refine C_seq ?_
    refine C_block ?_
    refine C_seq ?_
    refine C_region ?_
    refine W_move rfl rfl rfl ?_
    refine W_assign rfl rfl rfl ?_
    refine W_end ?_
    refine E_then ?_
    refine C_seq ?_
    refine C_region ?_
    refine W_move rfl rfl rfl ?_
    refine W_move rfl rfl rfl ?_
    refine W_move rfl rfl rfl ?_
    obtain ⟨y124, h125, he126, hm⟩ := idx_some hm
    obtain ⟨_, ⟨rfl⟩, hc127⟩ := (h0).elem he126
    refine W_indexS rfl rfl Proofs.Try.runUnderlying25 Proofs.Try.sizeOf39 rfl (h0.mono hle113) rfl h125 he126 ?_
    refine W_loadAgg rfl rfl Proofs.Try.isAgg39 Proofs.Try.sizeOf39 rfl (hc127.mono hle113).at rfl ?_
    refine W_callv Proofs.Try.call86 rfl rfl rfl rfl (fun w ht => by have h := m_netmodel_find_3_c (hm := (rfl : m_netmodel_find_3 y124 p1_f_0 = _))  ht; exact h) ?_
    rintro _ _ _ ⟨rfl, rfl, rfl⟩
    refine W_end ?_
    refine E_then ?_
    refine C_cond (b := (m_netmodel_find_3 y124 p1_f_0)) rfl (fun hb128 => ?_) (fun hb128 => ?_)
    · have hm := ite_t' hb128 hm
      refine C_seq ?_
      refine C_region ?_
      refine W_move rfl rfl rfl ?_
      refine W_assign rfl rfl rfl ?_
      refine W_end ?_
      refine E_then ?_
      refine C_ret ?_
      refine E_ret_block ?_
      refine E_ret_then ?_
      refine E_ret_then ?_
      refine E_ret_block ?_
      refine E_ret_then ?_
      obtain rfl := Option.some.inj hm
      refine E_weak hle113 ?_
      exact end1 rfl rfl ⟨rfl, rfl, rfl⟩
    · have hm := ite_f' hb128 hm
      refine C_skip ?_
      refine E_normal_block ?_
      refine E_then ?_
      refine C_region ?_
      refine W_bin rfl rfl rfl rfl rfl ?_
      refine W_move rfl rfl rfl ?_
      refine W_end ?_
      exact E_keepJ (E_back (Nat.lt_succ_self _) ⟨k101 + 1, zs119, hd122, rfl, (by rw [hn116]; exact hm), hle113, rfl, rfl⟩) (List.Perm.refl _) ⟨rfl, rfl, rfl, (congrArg (fun z => some (Value.int .i64 z)) (i64_succN hy120 (toNat_max (len_max (h0).lenMax)))), trivial⟩
  · obtain rfl := rngN_f hd121 hb123
    have hm : (some (-1)) = some r := hm
    refine C_exit (E_exit_then ?_)
    refine E_exit_then ?_
    refine E_exit_hit ?_
    refine E_then ?_
    refine C_seq ?_
    refine C_region ?_
    refine W_assign rfl rfl rfl ?_
    refine W_end ?_
    refine E_then ?_
    refine C_ret ?_
    obtain rfl := Option.some.inj hm
    refine E_weak hle113 ?_
    exact end1 rfl rfl ⟨rfl, rfl, rfl⟩

theorem m_netmodel_find_4_c {B : Nat} {w0 w : World} {H : Hp} {M : List Res} {p0_x : S_api_Load} {p1_c1 : ByteArray} {b0 : Nat} {r : Bool} (hm : m_netmodel_find_4 p0_x p1_c1 = r) (ht : St B w0 H (.obj b0 (.cells [.string (p1_c1)].toArray 9 (0, 0)) :: M) w) :
    Calls Proofs.Try.prog 88 [.agg [.string (p0_x.Name), .string (p0_x.Node), .int .i64 (p0_x.Demand)].toArray, .pointer (some ⟨b0, 0, none⟩)].toArray w (Ret B w0 fun H' M' v => H = H' ∧ .obj b0 (.cells [.string (p1_c1)].toArray 9 (0, 0)) :: M = M' ∧ .bool (r) = v) := by
  unfold m_netmodel_find_4 at hm
  refine enter Proofs.Try.func88 rfl rfl rfl ht ?_
  refine C_seq ?_
  refine C_region ?_
  refine W_box (cs := [.string (p0_x.Name), .string (p0_x.Node), .int .i64 (p0_x.Demand)]) rfl rfl rfl rfl (fun b101 => ?_)
  refine W_assign rfl rfl rfl ?_
  refine W_end ?_
  refine E_then ?_
  refine C_seq ?_
  refine C_region ?_
  refine W_field (o := 0) rfl rfl Proofs.Try.runUnderlying43 rfl Proofs.Try.sizeOf9 rfl rfl rfl ?_
  refine W_load rfl rfl Proofs.Try.isAgg9 rfl (own_at (List.mem_cons_self ..) rfl) ?_
  refine W_load rfl rfl Proofs.Try.isAgg9 rfl (own_at (List.mem_cons_of_mem _ (List.mem_cons_self ..)) rfl) ?_
  refine W_bin rfl rfl rfl rfl rfl ?_
  refine W_assign rfl rfl rfl ?_
  refine W_end ?_
  refine E_then ?_
  refine C_ret ?_
  obtain rfl := hm
  refine E_drop (List.Sublist.cons _ (List.Sublist.refl _)) ?_
  refine E_weak (Hp.le_refl _) ?_
  exact end1 rfl rfl ⟨rfl, rfl, rfl⟩

theorem m_slices_IndexFunc_api_Load_api_Load__netmodel_find_4_c {B : Nat} {w0 w : World} {H : Hp} {M : List Res} {p0_s : (List S_api_Load)} {p1_f_0 : ByteArray} {v0 : Value} {b0 : Nat} {r : Int} (hm : m_slices_IndexFunc_api_Load_api_Load__netmodel_find_4 p0_s p1_f_0 = some r) (h0 : RdS H v0 p0_s) (ht : St B w0 H (.obj b0 (.cells [.string (p1_f_0)].toArray 9 (0, 0)) :: M) w) :
    Calls Proofs.Try.prog 87 [v0, .func (.func 88) [].toArray [.pointer (some ⟨b0, 0, none⟩)].toArray].toArray w (Ret B w0 fun H' M' v => H = H' ∧ .obj b0 (.cells [.string (p1_f_0)].toArray 9 (0, 0)) :: M = M' ∧ .int .i64 (r) = v) := by
  unfold m_slices_IndexFunc_api_Load_api_Load__netmodel_find_4 at hm
  refine enter Proofs.Try.func87 rfl rfl rfl ht ?_
  refine C_seq ?_
  refine C_region ?_
  refine W_assign rfl rfl rfl ?_
  refine W_end ?_
  refine E_then ?_
  refine C_seq ?_
  refine C_seq ?_
  refine C_region ?_
  refine W_move rfl rfl rfl ?_
  refine W_lenR rfl rfl Proofs.Try.runUnderlying26 rfl h0 ?_
  refine W_move rfl rfl rfl ?_
  refine W_end ?_
  refine E_then ?_
  refine C_block ?_
  refine C_keep (L' := [(0, v0), (1, .func (.func 88) [].toArray [.pointer (some ⟨b0, 0, none⟩)].toArray), (7, .int .i64 ((p0_s.length : Int))), (8, .int .i64 (((0 : Nat) : Int)))]) ⟨rfl, rfl, rfl, rfl, trivial⟩ (List.Perm.refl _) ?_
  refine C_loop (fun n H' M' L' => ∃ (k101 : Nat) (zs119' : Nat), k101 + zs119' = ((p0_s.length : Int) : Int).toNat ∧ zs119' = n ∧ forN (fun k s114 n => m_slices_IndexFunc_api_Load_api_Load__netmodel_find_4_b1 p0_s p1_f_0 k n) (fun _ => some (-1)) zs119' k101 () = some r ∧ H.le H' ∧ .obj b0 (.cells [.string (p1_f_0)].toArray 9 (0, 0)) :: M = M' ∧ [(0, v0), (1, .func (.func 88) [].toArray [.pointer (some ⟨b0, 0, none⟩)].toArray), (7, .int .i64 ((p0_s.length : Int))), (8, .int .i64 ((k101 : Int)))] = L') _ ⟨0, _, Nat.zero_add _, rfl, hm, (Hp.le_refl _), rfl, rfl⟩ ?_
  rintro _ H112 _ _ ⟨k101, zs119', hd121, rfl, hm, hle113, rfl, rfl⟩
  refine C_seq ?_
  refine C_region ?_
  refine W_bin rfl rfl rfl rfl rfl ?_
  refine W_end (E_then ?_)
  refine C_seq ?_
  refine C_cond (b := decide ((k101 : Int) < (p0_s.length : Int))) rfl (fun hb123 => ?_) (fun hb123 => ?_)
  · obtain ⟨zs119, rfl, hd122, hy120⟩ := rngN_t hd121 hb123
    have hm : m_slices_IndexFunc_api_Load_api_Load__netmodel_find_4_b1 p0_s p1_f_0 k101 (forN (fun k s114 n => m_slices_IndexFunc_api_Load_api_Load__netmodel_find_4_b1 p0_s p1_f_0 k n) (fun _ => some (-1)) zs119 (k101 + 1)) = some r := hm
    generalize hn116 : forN (fun k s114 n => m_slices_IndexFunc_api_Load_api_Load__netmodel_find_4_b1 p0_s p1_f_0 k n) (fun _ => some (-1)) zs119 (k101 + 1) = nx115 at hm
    unfold m_slices_IndexFunc_api_Load_api_Load__netmodel_find_4_b1 at hm
    refine C_skip (E_then ?_)
    refine C_seq ?_
    refine C_block ?_
    refine C_seq ?_
    refine C_region ?_
    refine W_move rfl rfl rfl ?_
    refine W_assign rfl rfl rfl ?_
    refine W_end ?_
    refine E_then ?_
    refine C_seq ?_
    refine C_region ?_
    refine W_move rfl rfl rfl ?_
    refine W_move rfl rfl rfl ?_
    refine W_move rfl rfl rfl ?_
    obtain ⟨y124, h125, he126, hm⟩ := idx_some hm
    obtain ⟨_, ⟨rfl⟩, hc127⟩ := (h0).elem he126
    refine W_indexS rfl rfl Proofs.Try.runUnderlying26 Proofs.Try.sizeOf43 rfl (h0.mono hle113) rfl h125 he126 ?_
    refine W_loadAgg rfl rfl Proofs.Try.isAgg43 Proofs.Try.sizeOf43 rfl (hc127.mono hle113).at rfl ?_
    refine W_callv Proofs.Try.call88 rfl rfl rfl rfl (fun w ht => by have h := m_netmodel_find_4_c (hm := (rfl : m_netmodel_find_4 y124 p1_f_0 = _))  ht; exact h) ?_
    rintro _ _ _ ⟨rfl, rfl, rfl⟩
    refine W_end ?_
    refine E_then ?_
    refine C_cond (b := (m_netmodel_find_4 y124 p1_f_0)) rfl (fun hb128 => ?_) (fun hb128 => ?_)
    · have hm := ite_t' hb128 hm
      refine C_seq ?_
      refine C_region ?_
      refine W_move rfl rfl rfl ?_
      refine W_assign rfl rfl rfl ?_
      refine W_end ?_
      refine E_then ?_
      refine C_ret ?_
      refine E_ret_block ?_
      refine E_ret_then ?_
      refine E_ret_then ?_
      refine E_ret_block ?_
      refine E_ret_then ?_
      obtain rfl := Option.some.inj hm
      refine E_weak hle113 ?_
      exact end1 rfl rfl ⟨rfl, rfl, rfl⟩
    · have hm := ite_f' hb128 hm
      refine C_skip ?_
      refine E_normal_block ?_
      refine E_then ?_
      refine C_region ?_
      refine W_bin rfl rfl rfl rfl rfl ?_
      refine W_move rfl rfl rfl ?_
      refine W_end ?_
      exact E_keepJ (E_back (Nat.lt_succ_self _) ⟨k101 + 1, zs119, hd122, rfl, (by rw [hn116]; exact hm), hle113, rfl, rfl⟩) (List.Perm.refl _) ⟨rfl, rfl, rfl, (congrArg (fun z => some (Value.int .i64 z)) (i64_succN hy120 (toNat_max (len_max (h0).lenMax)))), trivial⟩
  · obtain rfl := rngN_f hd121 hb123
    have hm : (some (-1)) = some r := hm
    refine C_exit (E_exit_then ?_)
    refine E_exit_then ?_
    refine E_exit_hit ?_
    refine E_then ?_
    refine C_seq ?_
    refine C_region ?_
    refine W_assign rfl rfl rfl ?_
    refine W_end ?_
    refine E_then ?_
    refine C_ret ?_
    obtain rfl := Option.some.inj hm
    refine E_weak hle113 ?_
    exact end1 rfl rfl ⟨rfl, rfl, rfl⟩

theorem m_netmodel_find_5_c {B : Nat} {w0 w : World} {H : Hp} {M : List Res} {p0_x : S_api_Store} {p1_c1 : ByteArray} {b0 : Nat} {r : Bool} (hm : m_netmodel_find_5 p0_x p1_c1 = r) (ht : St B w0 H (.obj b0 (.cells [.string (p1_c1)].toArray 9 (0, 0)) :: M) w) :
    Calls Proofs.Try.prog 90 [.agg [.string (p0_x.Name), .string (p0_x.Node), .int .i64 (p0_x.Charge), .int .i64 (p0_x.Discharge), .int .i64 (p0_x.Capacity)].toArray, .pointer (some ⟨b0, 0, none⟩)].toArray w (Ret B w0 fun H' M' v => H = H' ∧ .obj b0 (.cells [.string (p1_c1)].toArray 9 (0, 0)) :: M = M' ∧ .bool (r) = v) := by
  unfold m_netmodel_find_5 at hm
  refine enter Proofs.Try.func90 rfl rfl rfl ht ?_
  refine C_seq ?_
  refine C_region ?_
  refine W_box (cs := [.string (p0_x.Name), .string (p0_x.Node), .int .i64 (p0_x.Charge), .int .i64 (p0_x.Discharge), .int .i64 (p0_x.Capacity)]) rfl rfl rfl rfl (fun b101 => ?_)
  refine W_assign rfl rfl rfl ?_
  refine W_end ?_
  refine E_then ?_
  refine C_seq ?_
  refine C_region ?_
  refine W_field (o := 0) rfl rfl Proofs.Try.runUnderlying103 rfl Proofs.Try.sizeOf9 rfl rfl rfl ?_
  refine W_load rfl rfl Proofs.Try.isAgg9 rfl (own_at (List.mem_cons_self ..) rfl) ?_
  refine W_load rfl rfl Proofs.Try.isAgg9 rfl (own_at (List.mem_cons_of_mem _ (List.mem_cons_self ..)) rfl) ?_
  refine W_bin rfl rfl rfl rfl rfl ?_
  refine W_assign rfl rfl rfl ?_
  refine W_end ?_
  refine E_then ?_
  refine C_ret ?_
  obtain rfl := hm
  refine E_drop (List.Sublist.cons _ (List.Sublist.refl _)) ?_
  refine E_weak (Hp.le_refl _) ?_
  exact end1 rfl rfl ⟨rfl, rfl, rfl⟩

theorem m_slices_IndexFunc_api_Store_api_Store__netmodel_find_5_c {B : Nat} {w0 w : World} {H : Hp} {M : List Res} {p0_s : (List S_api_Store)} {p1_f_0 : ByteArray} {v0 : Value} {b0 : Nat} {r : Int} (hm : m_slices_IndexFunc_api_Store_api_Store__netmodel_find_5 p0_s p1_f_0 = some r) (h0 : RdS H v0 p0_s) (ht : St B w0 H (.obj b0 (.cells [.string (p1_f_0)].toArray 9 (0, 0)) :: M) w) :
    Calls Proofs.Try.prog 89 [v0, .func (.func 90) [].toArray [.pointer (some ⟨b0, 0, none⟩)].toArray].toArray w (Ret B w0 fun H' M' v => H = H' ∧ .obj b0 (.cells [.string (p1_f_0)].toArray 9 (0, 0)) :: M = M' ∧ .int .i64 (r) = v) := by
  unfold m_slices_IndexFunc_api_Store_api_Store__netmodel_find_5 at hm
  refine enter Proofs.Try.func89 rfl rfl rfl ht ?_
  refine C_seq ?_
  refine C_region ?_
  refine W_assign rfl rfl rfl ?_
  refine W_end ?_
  refine E_then ?_
  refine C_seq ?_
  refine C_seq ?_
  refine C_region ?_
  refine W_move rfl rfl rfl ?_
  refine W_lenR rfl rfl Proofs.Try.runUnderlying27 rfl h0 ?_
  refine W_move rfl rfl rfl ?_
  refine W_end ?_
  refine E_then ?_
  refine C_block ?_
  refine C_keep (L' := [(0, v0), (1, .func (.func 90) [].toArray [.pointer (some ⟨b0, 0, none⟩)].toArray), (7, .int .i64 ((p0_s.length : Int))), (8, .int .i64 (((0 : Nat) : Int)))]) ⟨rfl, rfl, rfl, rfl, trivial⟩ (List.Perm.refl _) ?_
  refine C_loop (fun n H' M' L' => ∃ (k101 : Nat) (zs119' : Nat), k101 + zs119' = ((p0_s.length : Int) : Int).toNat ∧ zs119' = n ∧ forN (fun k s114 n => m_slices_IndexFunc_api_Store_api_Store__netmodel_find_5_b1 p0_s p1_f_0 k n) (fun _ => some (-1)) zs119' k101 () = some r ∧ H.le H' ∧ .obj b0 (.cells [.string (p1_f_0)].toArray 9 (0, 0)) :: M = M' ∧ [(0, v0), (1, .func (.func 90) [].toArray [.pointer (some ⟨b0, 0, none⟩)].toArray), (7, .int .i64 ((p0_s.length : Int))), (8, .int .i64 ((k101 : Int)))] = L') _ ⟨0, _, Nat.zero_add _, rfl, hm, (Hp.le_refl _), rfl, rfl⟩ ?_
  rintro _ H112 _ _ ⟨k101, zs119', hd121, rfl, hm, hle113, rfl, rfl⟩
  refine C_seq ?_
  refine C_region ?_
  refine W_bin rfl rfl rfl rfl rfl ?_
  refine W_end (E_then ?_)
  refine C_seq ?_
  refine C_cond (b := decide ((k101 : Int) < (p0_s.length : Int))) rfl (fun hb123 => ?_) (fun hb123 => ?_)
  · obtain ⟨zs119, rfl, hd122, hy120⟩ := rngN_t hd121 hb123
    have hm : m_slices_IndexFunc_api_Store_api_Store__netmodel_find_5_b1 p0_s p1_f_0 k101 (forN (fun k s114 n => m_slices_IndexFunc_api_Store_api_Store__netmodel_find_5_b1 p0_s p1_f_0 k n) (fun _ => some (-1)) zs119 (k101 + 1)) = some r := hm
    generalize hn116 : forN (fun k s114 n => m_slices_IndexFunc_api_Store_api_Store__netmodel_find_5_b1 p0_s p1_f_0 k n) (fun _ => some (-1)) zs119 (k101 + 1) = nx115 at hm
    unfold m_slices_IndexFunc_api_Store_api_Store__netmodel_find_5_b1 at hm
    refine C_skip (E_then ?_)
    refine C_seq ?_
    refine C_block ?_
    refine C_seq ?_
    refine C_region ?_
    refine W_move rfl rfl rfl ?_
    refine W_assign rfl rfl rfl ?_
    refine W_end ?_
    refine E_then ?_
    refine C_seq ?_
    refine C_region ?_
    refine W_move rfl rfl rfl ?_
    refine W_move rfl rfl rfl ?_
    refine W_move rfl rfl rfl ?_
    obtain ⟨y124, h125, he126, hm⟩ := idx_some hm
    obtain ⟨_, ⟨rfl⟩, hc127⟩ := (h0).elem he126
    refine W_indexS rfl rfl Proofs.Try.runUnderlying27 Proofs.Try.sizeOf103 rfl (h0.mono hle113) rfl h125 he126 ?_
    refine W_loadAgg rfl rfl Proofs.Try.isAgg103 Proofs.Try.sizeOf103 rfl (hc127.mono hle113).at rfl ?_
    refine W_callv Proofs.Try.call90 rfl rfl rfl rfl (fun w ht => by have h := m_netmodel_find_5_c (hm := (rfl : m_netmodel_find_5 y124 p1_f_0 = _))  ht; exact h) ?_
    rintro _ _ _ ⟨rfl, rfl, rfl⟩
    refine W_end ?_
    refine E_then ?_
    refine C_cond (b := (m_netmodel_find_5 y124 p1_f_0)) rfl (fun hb128 => ?_) (fun hb128 => ?_)
    · have hm := ite_t' hb128 hm
      refine C_seq ?_
      refine C_region ?_
      refine W_move rfl rfl rfl ?_
      refine W_assign rfl rfl rfl ?_
      refine W_end ?_
      refine E_then ?_
      refine C_ret ?_
      refine E_ret_block ?_
      refine E_ret_then ?_
      refine E_ret_then ?_
      refine E_ret_block ?_
      refine E_ret_then ?_
      obtain rfl := Option.some.inj hm
      refine E_weak hle113 ?_
      exact end1 rfl rfl ⟨rfl, rfl, rfl⟩
    · have hm := ite_f' hb128 hm
      refine C_skip ?_
      refine E_normal_block ?_
      refine E_then ?_
      refine C_region ?_
      refine W_bin rfl rfl rfl rfl rfl ?_
      refine W_move rfl rfl rfl ?_
      refine W_end ?_
      exact E_keepJ (E_back (Nat.lt_succ_self _) ⟨k101 + 1, zs119, hd122, rfl, (by rw [hn116]; exact hm), hle113, rfl, rfl⟩) (List.Perm.refl _) ⟨rfl, rfl, rfl, (congrArg (fun z => some (Value.int .i64 z)) (i64_succN hy120 (toNat_max (len_max (h0).lenMax)))), trivial⟩
  · obtain rfl := rngN_f hd121 hb123
    have hm : (some (-1)) = some r := hm
    refine C_exit (E_exit_then ?_)
    refine E_exit_then ?_
    refine E_exit_hit ?_
    refine E_then ?_
    refine C_seq ?_
    refine C_region ?_
    refine W_assign rfl rfl rfl ?_
    refine W_end ?_
    refine E_then ?_
    refine C_ret ?_
    obtain rfl := Option.some.inj hm
    refine E_weak hle113 ?_
    exact end1 rfl rfl ⟨rfl, rfl, rfl⟩

theorem m_netmodel_find_c {B : Nat} {w0 w : World} {H : Hp} {M : List Res} {p0_n : S_api_Network} {name : ByteArray} {v0 : Value} {v1 : Value} {v2 : Value} {v3 : Value} {v4 : Value} {v5 : Value} {r : ByteArray × Int} (hm : m_netmodel_find p0_n name = some r) (h0 : RdS H v0 p0_n.Nodes) (h1 : RdS H v1 p0_n.Switches) (h2 : RdS H v2 p0_n.Branches) (h3 : RdS H v3 p0_n.Gens) (h4 : RdS H v4 p0_n.Loads) (h5 : RdS H v5 p0_n.Stores) (ht : St B w0 H (M) w) :
    Calls Proofs.Try.prog 65 [.agg [v0, v1, v2, v3, v4, v5].toArray, .string (name)].toArray w (Ret B w0 fun H' M' v => H = H' ∧ M = M' ∧ .tuple #[.string (r.1), .int .i64 (r.2)] = v) := by
  unfold m_netmodel_find at hm
  refine enter Proofs.Try.func65 rfl rfl rfl ht ?_
  refine C_seq ?_
  refine C_region ?_
  refine W_box (cs := [v0, v1, v2, v3, v4, v5]) rfl rfl rfl rfl (fun b101 => ?_)
  refine W_box (cs := [.string (name)]) rfl rfl rfl rfl (fun b102 => ?_)
  refine W_assign rfl rfl rfl ?_
  refine W_assign rfl rfl rfl ?_
  refine W_end ?_
  refine E_then ?_
  refine C_seq ?_
  refine C_seq ?_
  refine C_region ?_
  refine W_field (o := 0) rfl rfl Proofs.Try.runUnderlying29 rfl Proofs.Try.sizeOf22 rfl rfl rfl ?_
  refine W_load rfl rfl Proofs.Try.isAgg22 rfl (own_at (List.mem_cons_of_mem _ (List.mem_cons_self ..)) rfl) ?_
  refine W_load rfl rfl Proofs.Try.isAgg9 rfl (own_at (List.mem_cons_self ..) rfl) ?_
  obtain ⟨r103, hc104, hm⟩ := bind_some hm
  refine W_call Proofs.Try.call50 rfl rfl rfl (fun w ht => by have h := m_slices_Index_string_string_c (hm := hc104) h0 ht; exact h) ?_
  rintro _ _ _ ⟨rfl, rfl, rfl⟩
  refine W_assign rfl rfl rfl ?_
  refine W_end ?_
  refine E_then ?_
  refine C_seq ?_
  refine C_region ?_
  refine W_move rfl rfl rfl ?_
  refine W_bin rfl rfl rfl rfl rfl ?_
  refine W_end ?_
  refine E_then ?_
  refine C_cond (b := decide (0 ≤ r103)) rfl (fun hb105 => ?_) (fun hb105 => ?_)
  · have hm := ite_t' hb105 hm
    refine C_seq ?_
    refine C_region ?_
    refine W_move rfl rfl rfl ?_
    refine W_assign rfl rfl rfl ?_
    refine W_assign rfl rfl rfl ?_
    refine W_end ?_
    refine E_then ?_
    refine C_ret ?_
    refine E_ret_then ?_
    obtain rfl := Option.some.inj hm
    refine E_drop (List.Sublist.cons _ (List.Sublist.cons _ (List.Sublist.refl _))) ?_
    refine E_weak (Hp.le_refl _) ?_
    exact end2 rfl rfl rfl ⟨rfl, rfl, rfl⟩
  · have hm := ite_f' hb105 hm
    refine C_skip ?_
    refine E_then ?_
    refine C_seq ?_
    refine C_seq ?_
    refine C_region ?_
    refine W_field (o := 1) rfl rfl Proofs.Try.runUnderlying29 rfl Proofs.Try.sizeOf23 rfl rfl rfl ?_
    refine W_load rfl rfl Proofs.Try.isAgg23 rfl (own_at (List.mem_cons_of_mem _ (List.mem_cons_self ..)) rfl) ?_
    refine W_makeFunc rfl rfl rfl rfl ?_
    obtain ⟨r106, hc107, hm⟩ := bind_some hm
    refine W_call Proofs.Try.call75 rfl rfl rfl (fun w ht => by have h := m_slices_IndexFunc_api_Switch_api_Switch__netmodel_find_1_c (hm := hc107) h1 ht; exact h) ?_
    rintro _ _ _ ⟨rfl, rfl, rfl⟩
    refine W_assign rfl rfl rfl ?_
    refine W_end ?_
    refine E_then ?_
    refine C_seq ?_
    refine C_region ?_
    refine W_move rfl rfl rfl ?_
    refine W_bin rfl rfl rfl rfl rfl ?_
    refine W_end ?_
    refine E_then ?_
    refine C_cond (b := decide (0 ≤ r106)) rfl (fun hb108 => ?_) (fun hb108 => ?_)
    · have hm := ite_t' hb108 hm
      refine C_seq ?_
      refine C_region ?_
      refine W_move rfl rfl rfl ?_
      refine W_assign rfl rfl rfl ?_
      refine W_assign rfl rfl rfl ?_
      refine W_end ?_
      refine E_then ?_
      refine C_ret ?_
      refine E_ret_then ?_
      obtain rfl := Option.some.inj hm
      refine E_drop (List.Sublist.cons _ (List.Sublist.cons _ (List.Sublist.refl _))) ?_
      refine E_weak (Hp.le_refl _) ?_
      exact end2 rfl rfl rfl ⟨rfl, rfl, rfl⟩
    · have hm := ite_f' hb108 hm
      refine C_skip ?_
      refine E_then ?_
      refine C_seq ?_
      refine C_seq ?_
      refine C_region ?_
      refine W_field (o := 2) rfl rfl Proofs.Try.runUnderlying29 rfl Proofs.Try.sizeOf24 rfl rfl rfl ?_
      refine W_load rfl rfl Proofs.Try.isAgg24 rfl (own_at (List.mem_cons_of_mem _ (List.mem_cons_self ..)) rfl) ?_
      refine W_makeFunc rfl rfl rfl rfl ?_
      obtain ⟨r109, hc110, hm⟩ := bind_some hm
      refine W_call Proofs.Try.call84 rfl rfl rfl (fun w ht => by have h := m_slices_IndexFunc_api_Branch_api_Branch__netmodel_find_2_c (hm := hc110) h2 ht; exact h) ?_
      rintro _ _ _ ⟨rfl, rfl, rfl⟩
      refine W_assign rfl rfl rfl ?_
      refine W_end ?_
      refine E_then ?_
      refine C_seq ?_
      refine C_region ?_
      refine W_move rfl rfl rfl ?_
      refine W_bin rfl rfl rfl rfl rfl ?_
      refine W_end ?_
      refine E_then ?_
      refine C_cond (b := decide (0 ≤ r109)) rfl (fun hb111 => ?_) (fun hb111 => ?_)
      · have hm := ite_t' hb111 hm
        refine C_seq ?_
        refine C_region ?_
        refine W_move rfl rfl rfl ?_
        refine W_assign rfl rfl rfl ?_
        refine W_assign rfl rfl rfl ?_
        refine W_end ?_
        refine E_then ?_
        refine C_ret ?_
        refine E_ret_then ?_
        obtain rfl := Option.some.inj hm
        refine E_drop (List.Sublist.cons _ (List.Sublist.cons _ (List.Sublist.refl _))) ?_
        refine E_weak (Hp.le_refl _) ?_
        exact end2 rfl rfl rfl ⟨rfl, rfl, rfl⟩
      · have hm := ite_f' hb111 hm
        refine C_skip ?_
        refine E_then ?_
        refine C_seq ?_
        refine C_seq ?_
        refine C_region ?_
        refine W_field (o := 3) rfl rfl Proofs.Try.runUnderlying29 rfl Proofs.Try.sizeOf25 rfl rfl rfl ?_
        refine W_load rfl rfl Proofs.Try.isAgg25 rfl (own_at (List.mem_cons_of_mem _ (List.mem_cons_self ..)) rfl) ?_
        refine W_makeFunc rfl rfl rfl rfl ?_
        obtain ⟨r112, hc113, hm⟩ := bind_some hm
        refine W_call Proofs.Try.call73 rfl rfl rfl (fun w ht => by have h := m_slices_IndexFunc_api_Gen_api_Gen__netmodel_find_3_c (hm := hc113) h3 ht; exact h) ?_
        rintro _ _ _ ⟨rfl, rfl, rfl⟩
        refine W_assign rfl rfl rfl ?_
        refine W_end ?_
        refine E_then ?_
        refine C_seq ?_
        refine C_region ?_
        refine W_move rfl rfl rfl ?_
        refine W_bin rfl rfl rfl rfl rfl ?_
        refine W_end ?_
        refine E_then ?_
        refine C_cond (b := decide (0 ≤ r112)) rfl (fun hb114 => ?_) (fun hb114 => ?_)
        · have hm := ite_t' hb114 hm
          refine C_seq ?_
          refine C_region ?_
          refine W_move rfl rfl rfl ?_
          refine W_assign rfl rfl rfl ?_
          refine W_assign rfl rfl rfl ?_
          refine W_end ?_
          refine E_then ?_
          refine C_ret ?_
          refine E_ret_then ?_
          obtain rfl := Option.some.inj hm
          refine E_drop (List.Sublist.cons _ (List.Sublist.cons _ (List.Sublist.refl _))) ?_
          refine E_weak (Hp.le_refl _) ?_
          exact end2 rfl rfl rfl ⟨rfl, rfl, rfl⟩
        · have hm := ite_f' hb114 hm
          refine C_skip ?_
          refine E_then ?_
          refine C_seq ?_
          refine C_seq ?_
          refine C_region ?_
          refine W_field (o := 4) rfl rfl Proofs.Try.runUnderlying29 rfl Proofs.Try.sizeOf26 rfl rfl rfl ?_
          refine W_load rfl rfl Proofs.Try.isAgg26 rfl (own_at (List.mem_cons_of_mem _ (List.mem_cons_self ..)) rfl) ?_
          refine W_makeFunc rfl rfl rfl rfl ?_
          obtain ⟨r115, hc116, hm⟩ := bind_some hm
          refine W_call Proofs.Try.call87 rfl rfl rfl (fun w ht => by have h := m_slices_IndexFunc_api_Load_api_Load__netmodel_find_4_c (hm := hc116) h4 ht; exact h) ?_
          rintro _ _ _ ⟨rfl, rfl, rfl⟩
          refine W_assign rfl rfl rfl ?_
          refine W_end ?_
          refine E_then ?_
          refine C_seq ?_
          refine C_region ?_
          refine W_move rfl rfl rfl ?_
          refine W_bin rfl rfl rfl rfl rfl ?_
          refine W_end ?_
          refine E_then ?_
          refine C_cond (b := decide (0 ≤ r115)) rfl (fun hb117 => ?_) (fun hb117 => ?_)
          · have hm := ite_t' hb117 hm
            refine C_seq ?_
            refine C_region ?_
            refine W_move rfl rfl rfl ?_
            refine W_assign rfl rfl rfl ?_
            refine W_assign rfl rfl rfl ?_
            refine W_end ?_
            refine E_then ?_
            refine C_ret ?_
            refine E_ret_then ?_
            obtain rfl := Option.some.inj hm
            refine E_drop (List.Sublist.cons _ (List.Sublist.cons _ (List.Sublist.refl _))) ?_
            refine E_weak (Hp.le_refl _) ?_
            exact end2 rfl rfl rfl ⟨rfl, rfl, rfl⟩
          · have hm := ite_f' hb117 hm
            refine C_skip ?_
            refine E_then ?_
            refine C_seq ?_
            refine C_seq ?_
            refine C_region ?_
            refine W_field (o := 5) rfl rfl Proofs.Try.runUnderlying29 rfl Proofs.Try.sizeOf27 rfl rfl rfl ?_
            refine W_load rfl rfl Proofs.Try.isAgg27 rfl (own_at (List.mem_cons_of_mem _ (List.mem_cons_self ..)) rfl) ?_
            refine W_makeFunc rfl rfl rfl rfl ?_
            obtain ⟨r118, hc119, hm⟩ := bind_some hm
            refine W_call Proofs.Try.call89 rfl rfl rfl (fun w ht => by have h := m_slices_IndexFunc_api_Store_api_Store__netmodel_find_5_c (hm := hc119) h5 ht; exact h) ?_
            rintro _ _ _ ⟨rfl, rfl, rfl⟩
            refine W_assign rfl rfl rfl ?_
            refine W_end ?_
            refine E_then ?_
            refine C_seq ?_
            refine C_region ?_
            refine W_move rfl rfl rfl ?_
            refine W_bin rfl rfl rfl rfl rfl ?_
            refine W_end ?_
            refine E_then ?_
            refine C_cond (b := decide (0 ≤ r118)) rfl (fun hb120 => ?_) (fun hb120 => ?_)
            · have hm := ite_t' hb120 hm
              refine C_seq ?_
              refine C_region ?_
              refine W_move rfl rfl rfl ?_
              refine W_assign rfl rfl rfl ?_
              refine W_assign rfl rfl rfl ?_
              refine W_end ?_
              refine E_then ?_
              refine C_ret ?_
              refine E_ret_then ?_
              obtain rfl := Option.some.inj hm
              refine E_drop (List.Sublist.cons _ (List.Sublist.cons _ (List.Sublist.refl _))) ?_
              refine E_weak (Hp.le_refl _) ?_
              exact end2 rfl rfl rfl ⟨rfl, rfl, rfl⟩
            · have hm := ite_f' hb120 hm
              refine C_skip ?_
              refine E_then ?_
              refine C_seq ?_
              refine C_region ?_
              refine W_assign rfl rfl rfl ?_
              refine W_assign rfl rfl rfl ?_
              refine W_end ?_
              refine E_then ?_
              refine C_ret ?_
              obtain rfl := Option.some.inj hm
              refine E_drop (List.Sublist.cons _ (List.Sublist.cons _ (List.Sublist.refl _))) ?_
              refine E_weak (Hp.le_refl _) ?_
              exact end2 rfl rfl rfl ⟨rfl, rfl, rfl⟩

theorem m_netmodel_Find_c {B : Nat} {w0 w : World} {H : Hp} {M : List Res} {p0_n : S_api_Network} {name : ByteArray} {v0 : Value} {v1 : Value} {v2 : Value} {v3 : Value} {v4 : Value} {v5 : Value} {r : ByteArray × Int × Int} (hm : m_netmodel_Find p0_n name = some r) (h0 : RdS H v0 p0_n.Nodes) (h1 : RdS H v1 p0_n.Switches) (h2 : RdS H v2 p0_n.Branches) (h3 : RdS H v3 p0_n.Gens) (h4 : RdS H v4 p0_n.Loads) (h5 : RdS H v5 p0_n.Stores) (ht : St B w0 H (M) w) :
    Calls Proofs.Try.prog 42 [.agg [v0, v1, v2, v3, v4, v5].toArray, .string (name)].toArray w (Ret B w0 fun H' M' v => H = H' ∧ M = M' ∧ .tuple #[.string (r.1), .int .i64 (r.2.1), .int .i64 (r.2.2)] = v) := by
  unfold m_netmodel_Find at hm
  refine enter Proofs.Try.func42 rfl rfl rfl ht ?_
  refine C_seq ?_
  refine C_region ?_
  refine W_box (cs := [v0, v1, v2, v3, v4, v5]) rfl rfl rfl rfl (fun b101 => ?_)
  refine W_assign rfl rfl rfl ?_
  refine W_assign rfl rfl rfl ?_
  refine W_assign rfl rfl rfl ?_
  refine W_end ?_
  refine E_then ?_
  refine C_seq ?_
  refine C_seq ?_
  refine C_region ?_
  refine W_loadAgg rfl rfl Proofs.Try.isAgg29 Proofs.Try.sizeOf29 rfl (own_all (List.mem_cons_self ..)) rfl ?_
  obtain ⟨r102, hc103, hm⟩ := bind_some hm
  refine W_call Proofs.Try.call13 rfl rfl rfl (fun w ht => by have h := m_netmodel_Check_c (hm := hc103) h0 h1 h2 h3 h4 h5 ht; exact h) ?_
  rintro _ _ _ ⟨rfl, rfl, rfl⟩
  refine W_assign rfl rfl rfl ?_
  refine W_end ?_
  refine E_then ?_
  refine C_seq ?_
  refine C_region ?_
  refine W_move rfl rfl rfl ?_
  refine W_bin rfl rfl rfl rfl rfl ?_
  refine W_end ?_
  refine E_then ?_
  refine C_cond (b := !decide (r102 = 0)) rfl (fun hb104 => ?_) (fun hb104 => ?_)
  · have hm := ite_t' hb104 hm
    refine C_seq ?_
    refine C_region ?_
    refine W_move rfl rfl rfl ?_
    refine W_assign rfl rfl rfl ?_
    refine W_assign rfl rfl rfl ?_
    refine W_assign rfl rfl rfl ?_
    refine W_end ?_
    refine E_then ?_
    refine C_ret ?_
    refine E_ret_then ?_
    obtain rfl := Option.some.inj hm
    refine E_drop (List.Sublist.cons _ (List.Sublist.refl _)) ?_
    refine E_weak (Hp.le_refl _) ?_
    exact end3 rfl rfl rfl rfl ⟨rfl, rfl, rfl⟩
  · have hm := ite_f' hb104 hm
    refine C_skip ?_
    refine E_then ?_
    refine C_seq ?_
    refine C_region ?_
    refine W_loadAgg rfl rfl Proofs.Try.isAgg29 Proofs.Try.sizeOf29 rfl (own_all (List.mem_cons_self ..)) rfl ?_
    refine W_move rfl rfl rfl ?_
    obtain ⟨r105, hc106, hm⟩ := bind_some hm
    refine W_call Proofs.Try.call65 rfl rfl rfl (fun w ht => by have h := m_netmodel_find_c (hm := hc106) h0 h1 h2 h3 h4 h5 ht; exact h) ?_
    rintro _ _ _ ⟨rfl, rfl, rfl⟩
    refine W_move rfl rfl rfl ?_
    refine W_extract rfl rfl rfl rfl ?_
    refine W_extract rfl rfl rfl rfl ?_
    refine W_assign rfl rfl rfl ?_
    refine W_assign rfl rfl rfl ?_
    refine W_end ?_
    refine E_then ?_
    refine C_seq ?_
    refine C_seq ?_
    refine C_region ?_
    refine W_move rfl rfl rfl ?_
    refine W_bin rfl rfl rfl rfl rfl ?_
    refine W_end ?_
    refine E_then ?_
    refine C_cond (b := decide (r105.2 < 0)) rfl (fun hb107 => ?_) (fun hb107 => ?_)
    · have hm := ite_t' hb107 hm
      refine C_seq ?_
      refine C_region ?_
      refine W_assign rfl rfl rfl ?_
      refine W_assign rfl rfl rfl ?_
      refine W_assign rfl rfl rfl ?_
      refine W_end ?_
      refine E_then ?_
      refine C_ret ?_
      refine E_ret_then ?_
      obtain rfl := Option.some.inj hm
      refine E_drop (List.Sublist.cons _ (List.Sublist.refl _)) ?_
      refine E_weak (Hp.le_refl _) ?_
      exact end3 rfl rfl rfl rfl ⟨rfl, rfl, rfl⟩
    · have hm := ite_f' hb107 hm
      refine C_skip ?_
      refine E_then ?_
      refine C_seq ?_
      refine C_region ?_
      refine W_move rfl rfl rfl ?_
      refine W_move rfl rfl rfl ?_
      refine W_assign rfl rfl rfl ?_
      refine W_assign rfl rfl rfl ?_
      refine W_assign rfl rfl rfl ?_
      refine W_end ?_
      refine E_then ?_
      refine C_ret ?_
      obtain rfl := Option.some.inj hm
      refine E_drop (List.Sublist.cons _ (List.Sublist.refl _)) ?_
      refine E_weak (Hp.le_refl _) ?_
      exact end3 rfl rfl rfl rfl ⟨rfl, rfl, rfl⟩

theorem clone30_c {B : Nat} {w0 w : World} {H : Hp} {M : List Res} {s : List ByteArray} {v0 : Value} (h0 : RdS H v0 s) (hz : s.length * 16 ≤ 140737488355328) (ht : St B w0 H M w) :
    Calls Proofs.Try.prog 30 [v0].toArray w (Ret B w0 fun H' M' v => H = H' ∧ ∃ (v' : Value) (xs' : List Value), .row v' 9 (Rep.sz ByteArray) s.length xs' :: M = M' ∧ v' = v ∧ RwF v' xs' s) := by
  refine enter Proofs.Try.func30 rfl rfl rfl ht ?_
  obtain ⟨o, n, c, rfl⟩ := h0.shape
  refine C_seq ?_
  refine C_region ?_
  refine W_assign rfl rfl rfl ?_
  refine W_end (E_then ?_)
  refine C_seq ?_
  refine C_seq ?_
  refine C_region ?_
  refine W_move rfl rfl rfl ?_
  refine W_eqNil rfl rfl Proofs.Try.runUnderlying22 rfl rfl ?_
  refine W_end (E_then ?_)
  cases o with
  | none =>
    refine C_cond (b := true) rfl (fun _ => ?_) (fun hb => Bool.noConfusion hb)
    obtain rfl := h0.isNil
    refine C_seq ?_
    refine C_region ?_
    refine W_assign rfl rfl rfl ?_
    refine W_end (E_then ?_)
    refine C_ret (E_ret_then ?_)
    refine E_nilRow 9 (Rep.sz ByteArray) ?_
    exact end1 rfl rfl ⟨rfl, .slice none 0 0, [], rfl, rfl, (Rw.nil (H := H)).toF⟩
  | some a =>
    refine C_cond (b := false) rfl (fun hb => Bool.noConfusion hb) (fun _ => ?_)
    refine C_skip (E_then ?_)
    refine C_seq ?_
    refine C_region ?_
    refine W_build0 ByteArray rfl rfl Proofs.Try.runUnderlying22 Proofs.Try.sizeOf9 ?_
    intro v1 xs1 h1
    refine W_move rfl rfl rfl ?_
    refine W_appendO (α := ByteArray) (l := []) (ys := s) (bytes := 16) rfl rfl Proofs.Try.underlying22 ⟨_, rfl, rfl, rfl, rfl⟩ rfl rfl rfl rfl rfl h1 h0 (by simpa using hz) ?_
    intro v2 xs2 h2
    refine W_assign rfl rfl rfl ?_
    refine W_end (E_then ?_)
    refine C_ret ?_
    exact end1 rfl rfl ⟨rfl, v2, xs2, rfl, rfl, h2.toF⟩

theorem clone66_c {B : Nat} {w0 w : World} {H : Hp} {M : List Res} {s : List S_api_Switch} {v0 : Value} (h0 : RdS H v0 s) (hz : s.length * 56 ≤ 140737488355328) (ht : St B w0 H M w) :
    Calls Proofs.Try.prog 66 [v0].toArray w (Ret B w0 fun H' M' v => H = H' ∧ ∃ (v' : Value) (xs' : List Value), .row v' 92 (Rep.sz S_api_Switch) s.length xs' :: M = M' ∧ v' = v ∧ RwF v' xs' s) := by
  refine enter Proofs.Try.func66 rfl rfl rfl ht ?_
  obtain ⟨o, n, c, rfl⟩ := h0.shape
  refine C_seq ?_
  refine C_region ?_
  refine W_assign rfl rfl rfl ?_
  refine W_end (E_then ?_)
  refine C_seq ?_
  refine C_seq ?_
  refine C_region ?_
  refine W_move rfl rfl rfl ?_
  refine W_eqNil rfl rfl Proofs.Try.runUnderlying23 rfl rfl ?_
  refine W_end (E_then ?_)
  cases o with
  | none =>
    refine C_cond (b := true) rfl (fun _ => ?_) (fun hb => Bool.noConfusion hb)
    obtain rfl := h0.isNil
    refine C_seq ?_
    refine C_region ?_
    refine W_assign rfl rfl rfl ?_
    refine W_end (E_then ?_)
    refine C_ret (E_ret_then ?_)
    refine E_nilRow 92 (Rep.sz S_api_Switch) ?_
    exact end1 rfl rfl ⟨rfl, .slice none 0 0, [], rfl, rfl, (Rw.nil (H := H)).toF⟩
  | some a =>
    refine C_cond (b := false) rfl (fun hb => Bool.noConfusion hb) (fun _ => ?_)
    refine C_skip (E_then ?_)
    refine C_seq ?_
    refine C_region ?_
    refine W_build0 S_api_Switch rfl rfl Proofs.Try.runUnderlying23 Proofs.Try.sizeOf92 ?_
    intro v1 xs1 h1
    refine W_move rfl rfl rfl ?_
    refine W_appendO (α := S_api_Switch) (l := []) (ys := s) (bytes := 56) rfl rfl Proofs.Try.underlying23 ⟨_, rfl, rfl, rfl, rfl⟩ rfl rfl rfl rfl rfl h1 h0 (by simpa using hz) ?_
    intro v2 xs2 h2
    refine W_assign rfl rfl rfl ?_
    refine W_end (E_then ?_)
    refine C_ret ?_
    exact end1 rfl rfl ⟨rfl, v2, xs2, rfl, rfl, h2.toF⟩

theorem clone67_c {B : Nat} {w0 w : World} {H : Hp} {M : List Res} {s : List S_api_Branch} {v0 : Value} (h0 : RdS H v0 s) (hz : s.length * 96 ≤ 140737488355328) (ht : St B w0 H M w) :
    Calls Proofs.Try.prog 67 [v0].toArray w (Ret B w0 fun H' M' v => H = H' ∧ ∃ (v' : Value) (xs' : List Value), .row v' 47 (Rep.sz S_api_Branch) s.length xs' :: M = M' ∧ v' = v ∧ RwF v' xs' s) := by
  refine enter Proofs.Try.func67 rfl rfl rfl ht ?_
  obtain ⟨o, n, c, rfl⟩ := h0.shape
  refine C_seq ?_
  refine C_region ?_
  refine W_assign rfl rfl rfl ?_
  refine W_end (E_then ?_)
  refine C_seq ?_
  refine C_seq ?_
  refine C_region ?_
  refine W_move rfl rfl rfl ?_
  refine W_eqNil rfl rfl Proofs.Try.runUnderlying24 rfl rfl ?_
  refine W_end (E_then ?_)
  cases o with
  | none =>
    refine C_cond (b := true) rfl (fun _ => ?_) (fun hb => Bool.noConfusion hb)
    obtain rfl := h0.isNil
    refine C_seq ?_
    refine C_region ?_
    refine W_assign rfl rfl rfl ?_
    refine W_end (E_then ?_)
    refine C_ret (E_ret_then ?_)
    refine E_nilRow 47 (Rep.sz S_api_Branch) ?_
    exact end1 rfl rfl ⟨rfl, .slice none 0 0, [], rfl, rfl, (Rw.nil (H := H)).toF⟩
  | some a =>
    refine C_cond (b := false) rfl (fun hb => Bool.noConfusion hb) (fun _ => ?_)
    refine C_skip (E_then ?_)
    refine C_seq ?_
    refine C_region ?_
    refine W_build0 S_api_Branch rfl rfl Proofs.Try.runUnderlying24 Proofs.Try.sizeOf47 ?_
    intro v1 xs1 h1
    refine W_move rfl rfl rfl ?_
    refine W_appendO (α := S_api_Branch) (l := []) (ys := s) (bytes := 96) rfl rfl Proofs.Try.underlying24 ⟨_, rfl, rfl, rfl, rfl⟩ rfl rfl rfl rfl rfl h1 h0 (by simpa using hz) ?_
    intro v2 xs2 h2
    refine W_assign rfl rfl rfl ?_
    refine W_end (E_then ?_)
    refine C_ret ?_
    exact end1 rfl rfl ⟨rfl, v2, xs2, rfl, rfl, h2.toF⟩

theorem clone68_c {B : Nat} {w0 w : World} {H : Hp} {M : List Res} {s : List S_api_Gen} {v0 : Value} (h0 : RdS H v0 s) (hz : s.length * 56 ≤ 140737488355328) (ht : St B w0 H M w) :
    Calls Proofs.Try.prog 68 [v0].toArray w (Ret B w0 fun H' M' v => H = H' ∧ ∃ (v' : Value) (xs' : List Value), .row v' 39 (Rep.sz S_api_Gen) s.length xs' :: M = M' ∧ v' = v ∧ RwF v' xs' s) := by
  refine enter Proofs.Try.func68 rfl rfl rfl ht ?_
  obtain ⟨o, n, c, rfl⟩ := h0.shape
  refine C_seq ?_
  refine C_region ?_
  refine W_assign rfl rfl rfl ?_
  refine W_end (E_then ?_)
  refine C_seq ?_
  refine C_seq ?_
  refine C_region ?_
  refine W_move rfl rfl rfl ?_
  refine W_eqNil rfl rfl Proofs.Try.runUnderlying25 rfl rfl ?_
  refine W_end (E_then ?_)
  cases o with
  | none =>
    refine C_cond (b := true) rfl (fun _ => ?_) (fun hb => Bool.noConfusion hb)
    obtain rfl := h0.isNil
    refine C_seq ?_
    refine C_region ?_
    refine W_assign rfl rfl rfl ?_
    refine W_end (E_then ?_)
    refine C_ret (E_ret_then ?_)
    refine E_nilRow 39 (Rep.sz S_api_Gen) ?_
    exact end1 rfl rfl ⟨rfl, .slice none 0 0, [], rfl, rfl, (Rw.nil (H := H)).toF⟩
  | some a =>
    refine C_cond (b := false) rfl (fun hb => Bool.noConfusion hb) (fun _ => ?_)
    refine C_skip (E_then ?_)
    refine C_seq ?_
    refine C_region ?_
    refine W_build0 S_api_Gen rfl rfl Proofs.Try.runUnderlying25 Proofs.Try.sizeOf39 ?_
    intro v1 xs1 h1
    refine W_move rfl rfl rfl ?_
    refine W_appendO (α := S_api_Gen) (l := []) (ys := s) (bytes := 56) rfl rfl Proofs.Try.underlying25 ⟨_, rfl, rfl, rfl, rfl⟩ rfl rfl rfl rfl rfl h1 h0 (by simpa using hz) ?_
    intro v2 xs2 h2
    refine W_assign rfl rfl rfl ?_
    refine W_end (E_then ?_)
    refine C_ret ?_
    exact end1 rfl rfl ⟨rfl, v2, xs2, rfl, rfl, h2.toF⟩

theorem clone69_c {B : Nat} {w0 w : World} {H : Hp} {M : List Res} {s : List S_api_Load} {v0 : Value} (h0 : RdS H v0 s) (hz : s.length * 40 ≤ 140737488355328) (ht : St B w0 H M w) :
    Calls Proofs.Try.prog 69 [v0].toArray w (Ret B w0 fun H' M' v => H = H' ∧ ∃ (v' : Value) (xs' : List Value), .row v' 43 (Rep.sz S_api_Load) s.length xs' :: M = M' ∧ v' = v ∧ RwF v' xs' s) := by
  refine enter Proofs.Try.func69 rfl rfl rfl ht ?_
  obtain ⟨o, n, c, rfl⟩ := h0.shape
  refine C_seq ?_
  refine C_region ?_
  refine W_assign rfl rfl rfl ?_
  refine W_end (E_then ?_)
  refine C_seq ?_
  refine C_seq ?_
  refine C_region ?_
  refine W_move rfl rfl rfl ?_
  refine W_eqNil rfl rfl Proofs.Try.runUnderlying26 rfl rfl ?_
  refine W_end (E_then ?_)
  cases o with
  | none =>
    refine C_cond (b := true) rfl (fun _ => ?_) (fun hb => Bool.noConfusion hb)
    obtain rfl := h0.isNil
    refine C_seq ?_
    refine C_region ?_
    refine W_assign rfl rfl rfl ?_
    refine W_end (E_then ?_)
    refine C_ret (E_ret_then ?_)
    refine E_nilRow 43 (Rep.sz S_api_Load) ?_
    exact end1 rfl rfl ⟨rfl, .slice none 0 0, [], rfl, rfl, (Rw.nil (H := H)).toF⟩
  | some a =>
    refine C_cond (b := false) rfl (fun hb => Bool.noConfusion hb) (fun _ => ?_)
    refine C_skip (E_then ?_)
    refine C_seq ?_
    refine C_region ?_
    refine W_build0 S_api_Load rfl rfl Proofs.Try.runUnderlying26 Proofs.Try.sizeOf43 ?_
    intro v1 xs1 h1
    refine W_move rfl rfl rfl ?_
    refine W_appendO (α := S_api_Load) (l := []) (ys := s) (bytes := 40) rfl rfl Proofs.Try.underlying26 ⟨_, rfl, rfl, rfl, rfl⟩ rfl rfl rfl rfl rfl h1 h0 (by simpa using hz) ?_
    intro v2 xs2 h2
    refine W_assign rfl rfl rfl ?_
    refine W_end (E_then ?_)
    refine C_ret ?_
    exact end1 rfl rfl ⟨rfl, v2, xs2, rfl, rfl, h2.toF⟩

theorem clone70_c {B : Nat} {w0 w : World} {H : Hp} {M : List Res} {s : List S_api_Store} {v0 : Value} (h0 : RdS H v0 s) (hz : s.length * 56 ≤ 140737488355328) (ht : St B w0 H M w) :
    Calls Proofs.Try.prog 70 [v0].toArray w (Ret B w0 fun H' M' v => H = H' ∧ ∃ (v' : Value) (xs' : List Value), .row v' 103 (Rep.sz S_api_Store) s.length xs' :: M = M' ∧ v' = v ∧ RwF v' xs' s) := by
  refine enter Proofs.Try.func70 rfl rfl rfl ht ?_
  obtain ⟨o, n, c, rfl⟩ := h0.shape
  refine C_seq ?_
  refine C_region ?_
  refine W_assign rfl rfl rfl ?_
  refine W_end (E_then ?_)
  refine C_seq ?_
  refine C_seq ?_
  refine C_region ?_
  refine W_move rfl rfl rfl ?_
  refine W_eqNil rfl rfl Proofs.Try.runUnderlying27 rfl rfl ?_
  refine W_end (E_then ?_)
  cases o with
  | none =>
    refine C_cond (b := true) rfl (fun _ => ?_) (fun hb => Bool.noConfusion hb)
    obtain rfl := h0.isNil
    refine C_seq ?_
    refine C_region ?_
    refine W_assign rfl rfl rfl ?_
    refine W_end (E_then ?_)
    refine C_ret (E_ret_then ?_)
    refine E_nilRow 103 (Rep.sz S_api_Store) ?_
    exact end1 rfl rfl ⟨rfl, .slice none 0 0, [], rfl, rfl, (Rw.nil (H := H)).toF⟩
  | some a =>
    refine C_cond (b := false) rfl (fun hb => Bool.noConfusion hb) (fun _ => ?_)
    refine C_skip (E_then ?_)
    refine C_seq ?_
    refine C_region ?_
    refine W_build0 S_api_Store rfl rfl Proofs.Try.runUnderlying27 Proofs.Try.sizeOf103 ?_
    intro v1 xs1 h1
    refine W_move rfl rfl rfl ?_
    refine W_appendO (α := S_api_Store) (l := []) (ys := s) (bytes := 56) rfl rfl Proofs.Try.underlying27 ⟨_, rfl, rfl, rfl, rfl⟩ rfl rfl rfl rfl rfl h1 h0 (by simpa using hz) ?_
    intro v2 xs2 h2
    refine W_assign rfl rfl rfl ?_
    refine W_end (E_then ?_)
    refine C_ret ?_
    exact end1 rfl rfl ⟨rfl, v2, xs2, rfl, rfl, h2.toF⟩

theorem m_netmodel_Copy_c {B : Nat} {w0 w : World} {H : Hp} {M : List Res} {p0_n : S_api_Network} {v0 : Value} {v1 : Value} {v2 : Value} {v3 : Value} {v4 : Value} {v5 : Value} {r : S_api_Network} (hm : m_netmodel_Copy p0_n = some r) (h0 : RdS H v0 p0_n.Nodes) (h1 : RdS H v1 p0_n.Switches) (h2 : RdS H v2 p0_n.Branches) (h3 : RdS H v3 p0_n.Gens) (h4 : RdS H v4 p0_n.Loads) (h5 : RdS H v5 p0_n.Stores) (ht : St B w0 H (M) w) :
    Calls Proofs.Try.prog 44 [.agg [v0, v1, v2, v3, v4, v5].toArray].toArray w (Ret B w0 fun H' M' v => H = H' ∧ ∃ qv0 : Value, ∃ qxs0 : List Value, ∃ qv1 : Value, ∃ qxs1 : List Value, ∃ qv2 : Value, ∃ qxs2 : List Value, ∃ qv3 : Value, ∃ qxs3 : List Value, ∃ qv4 : Value, ∃ qxs4 : List Value, ∃ qv5 : Value, ∃ qxs5 : List Value, .row qv0 9 (Rep.sz ByteArray) r.Nodes.length qxs0 :: .row qv1 92 (Rep.sz S_api_Switch) r.Switches.length qxs1 :: .row qv2 47 (Rep.sz S_api_Branch) r.Branches.length qxs2 :: .row qv3 39 (Rep.sz S_api_Gen) r.Gens.length qxs3 :: .row qv4 43 (Rep.sz S_api_Load) r.Loads.length qxs4 :: .row qv5 103 (Rep.sz S_api_Store) r.Stores.length qxs5 :: M = M' ∧ .agg [qv0, qv1, qv2, qv3, qv4, qv5].toArray = v ∧ RwF qv0 qxs0 r.Nodes ∧ RwF qv1 qxs1 r.Switches ∧ RwF qv2 qxs2 r.Branches ∧ RwF qv3 qxs3 r.Gens ∧ RwF qv4 qxs4 r.Loads ∧ RwF qv5 qxs5 r.Stores) := by
  unfold m_netmodel_Copy at hm
  refine enter Proofs.Try.func44 rfl rfl rfl ht ?_
  refine C_seq ?_
  refine C_region ?_
  refine W_box (cs := [v0, v1, v2, v3, v4, v5]) rfl rfl rfl rfl (fun b101 => ?_)
  refine W_alloc (cs := [.slice none 0 0, .slice none 0 0, .slice none 0 0, .slice none 0 0, .slice none 0 0, .slice none 0 0]) rfl rfl Proofs.Try.zeroValue29 rfl (fun b102 => ?_)
  refine W_end ?_
  refine E_then ?_
  refine C_seq ?_
  obtain ⟨hz103, hm⟩ := need_some hm
  obtain ⟨hz107, hm⟩ := need_some hm
  obtain ⟨hz111, hm⟩ := need_some hm
  obtain ⟨hz115, hm⟩ := need_some hm
  obtain ⟨hz119, hm⟩ := need_some hm
  refine C_region_tok0 17 (phiT [(fun H rs v => [] = rs ∧ .pointer (some ⟨b101, 0, none⟩) = v), (fun H rs v => [] = rs ∧ v0 = v), (fun H rs v => ∃ v123 : Value, ∃ xs124 : List Value, [.row v123 9 (Rep.sz ByteArray) p0_n.Nodes.length xs124] = rs ∧ v123 = v ∧ Rw H v123 xs124 p0_n.Nodes), (fun H rs v => [] = rs ∧ .pointer (some ⟨b101, 1, none⟩) = v), (fun H rs v => [] = rs ∧ v1 = v), (fun H rs v => ∃ v126 : Value, ∃ xs127 : List Value, [.row v126 92 (Rep.sz S_api_Switch) p0_n.Switches.length xs127] = rs ∧ v126 = v ∧ Rw H v126 xs127 p0_n.Switches), (fun H rs v => [] = rs ∧ .pointer (some ⟨b101, 2, none⟩) = v), (fun H rs v => [] = rs ∧ v2 = v), (fun H rs v => ∃ v129 : Value, ∃ xs130 : List Value, [.row v129 47 (Rep.sz S_api_Branch) p0_n.Branches.length xs130] = rs ∧ v129 = v ∧ Rw H v129 xs130 p0_n.Branches), (fun H rs v => [] = rs ∧ .pointer (some ⟨b101, 3, none⟩) = v), (fun H rs v => [] = rs ∧ v3 = v), (fun H rs v => ∃ v132 : Value, ∃ xs133 : List Value, [.row v132 39 (Rep.sz S_api_Gen) p0_n.Gens.length xs133] = rs ∧ v132 = v ∧ Rw H v132 xs133 p0_n.Gens), (fun H rs v => [] = rs ∧ .pointer (some ⟨b101, 4, none⟩) = v), (fun H rs v => [] = rs ∧ v4 = v), (fun H rs v => ∃ v135 : Value, ∃ xs136 : List Value, [.row v135 43 (Rep.sz S_api_Load) p0_n.Loads.length xs136] = rs ∧ v135 = v ∧ Rw H v135 xs136 p0_n.Loads), (fun H rs v => [] = rs ∧ .pointer (some ⟨b101, 5, none⟩) = v), (fun H rs v => [] = rs ∧ v5 = v)]) [[], [], [], [], [], [], [], [], [], [], [], [], [], [], [], [], []] [[], [], [], [], [], [], [], [], [], [], [], [], [], [], [], [], []] [] [0, 1, 2, 3, 4, 5, 6, 7, 8, 9, 10, 11, 12, 13, 14, 15, 16] Facts.mixed (by kernel_rfl) rfl rfl rfl (by kernel_rfl) (phiT_mono ⟨eq_monoT _ _, eq_monoT _ _, (by rintro H1 H2 rs v hle ⟨v123, xs124, rfl, rfl, hr125⟩; exact ⟨v123, xs124, rfl, rfl, (hr125.mono hle)⟩), eq_monoT _ _, eq_monoT _ _, (by rintro H1 H2 rs v hle ⟨v126, xs127, rfl, rfl, hr128⟩; exact ⟨v126, xs127, rfl, rfl, (hr128.mono hle)⟩), eq_monoT _ _, eq_monoT _ _, (by rintro H1 H2 rs v hle ⟨v129, xs130, rfl, rfl, hr131⟩; exact ⟨v129, xs130, rfl, rfl, (hr131.mono hle)⟩), eq_monoT _ _, eq_monoT _ _, (by rintro H1 H2 rs v hle ⟨v132, xs133, rfl, rfl, hr134⟩; exact ⟨v132, xs133, rfl, rfl, (hr134.mono hle)⟩), eq_monoT _ _, eq_monoT _ _, (by rintro H1 H2 rs v hle ⟨v135, xs136, rfl, rfl, hr137⟩; exact ⟨v135, xs136, rfl, rfl, (hr137.mono hle)⟩), eq_monoT _ _, eq_monoT _ _, trivial⟩) ⟨?_, ?_, ?_, ?_, ?_, ?_, ?_, ?_, ?_, ?_, ?_, ?_, ?_, ?_, ?_, ?_, ?_, trivial⟩ ?_
  · intro HX hX X Rest hR
    intro hU
    refine W_field (o := 0) rfl rfl Proofs.Try.runUnderlying29 rfl Proofs.Try.sizeOf22 rfl rfl rfl ?_
    exact W_end (OneT_end [] (Hp.le_refl _) ⟨rfl, rfl⟩)
  · intro HX hX X Rest hR
    rintro _ _ ⟨rfl, rfl⟩
    intro hU
    refine W_load rfl rfl Proofs.Try.isAgg22 rfl (own_at (hR _ (List.mem_cons_of_mem _ (List.mem_cons_self ..))) rfl) ?_
    exact W_end (OneT_end [] (Hp.le_refl _) ⟨rfl, rfl⟩)
  · intro HX hX X Rest hR
    rintro _ _ ⟨rfl, rfl⟩
    intro hU
    refine W_call Proofs.Try.call30 rfl rfl rfl (fun w ht => by have h := clone30_c (s := p0_n.Nodes) (h0.mono hX) hz103 ht; exact h) ?_
    rintro _ _ _ ⟨rfl, v123, xs124, rfl, rfl, hr125⟩
    have hr125 := hr125 HX
    exact W_end (OneT_end [.row v123 9 (Rep.sz ByteArray) p0_n.Nodes.length xs124] (Hp.le_refl _) ⟨v123, xs124, rfl, rfl, (hr125)⟩)
  · intro HX hX X Rest hR
    intro hU
    refine W_field (o := 1) rfl rfl Proofs.Try.runUnderlying29 rfl Proofs.Try.sizeOf23 rfl rfl rfl ?_
    exact W_end (OneT_end [] (Hp.le_refl _) ⟨rfl, rfl⟩)
  · intro HX hX X Rest hR
    rintro _ _ ⟨rfl, rfl⟩
    intro hU
    refine W_load rfl rfl Proofs.Try.isAgg23 rfl (own_at (hR _ (List.mem_cons_of_mem _ (List.mem_cons_self ..))) rfl) ?_
    exact W_end (OneT_end [] (Hp.le_refl _) ⟨rfl, rfl⟩)
  · intro HX hX X Rest hR
    rintro _ _ ⟨rfl, rfl⟩
    rintro _ _ ⟨v123, xs124, rfl, rfl, hr125⟩
    intro hU
    refine W_call Proofs.Try.call66 rfl rfl rfl (fun w ht => by have h := clone66_c (s := p0_n.Switches) (h1.mono hX) hz107 ht; exact h) ?_
    rintro _ _ _ ⟨rfl, v126, xs127, rfl, rfl, hr128⟩
    have hr128 := hr128 HX
    exact W_end (OneT_end [.row v126 92 (Rep.sz S_api_Switch) p0_n.Switches.length xs127] (Hp.le_refl _) ⟨v126, xs127, rfl, rfl, (hr128)⟩)
  · intro HX hX X Rest hR
    intro hU
    refine W_field (o := 2) rfl rfl Proofs.Try.runUnderlying29 rfl Proofs.Try.sizeOf24 rfl rfl rfl ?_
    exact W_end (OneT_end [] (Hp.le_refl _) ⟨rfl, rfl⟩)
  · intro HX hX X Rest hR
    rintro _ _ ⟨rfl, rfl⟩
    intro hU
    refine W_load rfl rfl Proofs.Try.isAgg24 rfl (own_at (hR _ (List.mem_cons_of_mem _ (List.mem_cons_self ..))) rfl) ?_
    exact W_end (OneT_end [] (Hp.le_refl _) ⟨rfl, rfl⟩)
  · intro HX hX X Rest hR
    rintro _ _ ⟨rfl, rfl⟩
    rintro _ _ ⟨v126, xs127, rfl, rfl, hr128⟩
    intro hU
    refine W_call Proofs.Try.call67 rfl rfl rfl (fun w ht => by have h := clone67_c (s := p0_n.Branches) (h2.mono hX) hz111 ht; exact h) ?_
    rintro _ _ _ ⟨rfl, v129, xs130, rfl, rfl, hr131⟩
    have hr131 := hr131 HX
    exact W_end (OneT_end [.row v129 47 (Rep.sz S_api_Branch) p0_n.Branches.length xs130] (Hp.le_refl _) ⟨v129, xs130, rfl, rfl, (hr131)⟩)
  · intro HX hX X Rest hR
    intro hU
    refine W_field (o := 3) rfl rfl Proofs.Try.runUnderlying29 rfl Proofs.Try.sizeOf25 rfl rfl rfl ?_
    exact W_end (OneT_end [] (Hp.le_refl _) ⟨rfl, rfl⟩)
  · intro HX hX X Rest hR
    rintro _ _ ⟨rfl, rfl⟩
    intro hU
    refine W_load rfl rfl Proofs.Try.isAgg25 rfl (own_at (hR _ (List.mem_cons_of_mem _ (List.mem_cons_self ..))) rfl) ?_
    exact W_end (OneT_end [] (Hp.le_refl _) ⟨rfl, rfl⟩)
  · intro HX hX X Rest hR
    rintro _ _ ⟨rfl, rfl⟩
    rintro _ _ ⟨v129, xs130, rfl, rfl, hr131⟩
    intro hU
    refine W_call Proofs.Try.call68 rfl rfl rfl (fun w ht => by have h := clone68_c (s := p0_n.Gens) (h3.mono hX) hz115 ht; exact h) ?_
    rintro _ _ _ ⟨rfl, v132, xs133, rfl, rfl, hr134⟩
    have hr134 := hr134 HX
    exact W_end (OneT_end [.row v132 39 (Rep.sz S_api_Gen) p0_n.Gens.length xs133] (Hp.le_refl _) ⟨v132, xs133, rfl, rfl, (hr134)⟩)
  · intro HX hX X Rest hR
    intro hU
    refine W_field (o := 4) rfl rfl Proofs.Try.runUnderlying29 rfl Proofs.Try.sizeOf26 rfl rfl rfl ?_
    exact W_end (OneT_end [] (Hp.le_refl _) ⟨rfl, rfl⟩)
  · intro HX hX X Rest hR
    rintro _ _ ⟨rfl, rfl⟩
    intro hU
    refine W_load rfl rfl Proofs.Try.isAgg26 rfl (own_at (hR _ (List.mem_cons_of_mem _ (List.mem_cons_self ..))) rfl) ?_
    exact W_end (OneT_end [] (Hp.le_refl _) ⟨rfl, rfl⟩)
  · intro HX hX X Rest hR
    rintro _ _ ⟨rfl, rfl⟩
    rintro _ _ ⟨v132, xs133, rfl, rfl, hr134⟩
    intro hU
    refine W_call Proofs.Try.call69 rfl rfl rfl (fun w ht => by have h := clone69_c (s := p0_n.Loads) (h4.mono hX) hz119 ht; exact h) ?_
    rintro _ _ _ ⟨rfl, v135, xs136, rfl, rfl, hr137⟩
    have hr137 := hr137 HX
    exact W_end (OneT_end [.row v135 43 (Rep.sz S_api_Load) p0_n.Loads.length xs136] (Hp.le_refl _) ⟨v135, xs136, rfl, rfl, (hr137)⟩)
  · intro HX hX X Rest hR
    intro hU
    refine W_field (o := 5) rfl rfl Proofs.Try.runUnderlying29 rfl Proofs.Try.sizeOf27 rfl rfl rfl ?_
    exact W_end (OneT_end [] (Hp.le_refl _) ⟨rfl, rfl⟩)
  · intro HX hX X Rest hR
    rintro _ _ ⟨rfl, rfl⟩
    intro hU
    refine W_load rfl rfl Proofs.Try.isAgg27 rfl (own_at (hR _ (List.mem_cons_of_mem _ (List.mem_cons_self ..))) rfl) ?_
    exact W_end (OneT_end [] (Hp.le_refl _) ⟨rfl, rfl⟩)
  intro H138 hle139
  rintro _ _ ⟨rfl, rfl⟩
  rintro _ _ ⟨rfl, rfl⟩
  rintro _ _ ⟨v123, xs124, rfl, rfl, hr125⟩
  rintro _ _ ⟨rfl, rfl⟩
  rintro _ _ ⟨rfl, rfl⟩
  rintro _ _ ⟨v126, xs127, rfl, rfl, hr128⟩
  rintro _ _ ⟨rfl, rfl⟩
  rintro _ _ ⟨rfl, rfl⟩
  rintro _ _ ⟨v129, xs130, rfl, rfl, hr131⟩
  rintro _ _ ⟨rfl, rfl⟩
  rintro _ _ ⟨rfl, rfl⟩
  rintro _ _ ⟨v132, xs133, rfl, rfl, hr134⟩
  rintro _ _ ⟨rfl, rfl⟩
  rintro _ _ ⟨rfl, rfl⟩
  rintro _ _ ⟨v135, xs136, rfl, rfl, hr137⟩
  rintro _ _ ⟨rfl, rfl⟩
  rintro _ _ ⟨rfl, rfl⟩
  refine W_as (M' := .row v123 9 (Rep.sz ByteArray) p0_n.Nodes.length xs124 :: .row v126 92 (Rep.sz S_api_Switch) p0_n.Switches.length xs127 :: .row v129 47 (Rep.sz S_api_Branch) p0_n.Branches.length xs130 :: .row v132 39 (Rep.sz S_api_Gen) p0_n.Gens.length xs133 :: .row v135 43 (Rep.sz S_api_Load) p0_n.Loads.length xs136 :: .obj b102 (.cells [.slice none 0 0, .slice none 0 0, .slice none 0 0, .slice none 0 0, .slice none 0 0, .slice none 0 0].toArray 29 (0, 0)) :: .obj b101 (.cells [v0, v1, v2, v3, v4, v5].toArray 29 (0, 0)) :: M) rfl ?_
  obtain ⟨hz140, hm⟩ := need_some hm
  refine W_call Proofs.Try.call70 rfl rfl rfl (fun w ht => by have h := clone70_c (s := p0_n.Stores) (h5.mono hle139) hz140 ht; exact h) ?_
  rintro _ _ _ ⟨rfl, v141, xs142, rfl, rfl, hr143⟩
  have hr143 := hr143 H138
  refine W_build (css := [[v123], [v126], [v129], [v132], [v135], [v141]]) (zs := [.slice none 0 0, .slice none 0 0, .slice none 0 0, .slice none 0 0, .slice none 0 0, .slice none 0 0]) (out := [v123, v126, v129, v132, v135, v141]) (places := [(0, 1), (1, 1), (2, 1), (3, 1), (4, 1), (5, 1)]) rfl rfl rfl ⟨(Rw.cells hr125), (Rw.cells hr128), (Rw.cells hr131), (Rw.cells hr134), (Rw.cells hr137), (Rw.cells hr143), trivial⟩ Proofs.Try.zeroValue29 rfl Proofs.Try.runUnderlying29 (fun w => by kernel_rfl) rfl ?_
  refine W_perm (List.Perm.trans (List.Perm.cons _ (List.Perm.cons _ (List.Perm.cons _ (List.Perm.cons _ (List.Perm.cons _ (List.Perm.swap _ _ _)))))) (List.Perm.trans (List.Perm.cons _ (List.Perm.cons _ (List.Perm.cons _ (List.Perm.cons _ (List.Perm.swap _ _ _))))) (List.Perm.trans (List.Perm.cons _ (List.Perm.cons _ (List.Perm.cons _ (List.Perm.swap _ _ _)))) (List.Perm.trans (List.Perm.cons _ (List.Perm.cons _ (List.Perm.swap _ _ _))) (List.Perm.trans (List.Perm.cons _ (List.Perm.swap _ _ _)) (List.Perm.swap _ _ _)))))) ?_
  refine W_store (cs := [v123, v126, v129, v132, v135, v141]) (out := [v123, v126, v129, v132, v135, v141]) rfl Proofs.Try.sizeOf29 rfl rfl rfl rfl rfl (all_cons (Rw.one hr125) (all_cons (Rw.one hr128) (all_cons (Rw.one hr131) (all_cons (Rw.one hr134) (all_cons (Rw.one hr137) (all_cons (Rw.one hr143) all_nil)))))) (over_all rfl) ?_
  refine W_end ?_
  refine E_then ?_
  refine C_ret ?_
  obtain rfl := Option.some.inj hm
  exact endC1 hle139 rfl (ResV.agg rfl Proofs.Try.isAgg29 Proofs.Try.sizeOf29 (List.mem_cons_self ..) rfl) (List.Sublist.cons _ (List.Sublist.cons_cons _ (List.Sublist.cons_cons _ (List.Sublist.cons_cons _ (List.Sublist.cons_cons _ (List.Sublist.cons_cons _ (List.Sublist.cons_cons _ (List.Sublist.cons _ (List.Sublist.refl _))))))))) (List.Perm.trans (List.Perm.swap _ _ _) (List.Perm.trans (List.Perm.cons _ (List.Perm.swap _ _ _)) (List.Perm.trans (List.Perm.cons _ (List.Perm.cons _ (List.Perm.swap _ _ _))) (List.Perm.trans (List.Perm.cons _ (List.Perm.cons _ (List.Perm.cons _ (List.Perm.swap _ _ _)))) (List.Perm.cons _ (List.Perm.cons _ (List.Perm.cons _ (List.Perm.cons _ (List.Perm.swap _ _ _))))))))) ⟨rfl, v123, xs124, v126, xs127, v129, xs130, v132, xs133, v135, xs136, v141, xs142, rfl, rfl, (hr125).toF, (hr128).toF, (hr131).toF, (hr134).toF, (hr137).toF, (hr143).toF⟩

theorem delete45_c {B : Nat} {w0 w : World} {H : Hp} {M : List Res} {l : List S_api_Switch} {v0 : Value} {xs : List Value} {i j : Int} (h0 : Rw H v0 xs l) (hz : 0 ≤ i ∧ i < j ∧ j ≤ (l.length : Int)) (ht : St B w0 H (.row v0 92 (Rep.sz S_api_Switch) l.length xs :: M) w) :
    Calls Proofs.Try.prog 45 [v0, .int .i64 i, .int .i64 j].toArray w (Ret B w0 fun H' M' v => H = H' ∧ ∃ (v' : Value) (xs' : List Value), .row v' 92 (Rep.sz S_api_Switch) (l.take i.toNat ++ l.drop j.toNat).length xs' :: M = M' ∧ v' = v ∧ RwF v' xs' (l.take i.toNat ++ l.drop j.toNat)) := by
  obtain ⟨i, rfl⟩ : ∃ m : Nat, i = m := ⟨i.toNat, by omega⟩
  obtain ⟨j, rfl⟩ : ∃ m : Nat, j = m := ⟨j.toNat, by omega⟩
  have hij : i < j := by omega
  have hj : j ≤ l.length := by omega
  rw [Int.toNat_natCast, Int.toNat_natCast]
  refine enter Proofs.Try.func45 rfl rfl rfl ht ?_
  refine C_rowSome (by omega) (fun gb off cap hv hcap => ?_)
  subst hv
  refine C_seq ?_
  refine C_region ?_
  refine W_assign rfl rfl rfl ?_
  refine W_end (E_then ?_)
  refine C_seq ?_
  refine C_region ?_
  refine W_move rfl rfl rfl ?_
  refine W_move rfl rfl rfl ?_
  refine W_move rfl rfl rfl ?_
  refine W_move rfl rfl rfl ?_
  refine W_lenS rfl rfl Proofs.Try.runUnderlying23 rfl ?_
  refine W_sliceV (m := l.length) (h := j) (l := i) rfl rfl Proofs.Try.runUnderlying23 Proofs.Try.sizeOf92 rfl (.inr ⟨_, rfl⟩) (.inr ⟨_, _, _, rfl, rfl, by omega, by omega, by omega⟩) (.inr ⟨_, _, _, rfl, rfl, by omega, by omega, by omega⟩) (.inr ⟨_, _, _, rfl, rfl, by omega, by omega, by omega⟩) rfl ?_
  refine W_end (E_then ?_)
  refine C_seq ?_
  refine C_seq ?_
  refine C_region ?_
  refine W_move rfl rfl rfl ?_
  refine W_move rfl rfl rfl ?_
  refine W_bin rfl rfl rfl rfl rfl ?_
  refine W_end (E_then ?_)
  refine C_cond (b := decide ((i : Int) = (j : Int))) rfl (fun hb => absurd (of_decide_eq_true hb) (by omega)) (fun _ => ?_)
  refine C_skip (E_then ?_)
  refine C_seq ?_
  refine C_region ?_
  refine W_move rfl rfl rfl ?_
  refine W_lenS rfl rfl Proofs.Try.runUnderlying23 rfl ?_
  refine W_assign rfl rfl rfl ?_
  refine W_end (E_then ?_)
  refine C_seq ?_
  refine C_region_tok0 6 (phiT [(fun H rs v => [] = rs ∧ .slice (some ⟨gb, off, none⟩) l.length cap = v), (fun H rs v => [] = rs ∧ .int .i64 (i : Int) = v), (fun H rs v => [] = rs ∧ .slice (some ⟨gb, off, none⟩) i cap = v), (fun H rs v => [] = rs ∧ .slice (some ⟨gb, off, none⟩) l.length cap = v), (fun H rs v => [] = rs ∧ .int .i64 (j : Int) = v), (fun H rs v => [] = rs ∧ .slice (some (if cap = j then ⟨gb, off, none⟩ else ⟨gb, off + j * Rep.sz S_api_Switch, none⟩)) (l.length - j) (cap - j) = v)]) [[], [], [], [], [], []] [[], [], [], [], [], []] [] [0, 1, 2, 3, 4, 5] Facts.mixed (by kernel_rfl) rfl rfl rfl (by kernel_rfl) (phiT_mono ⟨eq_monoT _ _, eq_monoT _ _, eq_monoT _ _, eq_monoT _ _, eq_monoT _ _, eq_monoT _ _, trivial⟩) ⟨?_, ?_, ?_, ?_, ?_, ?_, trivial⟩ ?_
  · intro HX hX X Rest hR
    intro hU
    refine W_move rfl rfl rfl ?_
    exact W_end (OneT_end [] (Hp.le_refl _) ⟨rfl, rfl⟩)
  · intro HX hX X Rest hR
    intro hU
    refine W_move rfl rfl rfl ?_
    exact W_end (OneT_end [] (Hp.le_refl _) ⟨rfl, rfl⟩)
  · intro HX hX X Rest hR
    rintro _ _ ⟨rfl, rfl⟩
    rintro _ _ ⟨rfl, rfl⟩
    intro hU
    refine W_sliceV (m := cap) (h := i) (l := 0) rfl rfl Proofs.Try.runUnderlying23 Proofs.Try.sizeOf92 rfl (.inl rfl) (.inl ⟨rfl, rfl⟩) (.inr ⟨_, _, _, rfl, rfl, by omega, by omega, by omega⟩) (.inl ⟨rfl, rfl⟩) (by rw [if_neg (by omega), Nat.sub_zero, Nat.sub_zero, Option.map_some, Addr.add_lit, Nat.zero_mul, Nat.add_zero]) ?_
    exact W_end (OneT_end [] (Hp.le_refl _) ⟨rfl, rfl⟩)
  · intro HX hX X Rest hR
    intro hU
    refine W_move rfl rfl rfl ?_
    exact W_end (OneT_end [] (Hp.le_refl _) ⟨rfl, rfl⟩)
  · intro HX hX X Rest hR
    intro hU
    refine W_move rfl rfl rfl ?_
    exact W_end (OneT_end [] (Hp.le_refl _) ⟨rfl, rfl⟩)
  · intro HX hX X Rest hR
    rintro _ _ ⟨rfl, rfl⟩
    rintro _ _ ⟨rfl, rfl⟩
    intro hU
    refine W_sliceV (m := cap) (h := l.length) (l := j) rfl rfl Proofs.Try.runUnderlying23 Proofs.Try.sizeOf92 rfl (.inl rfl) (.inl ⟨rfl, rfl⟩) (.inl ⟨rfl, rfl⟩) (.inr ⟨_, _, _, rfl, rfl, by omega, by omega, by omega⟩) (v' := .slice (some (if cap = j then ⟨gb, off, none⟩ else ⟨gb, off + j * Rep.sz S_api_Switch, none⟩)) (l.length - j) (cap - j)) (by
      by_cases h : cap = j
      · rw [if_pos h, if_pos h]
      · rw [if_neg h, if_neg h, Option.map_some, Addr.add_lit] <;> rfl) ?_
    exact W_end (OneT_end [] (Hp.le_refl _) ⟨rfl, rfl⟩)
  intro H1 hle1
  rintro _ _ ⟨rfl, rfl⟩
  rintro _ _ ⟨rfl, rfl⟩
  rintro _ _ ⟨rfl, rfl⟩
  rintro _ _ ⟨rfl, rfl⟩
  rintro _ _ ⟨rfl, rfl⟩
  rintro _ _ ⟨rfl, rfl⟩
  refine W_appendDel (α := S_api_Switch) (l := l) (i := i) (j := j) (bytes := 56) rfl rfl Proofs.Try.underlying23 ⟨_, rfl, rfl, rfl, rfl⟩ rfl rfl h0 hij hj rfl rfl (fun h => if_neg (by omega)) ?_
  intro gb2 off2 xs2 h2 hcap2
  have hln : (l.take i ++ l.drop j).length = i + (l.length - j) := by simp; omega
  refine W_assign rfl rfl rfl ?_
  refine W_end (E_then ?_)
  refine C_seq ?_
  refine C_region ?_
  refine W_move rfl rfl rfl ?_
  refine W_move rfl rfl rfl ?_
  refine W_lenS rfl rfl Proofs.Try.runUnderlying23 rfl ?_
  refine W_move rfl rfl rfl ?_
  refine W_sliceV (m := cap) (h := l.length) (l := (l.take i ++ l.drop j).length) rfl rfl Proofs.Try.runUnderlying23 Proofs.Try.sizeOf92 rfl (.inl rfl) (.inl ⟨rfl, rfl⟩) (.inr ⟨_, _, _, rfl, rfl, by omega, by omega, by omega⟩) (.inr ⟨_, _, _, rfl, rfl, by omega, by omega, by omega⟩) (by rw [if_neg (by omega), Option.map_some, Addr.add_lit]) ?_
  refine W_clearTail (sz := Rep.sz S_api_Switch) (n2 := l.length - (l.take i ++ l.drop j).length) rfl Proofs.Try.underlying23 Proofs.Try.zeroValue92 rfl rfl rfl rfl rfl (by omega) ?_
  refine W_end (E_then ?_)
  refine C_seq ?_
  refine C_region ?_
  refine W_move rfl rfl rfl ?_
  refine W_assign rfl rfl rfl ?_
  refine W_end (E_then ?_)
  refine C_ret ?_
  refine E_weak hle1 ?_
  exact end1 rfl rfl ⟨rfl, _, xs2, rfl, rfl, h2.toF⟩

theorem delete46_c {B : Nat} {w0 w : World} {H : Hp} {M : List Res} {l : List S_api_Branch} {v0 : Value} {xs : List Value} {i j : Int} (h0 : Rw H v0 xs l) (hz : 0 ≤ i ∧ i < j ∧ j ≤ (l.length : Int)) (ht : St B w0 H (.row v0 47 (Rep.sz S_api_Branch) l.length xs :: M) w) :
    Calls Proofs.Try.prog 46 [v0, .int .i64 i, .int .i64 j].toArray w (Ret B w0 fun H' M' v => H = H' ∧ ∃ (v' : Value) (xs' : List Value), .row v' 47 (Rep.sz S_api_Branch) (l.take i.toNat ++ l.drop j.toNat).length xs' :: M = M' ∧ v' = v ∧ RwF v' xs' (l.take i.toNat ++ l.drop j.toNat)) := by
  obtain ⟨i, rfl⟩ : ∃ m : Nat, i = m := ⟨i.toNat, by omega⟩
  obtain ⟨j, rfl⟩ : ∃ m : Nat, j = m := ⟨j.toNat, by omega⟩
  have hij : i < j := by omega
  have hj : j ≤ l.length := by omega
  rw [Int.toNat_natCast, Int.toNat_natCast]
  refine enter Proofs.Try.func46 rfl rfl rfl ht ?_
  refine C_rowSome (by omega) (fun gb off cap hv hcap => ?_)
  subst hv
  refine C_seq ?_
  refine C_region ?_
  refine W_assign rfl rfl rfl ?_
  refine W_end (E_then ?_)
  refine C_seq ?_
  refine C_region ?_
  refine W_move rfl rfl rfl ?_
  refine W_move rfl rfl rfl ?_
  refine W_move rfl rfl rfl ?_
  refine W_move rfl rfl rfl ?_
  refine W_lenS rfl rfl Proofs.Try.runUnderlying24 rfl ?_
  refine W_sliceV (m := l.length) (h := j) (l := i) rfl rfl Proofs.Try.runUnderlying24 Proofs.Try.sizeOf47 rfl (.inr ⟨_, rfl⟩) (.inr ⟨_, _, _, rfl, rfl, by omega, by omega, by omega⟩) (.inr ⟨_, _, _, rfl, rfl, by omega, by omega, by omega⟩) (.inr ⟨_, _, _, rfl, rfl, by omega, by omega, by omega⟩) rfl ?_
  refine W_end (E_then ?_)
  refine C_seq ?_
  refine C_seq ?_
  refine C_region ?_
  refine W_move rfl rfl rfl ?_
  refine W_move rfl rfl rfl ?_
  refine W_bin rfl rfl rfl rfl rfl ?_
  refine W_end (E_then ?_)
  refine C_cond (b := decide ((i : Int) = (j : Int))) rfl (fun hb => absurd (of_decide_eq_true hb) (by omega)) (fun _ => ?_)
  refine C_skip (E_then ?_)
  refine C_seq ?_
  refine C_region ?_
  refine W_move rfl rfl rfl ?_
  refine W_lenS rfl rfl Proofs.Try.runUnderlying24 rfl ?_
  refine W_assign rfl rfl rfl ?_
  refine W_end (E_then ?_)
  refine C_seq ?_
  refine C_region_tok0 6 (phiT [(fun H rs v => [] = rs ∧ .slice (some ⟨gb, off, none⟩) l.length cap = v), (fun H rs v => [] = rs ∧ .int .i64 (i : Int) = v), (fun H rs v => [] = rs ∧ .slice (some ⟨gb, off, none⟩) i cap = v), (fun H rs v => [] = rs ∧ .slice (some ⟨gb, off, none⟩) l.length cap = v), (fun H rs v => [] = rs ∧ .int .i64 (j : Int) = v), (fun H rs v => [] = rs ∧ .slice (some (if cap = j then ⟨gb, off, none⟩ else ⟨gb, off + j * Rep.sz S_api_Branch, none⟩)) (l.length - j) (cap - j) = v)]) [[], [], [], [], [], []] [[], [], [], [], [], []] [] [0, 1, 2, 3, 4, 5] Facts.mixed (by kernel_rfl) rfl rfl rfl (by kernel_rfl) (phiT_mono ⟨eq_monoT _ _, eq_monoT _ _, eq_monoT _ _, eq_monoT _ _, eq_monoT _ _, eq_monoT _ _, trivial⟩) ⟨?_, ?_, ?_, ?_, ?_, ?_, trivial⟩ ?_
  · intro HX hX X Rest hR
    intro hU
    refine W_move rfl rfl rfl ?_
    exact W_end (OneT_end [] (Hp.le_refl _) ⟨rfl, rfl⟩)
  · intro HX hX X Rest hR
    intro hU
    refine W_move rfl rfl rfl ?_
    exact W_end (OneT_end [] (Hp.le_refl _) ⟨rfl, rfl⟩)
  · intro HX hX X Rest hR
    rintro _ _ ⟨rfl, rfl⟩
    rintro _ _ ⟨rfl, rfl⟩
    intro hU
    refine W_sliceV (m := cap) (h := i) (l := 0) rfl rfl Proofs.Try.runUnderlying24 Proofs.Try.sizeOf47 rfl (.inl rfl) (.inl ⟨rfl, rfl⟩) (.inr ⟨_, _, _, rfl, rfl, by omega, by omega, by omega⟩) (.inl ⟨rfl, rfl⟩) (by rw [if_neg (by omega), Nat.sub_zero, Nat.sub_zero, Option.map_some, Addr.add_lit, Nat.zero_mul, Nat.add_zero]) ?_
    exact W_end (OneT_end [] (Hp.le_refl _) ⟨rfl, rfl⟩)
  · intro HX hX X Rest hR
    intro hU
    refine W_move rfl rfl rfl ?_
    exact W_end (OneT_end [] (Hp.le_refl _) ⟨rfl, rfl⟩)
  · intro HX hX X Rest hR
    intro hU
    refine W_move rfl rfl rfl ?_
    exact W_end (OneT_end [] (Hp.le_refl _) ⟨rfl, rfl⟩)
  · intro HX hX X Rest hR
    rintro _ _ ⟨rfl, rfl⟩
    rintro _ _ ⟨rfl, rfl⟩
    intro hU
    refine W_sliceV (m := cap) (h := l.length) (l := j) rfl rfl Proofs.Try.runUnderlying24 Proofs.Try.sizeOf47 rfl (.inl rfl) (.inl ⟨rfl, rfl⟩) (.inl ⟨rfl, rfl⟩) (.inr ⟨_, _, _, rfl, rfl, by omega, by omega, by omega⟩) (v' := .slice (some (if cap = j then ⟨gb, off, none⟩ else ⟨gb, off + j * Rep.sz S_api_Branch, none⟩)) (l.length - j) (cap - j)) (by
      by_cases h : cap = j
      · rw [if_pos h, if_pos h]
      · rw [if_neg h, if_neg h, Option.map_some, Addr.add_lit] <;> rfl) ?_
    exact W_end (OneT_end [] (Hp.le_refl _) ⟨rfl, rfl⟩)
  intro H1 hle1
  rintro _ _ ⟨rfl, rfl⟩
  rintro _ _ ⟨rfl, rfl⟩
  rintro _ _ ⟨rfl, rfl⟩
  rintro _ _ ⟨rfl, rfl⟩
  rintro _ _ ⟨rfl, rfl⟩
  rintro _ _ ⟨rfl, rfl⟩
  refine W_appendDel (α := S_api_Branch) (l := l) (i := i) (j := j) (bytes := 96) rfl rfl Proofs.Try.underlying24 ⟨_, rfl, rfl, rfl, rfl⟩ rfl rfl h0 hij hj rfl rfl (fun h => if_neg (by omega)) ?_
  intro gb2 off2 xs2 h2 hcap2
  have hln : (l.take i ++ l.drop j).length = i + (l.length - j) := by simp; omega
  refine W_assign rfl rfl rfl ?_
  refine W_end (E_then ?_)
  refine C_seq ?_
  refine C_region ?_
  refine W_move rfl rfl rfl ?_
  refine W_move rfl rfl rfl ?_
  refine W_lenS rfl rfl Proofs.Try.runUnderlying24 rfl ?_
  refine W_move rfl rfl rfl ?_
  refine W_sliceV (m := cap) (h := l.length) (l := (l.take i ++ l.drop j).length) rfl rfl Proofs.Try.runUnderlying24 Proofs.Try.sizeOf47 rfl (.inl rfl) (.inl ⟨rfl, rfl⟩) (.inr ⟨_, _, _, rfl, rfl, by omega, by omega, by omega⟩) (.inr ⟨_, _, _, rfl, rfl, by omega, by omega, by omega⟩) (by rw [if_neg (by omega), Option.map_some, Addr.add_lit]) ?_
  refine W_clearTail (sz := Rep.sz S_api_Branch) (n2 := l.length - (l.take i ++ l.drop j).length) rfl Proofs.Try.underlying24 Proofs.Try.zeroValue47 rfl rfl rfl rfl rfl (by omega) ?_
  refine W_end (E_then ?_)
  refine C_seq ?_
  refine C_region ?_
  refine W_move rfl rfl rfl ?_
  refine W_assign rfl rfl rfl ?_
  refine W_end (E_then ?_)
  refine C_ret ?_
  refine E_weak hle1 ?_
  exact end1 rfl rfl ⟨rfl, _, xs2, rfl, rfl, h2.toF⟩

theorem delete47_c {B : Nat} {w0 w : World} {H : Hp} {M : List Res} {l : List S_api_Gen} {v0 : Value} {xs : List Value} {i j : Int} (h0 : Rw H v0 xs l) (hz : 0 ≤ i ∧ i < j ∧ j ≤ (l.length : Int)) (ht : St B w0 H (.row v0 39 (Rep.sz S_api_Gen) l.length xs :: M) w) :
    Calls Proofs.Try.prog 47 [v0, .int .i64 i, .int .i64 j].toArray w (Ret B w0 fun H' M' v => H = H' ∧ ∃ (v' : Value) (xs' : List Value), .row v' 39 (Rep.sz S_api_Gen) (l.take i.toNat ++ l.drop j.toNat).length xs' :: M = M' ∧ v' = v ∧ RwF v' xs' (l.take i.toNat ++ l.drop j.toNat)) := by
  obtain ⟨i, rfl⟩ : ∃ m : Nat, i = m := ⟨i.toNat, by omega⟩
  obtain ⟨j, rfl⟩ : ∃ m : Nat, j = m := ⟨j.toNat, by omega⟩
  have hij : i < j := by omega
  have hj : j ≤ l.length := by omega
  rw [Int.toNat_natCast, Int.toNat_natCast]
  refine enter Proofs.Try.func47 rfl rfl rfl ht ?_
  refine C_rowSome (by omega) (fun gb off cap hv hcap => ?_)
  subst hv
  refine C_seq ?_
  refine C_region ?_
  refine W_assign rfl rfl rfl ?_
  refine W_end (E_then ?_)
  refine C_seq ?_
  refine C_region ?_
  refine W_move rfl rfl rfl ?_
  refine W_move rfl rfl rfl ?_
  refine W_move rfl rfl rfl ?_
  refine W_move rfl rfl rfl ?_
  refine W_lenS rfl rfl Proofs.Try.runUnderlying25 rfl ?_
  refine W_sliceV (m := l.length) (h := j) (l := i) rfl rfl Proofs.Try.runUnderlying25 Proofs.Try.sizeOf39 rfl (.inr ⟨_, rfl⟩) (.inr ⟨_, _, _, rfl, rfl, by omega, by omega, by omega⟩) (.inr ⟨_, _, _, rfl, rfl, by omega, by omega, by omega⟩) (.inr ⟨_, _, _, rfl, rfl, by omega, by omega, by omega⟩) rfl ?_
  refine W_end (E_then ?_)
  refine C_seq ?_
  refine C_seq ?_
  refine C_region ?_
  refine W_move rfl rfl rfl ?_
  refine W_move rfl rfl rfl ?_
  refine W_bin rfl rfl rfl rfl rfl ?_
  refine W_end (E_then ?_)
  refine C_cond (b := decide ((i : Int) = (j : Int))) rfl (fun hb => absurd (of_decide_eq_true hb) (by omega)) (fun _ => ?_)
  refine C_skip (E_then ?_)
  refine C_seq ?_
  refine C_region ?_
  refine W_move rfl rfl rfl ?_
  refine W_lenS rfl rfl Proofs.Try.runUnderlying25 rfl ?_
  refine W_assign rfl rfl rfl ?_
  refine W_end (E_then ?_)
  refine C_seq ?_
  refine C_region_tok0 6 (phiT [(fun H rs v => [] = rs ∧ .slice (some ⟨gb, off, none⟩) l.length cap = v), (fun H rs v => [] = rs ∧ .int .i64 (i : Int) = v), (fun H rs v => [] = rs ∧ .slice (some ⟨gb, off, none⟩) i cap = v), (fun H rs v => [] = rs ∧ .slice (some ⟨gb, off, none⟩) l.length cap = v), (fun H rs v => [] = rs ∧ .int .i64 (j : Int) = v), (fun H rs v => [] = rs ∧ .slice (some (if cap = j then ⟨gb, off, none⟩ else ⟨gb, off + j * Rep.sz S_api_Gen, none⟩)) (l.length - j) (cap - j) = v)]) [[], [], [], [], [], []] [[], [], [], [], [], []] [] [0, 1, 2, 3, 4, 5] Facts.mixed (by kernel_rfl) rfl rfl rfl (by kernel_rfl) (phiT_mono ⟨eq_monoT _ _, eq_monoT _ _, eq_monoT _ _, eq_monoT _ _, eq_monoT _ _, eq_monoT _ _, trivial⟩) ⟨?_, ?_, ?_, ?_, ?_, ?_, trivial⟩ ?_
  · intro HX hX X Rest hR
    intro hU
    refine W_move rfl rfl rfl ?_
    exact W_end (OneT_end [] (Hp.le_refl _) ⟨rfl, rfl⟩)
  · intro HX hX X Rest hR
    intro hU
    refine W_move rfl rfl rfl ?_
    exact W_end (OneT_end [] (Hp.le_refl _) ⟨rfl, rfl⟩)
  · intro HX hX X Rest hR
    rintro _ _ ⟨rfl, rfl⟩
    rintro _ _ ⟨rfl, rfl⟩
    intro hU
    refine W_sliceV (m := cap) (h := i) (l := 0) rfl rfl Proofs.Try.runUnderlying25 Proofs.Try.sizeOf39 rfl (.inl rfl) (.inl ⟨rfl, rfl⟩) (.inr ⟨_, _, _, rfl, rfl, by omega, by omega, by omega⟩) (.inl ⟨rfl, rfl⟩) (by rw [if_neg (by omega), Nat.sub_zero, Nat.sub_zero, Option.map_some, Addr.add_lit, Nat.zero_mul, Nat.add_zero]) ?_
    exact W_end (OneT_end [] (Hp.le_refl _) ⟨rfl, rfl⟩)
  · intro HX hX X Rest hR
    intro hU
    refine W_move rfl rfl rfl ?_
    exact W_end (OneT_end [] (Hp.le_refl _) ⟨rfl, rfl⟩)
  · intro HX hX X Rest hR
    intro hU
    refine W_move rfl rfl rfl ?_
    exact W_end (OneT_end [] (Hp.le_refl _) ⟨rfl, rfl⟩)
  · intro HX hX X Rest hR
    rintro _ _ ⟨rfl, rfl⟩
    rintro _ _ ⟨rfl, rfl⟩
    intro hU
    refine W_sliceV (m := cap) (h := l.length) (l := j) rfl rfl Proofs.Try.runUnderlying25 Proofs.Try.sizeOf39 rfl (.inl rfl) (.inl ⟨rfl, rfl⟩) (.inl ⟨rfl, rfl⟩) (.inr ⟨_, _, _, rfl, rfl, by omega, by omega, by omega⟩) (v' := .slice (some (if cap = j then ⟨gb, off, none⟩ else ⟨gb, off + j * Rep.sz S_api_Gen, none⟩)) (l.length - j) (cap - j)) (by
      by_cases h : cap = j
      · rw [if_pos h, if_pos h]
      · rw [if_neg h, if_neg h, Option.map_some, Addr.add_lit] <;> rfl) ?_
    exact W_end (OneT_end [] (Hp.le_refl _) ⟨rfl, rfl⟩)
  intro H1 hle1
  rintro _ _ ⟨rfl, rfl⟩
  rintro _ _ ⟨rfl, rfl⟩
  rintro _ _ ⟨rfl, rfl⟩
  rintro _ _ ⟨rfl, rfl⟩
  rintro _ _ ⟨rfl, rfl⟩
  rintro _ _ ⟨rfl, rfl⟩
  refine W_appendDel (α := S_api_Gen) (l := l) (i := i) (j := j) (bytes := 56) rfl rfl Proofs.Try.underlying25 ⟨_, rfl, rfl, rfl, rfl⟩ rfl rfl h0 hij hj rfl rfl (fun h => if_neg (by omega)) ?_
  intro gb2 off2 xs2 h2 hcap2
  have hln : (l.take i ++ l.drop j).length = i + (l.length - j) := by simp; omega
  refine W_assign rfl rfl rfl ?_
  refine W_end (E_then ?_)
  refine C_seq ?_
  refine C_region ?_
  refine W_move rfl rfl rfl ?_
  refine W_move rfl rfl rfl ?_
  refine W_lenS rfl rfl Proofs.Try.runUnderlying25 rfl ?_
  refine W_move rfl rfl rfl ?_
  refine W_sliceV (m := cap) (h := l.length) (l := (l.take i ++ l.drop j).length) rfl rfl Proofs.Try.runUnderlying25 Proofs.Try.sizeOf39 rfl (.inl rfl) (.inl ⟨rfl, rfl⟩) (.inr ⟨_, _, _, rfl, rfl, by omega, by omega, by omega⟩) (.inr ⟨_, _, _, rfl, rfl, by omega, by omega, by omega⟩) (by rw [if_neg (by omega), Option.map_some, Addr.add_lit]) ?_
  refine W_clearTail (sz := Rep.sz S_api_Gen) (n2 := l.length - (l.take i ++ l.drop j).length) rfl Proofs.Try.underlying25 Proofs.Try.zeroValue39 rfl rfl rfl rfl rfl (by omega) ?_
  refine W_end (E_then ?_)
  refine C_seq ?_
  refine C_region ?_
  refine W_move rfl rfl rfl ?_
  refine W_assign rfl rfl rfl ?_
  refine W_end (E_then ?_)
  refine C_ret ?_
  refine E_weak hle1 ?_
  exact end1 rfl rfl ⟨rfl, _, xs2, rfl, rfl, h2.toF⟩
end Go.Sim
