/-
  Printed by a program: each Go function computes its model.
-/
import Derived.Test.YtcaoghdfkomjeaaConI1
namespace Go.Sim
open Go
set_option linter.unusedVariables false
set_option linter.unusedSimpArgs false
set_option maxRecDepth 100000
theorem m_graph_parts_c {B : Nat} {w0 w : World} {H : Hp} {M : List Res} {p0_n : Int} {p1_l : (List S_A2_Int)} {without : Int} {v0 : Value} {r : (List Int)} (hm : m_graph_parts p0_n p1_l without = some r) (h0 : RdS H v0 p1_l) (ht : St B w0 H (M) w) :
    Calls Proofs.Try.prog 82 [.int .i64 (p0_n), v0, .int .i64 (without)].toArray w (Ret B w0 fun H' M' v => H = H' ∧ ∃ qv0 : Value, ∃ qxs0 : List Value, .row qv0 3 (Rep.sz Int) r.length qxs0 :: M = M' ∧ qv0 = v ∧ RwF qv0 qxs0 r) := by
  unfold m_graph_parts at hm
  refine enter Proofs.Try.func82 rfl rfl rfl ht ?_
  refine C_seq ?_
  refine C_region ?_
  refine W_assign rfl rfl rfl ?_
  refine W_end ?_
  refine E_then ?_
  refine C_seq ?_
  refine C_region ?_
  refine W_buildSliceO (α := Int) (css := [[.int .i64 ((-1))]]) (zs := [.int .i64 (0)]) (out := [.int .i64 ((-1))]) (ys := [((-1))]) rfl rfl rfl ⟨rfl, trivial⟩ Proofs.Try.runUnderlying30 Proofs.Try.sizeOf3 rfl Proofs.Try.zeroValue3 (by kernel_rfl) rfl rfl rfl rfl ⟨[.int .i64 ((-1))], [], rfl, rfl, rfl⟩ rfl ?_
  intro v101 xs102 hr103
  refine W_move rfl rfl rfl ?_
  obtain ⟨hz104, hm⟩ := need_some hm
  refine W_call Proofs.Try.call93 rfl rfl rfl (fun w ht => by obtain ⟨H0_, hl0_, ht0_, hr0_, bk0_⟩ := ht.lendRow hr103 rfl; have h := repeat93_c hr0_ hz104 ht0_; exact lend_back bk0_ h) ?_
  rintro _ _ _ ⟨rfl, _, rfl, v105, xs106, rfl, rfl, hr107⟩
  have hr107 := hr107 H
  refine W_assign rfl rfl rfl ?_
  refine W_end ?_
  refine E_then ?_
  refine C_seq ?_
  refine C_region ?_
  refine W_assign rfl rfl rfl ?_
  refine W_end ?_
  refine E_then ?_
  refine C_seq ?_
  refine C_seq ?_
  refine C_region ?_
  refine W_move rfl rfl rfl ?_
  refine W_move rfl rfl rfl ?_
  refine W_end ?_
  refine E_then ?_
  refine C_block ?_
  obtain ⟨hq5182, hm⟩ := need_some hm
  refine C_drop (List.Sublist.cons _ (List.Sublist.refl _)) ?_
  refine C_keep (L' := [(1, v0), (2, .int .i64 (without)), (7, v105), (8, .int .i64 (0)), (18, .int .i64 (p0_n)), (19, .int .i64 (((0 : Nat) : Int)))]) ⟨rfl, rfl, rfl, rfl, rfl, rfl, trivial⟩ (List.Perm.refl _) ?_
  refine C_loop (fun n H' M' L' => ∃ (k108 : Nat) (zs5184' : Nat), ∃ l5173 : List Int, ∃ n5175 : Int, ∃ xs5172 : List Value, k108 + zs5184' = (p0_n : Int).toNat ∧ zs5184' = n ∧ forN (fun k s5178 n => m_graph_parts_b55 p1_l without k s5178.1 s5178.2 n) (fun s5178 => some s5178.1) zs5184' k108 (l5173, n5175) = some r ∧ Rw H' v105 xs5172 l5173 ∧ H.le H' ∧ .row v105 3 (Rep.sz Int) l5173.length xs5172 :: M = M' ∧ [(1, v0), (2, .int .i64 (without)), (7, v105), (8, .int .i64 (n5175)), (18, .int .i64 (p0_n)), (19, .int .i64 ((k108 : Int)))] = L') _ ⟨0, _, (repL ([((-1))]) p0_n), 0, xs106, Nat.zero_add _, rfl, hm, hr107, (Hp.le_refl _), rfl, rfl⟩ ?_
  rintro _ H5176 _ _ ⟨k108, zs5184', l5173, n5175, xs5172, hd5186, rfl, hm, hr5174, hle5177, rfl, rfl⟩
  refine C_seq ?_
  refine C_region ?_
  refine W_bin rfl rfl rfl rfl rfl ?_
  refine W_end (E_then ?_)
  refine C_seq ?_
  refine C_cond (b := decide ((k108 : Int) < p0_n)) rfl (fun hb5188 => ?_) (fun hb5188 => ?_)
  · obtain ⟨zs5184, rfl, hd5187, hy5185⟩ := rngN_t hd5186 hb5188
    have hm : m_graph_parts_b55 p1_l without k108 l5173 n5175 (forN (fun k s5178 n => m_graph_parts_b55 p1_l without k s5178.1 s5178.2 n) (fun s5178 => some s5178.1) zs5184 (k108 + 1)) = some r := hm
    generalize hn5180 : forN (fun k s5178 n => m_graph_parts_b55 p1_l without k s5178.1 s5178.2 n) (fun s5178 => some s5178.1) zs5184 (k108 + 1) = nx5179 at hm
    unfold m_graph_parts_b55 at hm
    refine C_skip (E_then ?_)
    refine C_seq_join (fun H' M' L' => ∃ l6449 : List Int, ∃ n6451 : Int, ∃ xs6448 : List Value, m_graph_parts_b69 nx5179 l6449 n6451 = some r ∧ Rw H' v105 xs6448 l6449 ∧ H5176.le H' ∧ .row v105 3 (Rep.sz Int) l6449.length xs6448 :: M = M' ∧ [(1, v0), (2, .int .i64 (without)), (7, v105), (8, .int .i64 (n6451)), (18, .int .i64 (p0_n)), (19, .int .i64 ((k108 : Int)))] = L') ?_ (fun J6454 => ?_)
    · rintro H6452 _ _ ⟨l6449, n6451, xs6448, hm, hr6450, hle6453, rfl, rfl⟩
      unfold m_graph_parts_b69 at hm
      refine C_region ?_
      refine W_bin rfl rfl rfl rfl rfl ?_
      refine W_move rfl rfl rfl ?_
      refine W_end ?_
      exact E_keepJ (E_back (Nat.lt_succ_self _) ⟨k108 + 1, zs5184, l6449, n6451, xs6448, hd5187, rfl, (by rw [hn5180]; exact hm), hr6450, (Hp.le_trans hle5177 hle6453), rfl, rfl⟩) (List.Perm.refl _) ⟨rfl, rfl, rfl, rfl, rfl, (congrArg (fun z => some (Value.int .i64 z)) (i64_succN hy5185 (toNat_max hq5182))), trivial⟩
    · refine C_block ?_
      refine C_seq ?_
      refine C_region ?_
      refine W_move rfl rfl rfl ?_
      refine W_assign rfl rfl rfl ?_
      refine W_end ?_
      refine E_then ?_
      refine C_seq ?_
      refine C_seq ?_
      refine C_region ?_
      refine W_move rfl rfl rfl ?_
      refine W_move rfl rfl rfl ?_
      obtain ⟨y6455, h6456, he6457, hm⟩ := idx_some hm
      refine W_indexO (List.mem_cons_self ..) rfl rfl Proofs.Try.runUnderlying30 Proofs.Try.sizeOf3 rfl rfl h6456 (List.getElem?_eq_some_iff.1 he6457).1 ?_
      obtain ⟨_, rfl, hg6458⟩ := (hr5174).elem he6457
      refine W_load rfl rfl Proofs.Try.isAgg3 rfl (row_one0 (List.mem_cons_self ..) hg6458 rfl) ?_
      refine W_bin rfl rfl rfl rfl rfl ?_
      refine W_end ?_
      refine E_then ?_
      refine C_cond (b := decide (0 ≤ y6455)) rfl (fun hb6459 => ?_) (fun hb6459 => ?_)
      · have hm := ite_t' hb6459 hm
        refine C_exit ?_
        refine E_exit_then ?_
        refine E_exit_hit ?_
        exact E_keepJ (J6454 _ _ _ ⟨l5173, n5175, xs5172, hm, hr5174, (Hp.le_refl _), rfl, rfl⟩) (List.Perm.refl _) ⟨rfl, rfl, rfl, rfl, rfl, rfl, trivial⟩
      · have hm := ite_f' hb6459 hm
        refine C_skip ?_
        refine E_then ?_
        refine C_seq ?_
        refine C_region ?_
        refine W_move rfl rfl rfl ?_
        refine W_move rfl rfl rfl ?_
        refine W_move rfl rfl rfl ?_
        obtain ⟨y6460, h6461, he6462, hm⟩ := idx_some hm
        refine W_indexO (List.mem_cons_self ..) rfl rfl Proofs.Try.runUnderlying30 Proofs.Try.sizeOf3 rfl rfl h6461 (List.getElem?_eq_some_iff.1 he6462).1 ?_
        obtain ⟨_, rfl, hg6463⟩ := (hr5174).elem he6462
        obtain ⟨hr6464, he6465, hg6466⟩ := Rw.put (cs := [.int .i64 (n5175)]) (o := 0) (c := [.int .i64 (y6460)]) (out := [.int .i64 (n5175)]) (e2 := n5175) hr5174 he6462 rfl hg6463 rfl rfl rfl
        refine W_storeO2 (i := ((k108 : Int) : Int).toNat * Rep.sz Int + 0) (cs := [.int .i64 (n5175)]) rfl Proofs.Try.sizeOf3 rfl (row_ad0 _ _) rfl rfl rfl (Rw.room hr5174 he6462 rfl) rfl (all_cons rfl all_nil) (n' := (l5173.set (((k108 : Int) : Int).toNat) n5175).length) List.length_set ?_
        generalize over xs5172 (((k108 : Int) : Int).toNat * Rep.sz Int + 0) [.int .i64 (n5175)] = xs6467 at hr6464 hg6466 ⊢
        refine W_end ?_
        refine E_then ?_
        refine C_seq ?_
        refine C_seq ?_
        refine C_region ?_
        refine W_move rfl rfl rfl ?_
        refine W_buildSliceO (α := Int) (css := [[.int .i64 ((k108 : Int))]]) (zs := [.int .i64 (0)]) (out := [.int .i64 ((k108 : Int))]) (ys := [((k108 : Int))]) rfl rfl rfl ⟨rfl, trivial⟩ Proofs.Try.runUnderlying30 Proofs.Try.sizeOf3 rfl Proofs.Try.zeroValue3 (by kernel_rfl) rfl rfl rfl rfl ⟨[.int .i64 ((k108 : Int))], [], rfl, rfl, rfl⟩ rfl ?_
        intro v6468 xs6469 hr6470
        refine W_assign rfl rfl rfl ?_
        refine W_end ?_
        refine E_then ?_
        refine C_block ?_
        refine C_keep (L' := [(1, v0), (2, .int .i64 (without)), (7, v105), (8, .int .i64 (n5175)), (10, v6468), (18, .int .i64 (p0_n)), (19, .int .i64 ((k108 : Int)))]) ⟨rfl, rfl, rfl, rfl, rfl, rfl, rfl, trivial⟩ (List.Perm.swap _ _ _) ?_
        refine C_loop (fun n H' M' L' => ∃ l7295 : List Int, ∃ l7299 : List Int, ∃ xs7294 : List Value, ∃ v7297 : Value, ∃ xs7298 : List Value, loopF (fun s7303 n => m_graph_parts_b78 p1_l without n5175 nx5179 s7303.1 s7303.2 n) n (l7295, l7299) = some r ∧ Rw H' v105 xs7294 l7295 ∧ Rw H' v7297 xs7298 l7299 ∧ H5176.le H' ∧ .row v105 3 (Rep.sz Int) l7295.length xs7294 :: .row v7297 3 (Rep.sz Int) l7299.length xs7298 :: M = M' ∧ [(1, v0), (2, .int .i64 (without)), (7, v105), (8, .int .i64 (n5175)), (10, v7297), (18, .int .i64 (p0_n)), (19, .int .i64 ((k108 : Int)))] = L') FUEL ⟨(l5173.set (((k108 : Int) : Int).toNat) n5175), ([((k108 : Int))]), xs6467, v6468, xs6469, hm, hr6464, hr6470, (Hp.le_refl _), rfl, rfl⟩ ?_
        rintro n7306 H7301 _ _ ⟨l7295, l7299, xs7294, v7297, xs7298, hm, hr7296, hr7300, hle7302, rfl, rfl⟩
        cases n7306 with
        | zero => cases hm
        | succ n7306 =>
          have hm : m_graph_parts_b78 p1_l without n5175 nx5179 l7295 l7299 (loopF (fun s7303 n => m_graph_parts_b78 p1_l without n5175 nx5179 s7303.1 s7303.2 n) n7306) = some r := hm
          generalize hn7305 : loopF (fun s7303 n => m_graph_parts_b78 p1_l without n5175 nx5179 s7303.1 s7303.2 n) n7306 = nx7304 at hm
          unfold m_graph_parts_b78 at hm
          refine C_seq ?_
          refine C_seq ?_
          refine C_region ?_
          refine W_move rfl rfl rfl ?_
          refine W_lenO (List.mem_cons_of_mem _ (List.mem_cons_self ..)) rfl rfl Proofs.Try.runUnderlying30 rfl ?_
          refine W_bin rfl rfl rfl rfl rfl ?_
          refine W_end ?_
          refine E_then ?_
          refine C_cond (b := decide (0 < (l7299.length : Int))) rfl (fun hb7312 => ?_) (fun hb7312 => ?_)
          · have hm := ite_t' hb7312 hm
            refine C_skip ?_
            refine E_then ?_
            refine C_block ?_
            refine C_seq ?_
            refine C_region ?_
            refine W_move rfl rfl rfl ?_
            obtain ⟨y7313, h7314, he7315, hm⟩ := idx_some hm
            refine W_indexO (List.mem_cons_of_mem _ (List.mem_cons_self ..)) rfl rfl Proofs.Try.runUnderlying30 Proofs.Try.sizeOf3 rfl rfl h7314 (List.getElem?_eq_some_iff.1 he7315).1 ?_
            obtain ⟨_, rfl, hg7316⟩ := (hr7300).elem he7315
            refine W_load rfl rfl Proofs.Try.isAgg3 rfl (row_one0 (List.mem_cons_of_mem _ (List.mem_cons_self ..)) hg7316 rfl) ?_
            refine W_assign rfl rfl rfl ?_
            refine W_end ?_
            refine E_then ?_
            refine C_seq ?_
            refine C_region ?_
            refine W_move rfl rfl rfl ?_
            obtain ⟨hz7317, hm⟩ := need_some hm
            refine W_perm (List.Perm.swap _ _ _) ?_
            refine W_sliceO (α := Int) (l := (1 : Int).toNat) (h := l7299.length) rfl rfl Proofs.Try.runUnderlying30 Proofs.Try.sizeOf3 rfl rfl hr7300 (by omega) (by omega) (fun m hmm => (.inl ⟨rfl, rfl⟩)) (.inr ⟨_, _, _, rfl, rfl, by omega, by omega, rfl⟩) ?_
            intro v7318 xs7319 hr7320
            refine W_assign rfl rfl rfl ?_
            refine W_end ?_
            refine E_then ?_
            refine C_seq ?_
            refine C_region ?_
            refine W_move rfl rfl rfl ?_
            refine W_lenR rfl rfl Proofs.Try.runUnderlying117 rfl ((h0.mono hle5177).mono hle7302) ?_
            refine W_move rfl rfl rfl ?_
            refine W_end ?_
            refine E_then ?_
            refine C_block ?_
            refine C_keep (L' := [(1, v0), (2, .int .i64 (without)), (7, v105), (8, .int .i64 (n5175)), (10, v7318), (11, .int .i64 (y7313)), (18, .int .i64 (p0_n)), (19, .int .i64 ((k108 : Int))), (41, v0), (42, .int .i64 ((p1_l.length : Int))), (43, .int .i64 (((0 : Nat) : Int)))]) ⟨rfl, rfl, rfl, rfl, rfl, rfl, rfl, rfl, rfl, rfl, rfl, trivial⟩ (List.Perm.swap _ _ _) ?_
            refine C_loop (fun n H' M' L' => ∃ (k7321 : Nat) (zs7591' : List S_A2_Int), ∃ l7578 : List Int, ∃ l7582 : List Int, ∃ xs7577 : List Value, ∃ v7580 : Value, ∃ xs7581 : List Value, (p1_l).drop k7321 = zs7591' ∧ zs7591'.length = n ∧ forI (fun k y s7586 n => m_graph_parts_b81 without n5175 y7313 k y s7586.1 s7586.2 n) (fun s7586 => nx7304 (s7586.1, s7586.2)) k7321 zs7591' (l7578, l7582) = some r ∧ Rw H' v105 xs7577 l7578 ∧ Rw H' v7580 xs7581 l7582 ∧ H7301.le H' ∧ .row v105 3 (Rep.sz Int) l7578.length xs7577 :: .row v7580 3 (Rep.sz Int) l7582.length xs7581 :: M = M' ∧ [(1, v0), (2, .int .i64 (without)), (7, v105), (8, .int .i64 (n5175)), (10, v7580), (11, .int .i64 (y7313)), (18, .int .i64 (p0_n)), (19, .int .i64 ((k108 : Int))), (41, v0), (42, .int .i64 ((p1_l.length : Int))), (43, .int .i64 ((k7321 : Int)))] = L') _ ⟨0, _, l7295, (slc l7299 (1 : Int).toNat l7299.length), xs7294, v7318, xs7319, rfl, rfl, hm, hr7296, hr7320, (Hp.le_refl _), rfl, rfl⟩ ?_
            rintro _ H7584 _ _ ⟨k7321, zs7591', l7578, l7582, xs7577, v7580, xs7581, hd7593, rfl, hm, hr7579, hr7583, hle7585, rfl, rfl⟩
            refine C_seq ?_
            refine C_region ?_
            refine W_bin rfl rfl rfl rfl rfl ?_
            refine W_end (E_then ?_)
            refine C_seq ?_
            refine C_cond (b := decide ((k7321 : Int) < (p1_l.length : Int))) rfl (fun hb7595 => ?_) (fun hb7595 => ?_)
            · obtain ⟨y7590, zs7591, rfl, hy7592, hd7594⟩ := rng_t hd7593 hb7595
              have hm : m_graph_parts_b81 without n5175 y7313 k7321 y7590 l7578 l7582 (forI (fun k y s7586 n => m_graph_parts_b81 without n5175 y7313 k y s7586.1 s7586.2 n) (fun s7586 => nx7304 (s7586.1, s7586.2)) (k7321 + 1) zs7591) = some r := hm
              generalize hn7588 : forI (fun k y s7586 n => m_graph_parts_b81 without n5175 y7313 k y s7586.1 s7586.2 n) (fun s7586 => nx7304 (s7586.1, s7586.2)) (k7321 + 1) zs7591 = nx7587 at hm
              unfold m_graph_parts_b81 at hm
              refine C_skip (E_then ?_)
              refine C_seq_join (fun H' M' L' => ∃ l7651 : List Int, ∃ l7655 : List Int, ∃ xs7650 : List Value, ∃ v7653 : Value, ∃ xs7654 : List Value, m_graph_parts_b82 nx7587 l7651 l7655 = some r ∧ Rw H' v105 xs7650 l7651 ∧ Rw H' v7653 xs7654 l7655 ∧ H7584.le H' ∧ .row v105 3 (Rep.sz Int) l7651.length xs7650 :: .row v7653 3 (Rep.sz Int) l7655.length xs7654 :: M = M' ∧ [(1, v0), (2, .int .i64 (without)), (7, v105), (8, .int .i64 (n5175)), (10, v7653), (11, .int .i64 (y7313)), (18, .int .i64 (p0_n)), (19, .int .i64 ((k108 : Int))), (41, v0), (42, .int .i64 ((p1_l.length : Int))), (43, .int .i64 ((k7321 : Int)))] = L') ?_ (fun J7659 => ?_)
              · rintro H7657 _ _ ⟨l7651, l7655, xs7650, v7653, xs7654, hm, hr7652, hr7656, hle7658, rfl, rfl⟩
                unfold m_graph_parts_b82 at hm
                refine C_region ?_
                refine W_bin rfl rfl rfl rfl rfl ?_
                refine W_move rfl rfl rfl ?_
                refine W_end ?_
                exact E_keepJ (E_back (Nat.lt_succ_self _) ⟨k7321 + 1, zs7591, l7651, l7655, xs7650, v7653, xs7654, hd7594, rfl, (by rw [hn7588]; exact hm), hr7652, hr7656, (Hp.le_trans hle7585 hle7658), rfl, rfl⟩) (List.Perm.refl _) ⟨rfl, rfl, rfl, rfl, rfl, rfl, rfl, rfl, rfl, rfl, (congrArg (fun z => some (Value.int .i64 z)) (i64_succ hy7592 ((((h0.mono hle5177).mono hle7302).mono hle7585)).lenMax)), trivial⟩
              · refine C_block ?_
                refine C_seq ?_
                refine C_region ?_
                refine W_move rfl rfl rfl ?_
                obtain ⟨_, ⟨rfl⟩, hc7660⟩ := (h0).elem hy7592
                refine W_indexS rfl rfl Proofs.Try.runUnderlying117 Proofs.Try.sizeOf118 rfl (((h0.mono hle5177).mono hle7302).mono hle7585) rfl (Int.natCast_nonneg _) hy7592 ?_
                refine W_loadAgg rfl rfl Proofs.Try.isAgg118 Proofs.Try.sizeOf118 rfl (((hc7660.mono hle5177).mono hle7302).mono hle7585).at rfl ?_
                refine W_alloc (cs := [.int .i64 (0), .int .i64 (0)]) rfl rfl Proofs.Try.zeroValue118 rfl (fun b7661 => ?_)
                refine W_assign rfl rfl rfl ?_
                refine W_store (cs := [.int .i64 (y7590.a0), .int .i64 (y7590.a1)]) (out := [.int .i64 (y7590.a0), .int .i64 (y7590.a1)]) rfl Proofs.Try.sizeOf118 rfl rfl rfl rfl rfl (all_cons rfl (all_cons rfl all_nil)) (over_all rfl) ?_
                refine W_end ?_
                refine E_then ?_
                refine C_seq ?_
                refine C_seq ?_
                refine C_region ?_
                refine W_move rfl rfl rfl ?_
                refine W_move rfl rfl rfl ?_
                refine W_bin rfl rfl rfl rfl rfl ?_
                refine W_move rfl rfl rfl ?_
                cases hb7662 : (decide ((k7321 : Int) = without))
                · have hm := ite_f' hb7662 hm
                  refine W_indexAd rfl rfl Proofs.Try.runUnderlying118 Proofs.Try.sizeOf3 rfl rfl (by decide) (by decide) ?_
                  refine W_load rfl rfl Proofs.Try.isAgg3 rfl (own_at (List.mem_cons_self ..) rfl) ?_
                  refine W_move rfl rfl rfl ?_
                  refine W_bin rfl rfl rfl rfl rfl ?_
                  refine W_move rfl rfl rfl ?_
                  cases hb7663 : (decide (y7590.a0 = y7313))
                  · have hm := ite_f' hb7663 hm
                    refine W_indexAd rfl rfl Proofs.Try.runUnderlying118 Proofs.Try.sizeOf3 rfl rfl (by decide) (by decide) ?_
                    refine W_load rfl rfl Proofs.Try.isAgg3 rfl (own_at (List.mem_cons_self ..) rfl) ?_
                    refine W_move rfl rfl rfl ?_
                    refine W_bin rfl rfl rfl rfl rfl ?_
                    refine W_pick rfl rfl rfl rfl ?_
                    refine W_pick rfl rfl rfl rfl ?_
                    refine W_end ?_
                    refine E_then ?_
                    refine C_cond (b := !decide (y7590.a1 = y7313)) rfl (fun hb7664 => ?_) (fun hb7664 => ?_)
                    · have hm := ite_t' hb7664 hm
                      refine C_exit ?_
                      refine E_exit_then ?_
                      refine E_exit_hit ?_
                      refine E_drop (List.Sublist.cons _ (List.Sublist.refl _)) ?_
                      exact E_keepJ (J7659 _ _ _ ⟨l7578, l7582, xs7577, v7580, xs7581, hm, hr7579, hr7583, (Hp.le_refl _), rfl, rfl⟩) (List.Perm.refl _) ⟨rfl, rfl, rfl, rfl, rfl, rfl, rfl, rfl, rfl, rfl, rfl, trivial⟩
                    · have hm := ite_f' hb7664 hm
                      refine C_skip ?_
                      refine E_then ?_
                      refine C_seq ?_
                      refine C_region ?_
                      refine W_indexAd rfl rfl Proofs.Try.runUnderlying118 Proofs.Try.sizeOf3 rfl rfl (by decide) (by decide) ?_
                      refine W_load rfl rfl Proofs.Try.isAgg3 rfl (own_at (List.mem_cons_self ..) rfl) ?_
                      refine W_indexAd rfl rfl Proofs.Try.runUnderlying118 Proofs.Try.sizeOf3 rfl rfl (by decide) (by decide) ?_
                      refine W_load rfl rfl Proofs.Try.isAgg3 rfl (own_at (List.mem_cons_self ..) rfl) ?_
                      refine W_bin rfl rfl rfl rfl rfl ?_
                      refine W_move rfl rfl rfl ?_
                      refine W_bin rfl rfl rfl rfl rfl ?_
                      refine W_assign rfl rfl rfl ?_
                      refine W_end ?_
                      refine E_then ?_
                      refine C_seq ?_
                      refine C_region ?_
                      refine W_move rfl rfl rfl ?_
                      refine W_move rfl rfl rfl ?_
                      obtain ⟨y7665, h7666, he7667, hm⟩ := idx_some hm
                      refine W_indexO (List.mem_cons_of_mem _ (List.mem_cons_self ..)) rfl rfl Proofs.Try.runUnderlying30 Proofs.Try.sizeOf3 rfl rfl h7666 (List.getElem?_eq_some_iff.1 he7667).1 ?_
                      obtain ⟨_, rfl, hg7668⟩ := (hr7579).elem he7667
                      refine W_load rfl rfl Proofs.Try.isAgg3 rfl (row_one0 (List.mem_cons_of_mem _ (List.mem_cons_self ..)) hg7668 rfl) ?_
                      refine W_bin rfl rfl rfl rfl rfl ?_
                      refine W_end ?_
                      refine E_then ?_
                      refine C_cond (b := decide (y7665 < 0)) rfl (fun hb7669 => ?_) (fun hb7669 => ?_)
                      · have hm := ite_t' hb7669 hm
                        refine C_seq ?_
                        refine C_region ?_
                        refine W_move rfl rfl rfl ?_
                        refine W_move rfl rfl rfl ?_
                        refine W_move rfl rfl rfl ?_
                        obtain ⟨y7670, h7671, he7672, hm⟩ := idx_some hm
                        refine W_indexO (List.mem_cons_of_mem _ (List.mem_cons_self ..)) rfl rfl Proofs.Try.runUnderlying30 Proofs.Try.sizeOf3 rfl rfl h7671 (List.getElem?_eq_some_iff.1 he7672).1 ?_
                        obtain ⟨_, rfl, hg7673⟩ := (hr7579).elem he7672
                        refine W_perm (List.Perm.swap _ _ _) ?_
                        obtain ⟨hr7674, he7675, hg7676⟩ := Rw.put (cs := [.int .i64 (n5175)]) (o := 0) (c := [.int .i64 (y7670)]) (out := [.int .i64 (n5175)]) (e2 := n5175) hr7579 he7672 rfl hg7673 rfl rfl rfl
                        refine W_storeO2 (i := (IntKind.i64.wrap ((IntKind.i64.wrap (y7590.a0 + y7590.a1)) - y7313) : Int).toNat * Rep.sz Int + 0) (cs := [.int .i64 (n5175)]) rfl Proofs.Try.sizeOf3 rfl (row_ad0 _ _) rfl rfl rfl (Rw.room hr7579 he7672 rfl) rfl (all_cons rfl all_nil) (n' := (l7578.set ((IntKind.i64.wrap ((IntKind.i64.wrap (y7590.a0 + y7590.a1)) - y7313) : Int).toNat) n5175).length) List.length_set ?_
                        generalize over xs7577 ((IntKind.i64.wrap ((IntKind.i64.wrap (y7590.a0 + y7590.a1)) - y7313) : Int).toNat * Rep.sz Int + 0) [.int .i64 (n5175)] = xs7677 at hr7674 hg7676 ⊢
                        refine W_end ?_
                        refine E_then ?_
                        refine C_region ?_
                        refine W_move rfl rfl rfl ?_
                        refine W_move rfl rfl rfl ?_
                        refine W_buildSlice (α := Int) (css := [[.int .i64 (IntKind.i64.wrap ((IntKind.i64.wrap (y7590.a0 + y7590.a1)) - y7313))]]) (zs := [.int .i64 (0)]) (out := [.int .i64 (IntKind.i64.wrap ((IntKind.i64.wrap (y7590.a0 + y7590.a1)) - y7313))]) (ys := [(IntKind.i64.wrap ((IntKind.i64.wrap (y7590.a0 + y7590.a1)) - y7313))]) rfl rfl rfl ⟨rfl, trivial⟩ Proofs.Try.runUnderlying30 Proofs.Try.sizeOf3 rfl Proofs.Try.zeroValue3 (by kernel_rfl) rfl rfl rfl rfl ⟨[.int .i64 (IntKind.i64.wrap ((IntKind.i64.wrap (y7590.a0 + y7590.a1)) - y7313))], [], rfl, rfl, rfl⟩ rfl ?_
                        intro b7678 v7679 H7680 hv7681 hle7682 h7683
                        have hc7684 : Value.cap' v7679 = ([(IntKind.i64.wrap ((IntKind.i64.wrap (y7590.a0 + y7590.a1)) - y7313))]).length := by rw [hv7681]; rfl
                        obtain ⟨hz7685, hm⟩ := need_some hm
                        refine W_perm (List.Perm.trans (List.Perm.cons _ (List.Perm.swap _ _ _)) (List.Perm.swap _ _ _)) ?_
                        refine W_appendO (α := Int) (l := l7582) (ys := [(IntKind.i64.wrap ((IntKind.i64.wrap (y7590.a0 + y7590.a1)) - y7313))]) rfl rfl Proofs.Try.underlying30 ⟨_, rfl, rfl, rfl, rfl⟩ rfl rfl rfl rfl rfl (hr7583.mono hle7682) h7683 hz7685 ?_
                        intro v7686 xs7687 hr7688
                        refine W_assign rfl rfl rfl ?_
                        refine W_end ?_
                        refine E_normal_block ?_
                        refine E_drop (List.Sublist.cons_cons _ (List.Sublist.cons_cons _ (List.Sublist.cons _ (List.Sublist.refl _)))) ?_
                        exact E_keepJ (J7659 _ _ _ ⟨(l7578.set ((IntKind.i64.wrap ((IntKind.i64.wrap (y7590.a0 + y7590.a1)) - y7313) : Int).toNat) n5175), (l7582 ++ ([(IntKind.i64.wrap ((IntKind.i64.wrap (y7590.a0 + y7590.a1)) - y7313))])), xs7677, v7686, xs7687, hm, (hr7674.mono hle7682), hr7688, hle7682, rfl, rfl⟩) (List.Perm.swap _ _ _) ⟨rfl, rfl, rfl, rfl, rfl, rfl, rfl, rfl, rfl, rfl, rfl, trivial⟩
                      · have hm := ite_f' hb7669 hm
                        refine C_skip ?_
                        refine E_normal_block ?_
                        refine E_drop (List.Sublist.cons _ (List.Sublist.refl _)) ?_
                        exact E_keepJ (J7659 _ _ _ ⟨l7578, l7582, xs7577, v7580, xs7581, hm, hr7579, hr7583, (Hp.le_refl _), rfl, rfl⟩) (List.Perm.refl _) ⟨rfl, rfl, rfl, rfl, rfl, rfl, rfl, rfl, rfl, rfl, rfl, trivial⟩
                  · have hm := ite_t' hb7663 hm
                    refine W_no rfl rfl rfl ?_
                    refine W_no rfl rfl rfl ?_
                    refine W_no rfl rfl rfl ?_
                    refine W_no rfl rfl rfl ?_
                    refine W_pick rfl rfl rfl rfl ?_
                    refine W_pick rfl rfl rfl rfl ?_
                    refine W_end ?_
                    refine E_then ?_
                    refine C_cond (b := false) rfl (fun hb => Bool.noConfusion hb) (fun _ => ?_)
                    refine C_skip ?_
                    refine E_then ?_
                    refine C_seq ?_
                    refine C_region ?_
                    refine W_indexAd rfl rfl Proofs.Try.runUnderlying118 Proofs.Try.sizeOf3 rfl rfl (by decide) (by decide) ?_
                    refine W_load rfl rfl Proofs.Try.isAgg3 rfl (own_at (List.mem_cons_self ..) rfl) ?_
                    refine W_indexAd rfl rfl Proofs.Try.runUnderlying118 Proofs.Try.sizeOf3 rfl rfl (by decide) (by decide) ?_
                    refine W_load rfl rfl Proofs.Try.isAgg3 rfl (own_at (List.mem_cons_self ..) rfl) ?_
                    refine W_bin rfl rfl rfl rfl rfl ?_
                    refine W_move rfl rfl rfl ?_
                    refine W_bin rfl rfl rfl rfl rfl ?_
                    refine W_assign rfl rfl rfl ?_
                    refine W_end ?_
                    refine E_then ?_
                    refine C_seq ?_
                    refine C_region ?_
                    refine W_move rfl rfl rfl ?_
                    refine W_move rfl rfl rfl ?_
                    obtain ⟨y7689, h7690, he7691, hm⟩ := idx_some hm
                    refine W_indexO (List.mem_cons_of_mem _ (List.mem_cons_self ..)) rfl rfl Proofs.Try.runUnderlying30 Proofs.Try.sizeOf3 rfl rfl h7690 (List.getElem?_eq_some_iff.1 he7691).1 ?_
                    obtain ⟨_, rfl, hg7692⟩ := (hr7579).elem he7691
                    refine W_load rfl rfl Proofs.Try.isAgg3 rfl (row_one0 (List.mem_cons_of_mem _ (List.mem_cons_self ..)) hg7692 rfl) ?_
                    refine W_bin rfl rfl rfl rfl rfl ?_
                    refine W_end ?_
                    refine E_then ?_
                    refine C_cond (b := decide (y7689 < 0)) rfl (fun hb7693 => ?_) (fun hb7693 => ?_)
                    · have hm := ite_t' hb7693 hm
                      refine C_seq ?_
                      refine C_region ?_
                      refine W_move rfl rfl rfl ?_
                      refine W_move rfl rfl rfl ?_
                      refine W_move rfl rfl rfl ?_
                      obtain ⟨y7694, h7695, he7696, hm⟩ := idx_some hm
                      refine W_indexO (List.mem_cons_of_mem _ (List.mem_cons_self ..)) rfl rfl Proofs.Try.runUnderlying30 Proofs.Try.sizeOf3 rfl rfl h7695 (List.getElem?_eq_some_iff.1 he7696).1 ?_
                      obtain ⟨_, rfl, hg7697⟩ := (hr7579).elem he7696
                      refine W_perm (List.Perm.swap _ _ _) ?_
                      obtain ⟨hr7698, he7699, hg7700⟩ := Rw.put (cs := [.int .i64 (n5175)]) (o := 0) (c := [.int .i64 (y7694)]) (out := [.int .i64 (n5175)]) (e2 := n5175) hr7579 he7696 rfl hg7697 rfl rfl rfl
                      refine W_storeO2 (i := (IntKind.i64.wrap ((IntKind.i64.wrap (y7590.a0 + y7590.a1)) - y7313) : Int).toNat * Rep.sz Int + 0) (cs := [.int .i64 (n5175)]) rfl Proofs.Try.sizeOf3 rfl (row_ad0 _ _) rfl rfl rfl (Rw.room hr7579 he7696 rfl) rfl (all_cons rfl all_nil) (n' := (l7578.set ((IntKind.i64.wrap ((IntKind.i64.wrap (y7590.a0 + y7590.a1)) - y7313) : Int).toNat) n5175).length) List.length_set ?_
                      generalize over xs7577 ((IntKind.i64.wrap ((IntKind.i64.wrap (y7590.a0 + y7590.a1)) - y7313) : Int).toNat * Rep.sz Int + 0) [.int .i64 (n5175)] = xs7701 at hr7698 hg7700 ⊢
                      refine W_end ?_
                      refine E_then ?_
                      refine C_region ?_
                      refine W_move rfl rfl rfl ?_
                      refine W_move rfl rfl rfl ?_
                      refine W_buildSlice (α := Int) (css := [[.int .i64 (IntKind.i64.wrap ((IntKind.i64.wrap (y7590.a0 + y7590.a1)) - y7313))]]) (zs := [.int .i64 (0)]) (out := [.int .i64 (IntKind.i64.wrap ((IntKind.i64.wrap (y7590.a0 + y7590.a1)) - y7313))]) (ys := [(IntKind.i64.wrap ((IntKind.i64.wrap (y7590.a0 + y7590.a1)) - y7313))]) rfl rfl rfl ⟨rfl, trivial⟩ Proofs.Try.runUnderlying30 Proofs.Try.sizeOf3 rfl Proofs.Try.zeroValue3 (by kernel_rfl) rfl rfl rfl rfl ⟨[.int .i64 (IntKind.i64.wrap ((IntKind.i64.wrap (y7590.a0 + y7590.a1)) - y7313))], [], rfl, rfl, rfl⟩ rfl ?_
                      intro b7702 v7703 H7704 hv7705 hle7706 h7707
                      have hc7708 : Value.cap' v7703 = ([(IntKind.i64.wrap ((IntKind.i64.wrap (y7590.a0 + y7590.a1)) - y7313))]).length := by rw [hv7705]; rfl
                      obtain ⟨hz7709, hm⟩ := need_some hm
                      refine W_perm (List.Perm.trans (List.Perm.cons _ (List.Perm.swap _ _ _)) (List.Perm.swap _ _ _)) ?_
                      refine W_appendO (α := Int) (l := l7582) (ys := [(IntKind.i64.wrap ((IntKind.i64.wrap (y7590.a0 + y7590.a1)) - y7313))]) rfl rfl Proofs.Try.underlying30 ⟨_, rfl, rfl, rfl, rfl⟩ rfl rfl rfl rfl rfl (hr7583.mono hle7706) h7707 hz7709 ?_
                      intro v7710 xs7711 hr7712
                      refine W_assign rfl rfl rfl ?_
                      refine W_end ?_
                      refine E_normal_block ?_
                      refine E_drop (List.Sublist.cons_cons _ (List.Sublist.cons_cons _ (List.Sublist.cons _ (List.Sublist.refl _)))) ?_
                      exact E_keepJ (J7659 _ _ _ ⟨(l7578.set ((IntKind.i64.wrap ((IntKind.i64.wrap (y7590.a0 + y7590.a1)) - y7313) : Int).toNat) n5175), (l7582 ++ ([(IntKind.i64.wrap ((IntKind.i64.wrap (y7590.a0 + y7590.a1)) - y7313))])), xs7701, v7710, xs7711, hm, (hr7698.mono hle7706), hr7712, hle7706, rfl, rfl⟩) (List.Perm.swap _ _ _) ⟨rfl, rfl, rfl, rfl, rfl, rfl, rfl, rfl, rfl, rfl, rfl, trivial⟩
                    · have hm := ite_f' hb7693 hm
                      refine C_skip ?_
                      refine E_normal_block ?_
                      refine E_drop (List.Sublist.cons _ (List.Sublist.refl _)) ?_
                      exact E_keepJ (J7659 _ _ _ ⟨l7578, l7582, xs7577, v7580, xs7581, hm, hr7579, hr7583, (Hp.le_refl _), rfl, rfl⟩) (List.Perm.refl _) ⟨rfl, rfl, rfl, rfl, rfl, rfl, rfl, rfl, rfl, rfl, rfl, trivial⟩
                · have hm := ite_t' hb7662 hm
                  refine W_no rfl rfl rfl ?_
                  refine W_no rfl rfl rfl ?_
                  refine W_no rfl rfl rfl ?_
                  refine W_no rfl rfl rfl ?_
                  refine W_no rfl rfl rfl ?_
                  refine W_no rfl rfl rfl ?_
                  refine W_no rfl rfl rfl ?_
                  refine W_no rfl rfl rfl ?_
                  refine W_no rfl rfl rfl ?_
                  refine W_no rfl rfl rfl ?_
                  refine W_pick rfl rfl rfl rfl ?_
                  refine W_end ?_
                  refine E_then ?_
                  refine C_cond (b := true) rfl (fun _ => ?_) (fun hb => Bool.noConfusion hb)
                  refine C_exit ?_
                  refine E_exit_then ?_
                  refine E_exit_hit ?_
                  refine E_drop (List.Sublist.cons _ (List.Sublist.refl _)) ?_
                  exact E_keepJ (J7659 _ _ _ ⟨l7578, l7582, xs7577, v7580, xs7581, hm, hr7579, hr7583, (Hp.le_refl _), rfl, rfl⟩) (List.Perm.refl _) ⟨rfl, rfl, rfl, rfl, rfl, rfl, rfl, rfl, rfl, rfl, rfl, trivial⟩
            · obtain rfl := rng_f hd7593 hb7595
              have hm : (nx7304 (l7578, l7582)) = some r := hm
              refine C_exit (E_exit_then ?_)
              refine E_exit_then ?_
              refine E_exit_hit ?_
              refine E_normal_block ?_
              exact E_keepJ (E_back (Nat.lt_succ_self _) ⟨l7578, l7582, xs7577, v7580, xs7581, (by rw [hn7305]; exact hm), hr7579, hr7583, (Hp.le_trans hle7302 hle7585), rfl, rfl⟩) (List.Perm.refl _) ⟨rfl, rfl, rfl, rfl, rfl, rfl, rfl, trivial⟩
          · have hm := ite_f' hb7312 hm
            refine C_exit ?_
            refine E_exit_then ?_
            refine E_exit_then ?_
            refine E_exit_hit ?_
            refine E_then ?_
            refine C_region ?_
            refine W_move rfl rfl rfl ?_
            refine W_bin rfl rfl rfl rfl rfl ?_
            refine W_assign rfl rfl rfl ?_
            refine W_end ?_
            refine E_normal_block ?_
            refine E_drop (List.Sublist.cons_cons _ (List.Sublist.cons _ (List.Sublist.refl _))) ?_
            exact E_keepJ (J6454 _ _ _ ⟨l7295, IntKind.i64.wrap (n5175 + 1), xs7294, hm, hr7296, hle7302, rfl, rfl⟩) (List.Perm.refl _) ⟨rfl, rfl, rfl, rfl, rfl, rfl, trivial⟩
  · obtain rfl := rngN_f hd5186 hb5188
    have hm : (some l5173) = some r := hm
    refine C_exit (E_exit_then ?_)
    refine E_exit_then ?_
    refine E_exit_hit ?_
    refine E_then ?_
    refine C_seq ?_
    refine C_region ?_
    refine W_move rfl rfl rfl ?_
    refine W_assign rfl rfl rfl ?_
    refine W_end ?_
    refine E_then ?_
    refine C_ret ?_
    obtain rfl := Option.some.inj hm
    refine E_weak hle5177 ?_
    exact end1 rfl rfl ⟨rfl, v105, xs5172, rfl, rfl, (hr5174).toF⟩

theorem m_graph_Components_c {B : Nat} {w0 w : World} {H : Hp} {M : List Res} {p0_n : Int} {p1_l : (List S_A2_Int)} {v0 : Value} {r : (List Int) × Int} (hm : m_graph_Components p0_n p1_l = some r) (h0 : RdS H v0 p1_l) (ht : St B w0 H (M) w) :
    Calls Proofs.Try.prog 60 [.int .i64 (p0_n), v0].toArray w (Ret B w0 fun H' M' v => H = H' ∧ ∃ qv0 : Value, ∃ qxs0 : List Value, .row qv0 3 (Rep.sz Int) r.1.length qxs0 :: M = M' ∧ .tuple #[qv0, .int .i64 (r.2)] = v ∧ RwF qv0 qxs0 r.1) := by
  unfold m_graph_Components at hm
  refine enter Proofs.Try.func60 rfl rfl rfl ht ?_
  refine C_seq ?_
  refine C_region ?_
  refine W_assign rfl rfl rfl ?_
  refine W_assign rfl rfl rfl ?_
  refine W_end ?_
  refine E_then ?_
  refine C_seq ?_
  refine C_seq ?_
  refine C_region ?_
  refine W_move rfl rfl rfl ?_
  refine W_move rfl rfl rfl ?_
  obtain ⟨r101, hc102, hm⟩ := bind_some hm
  refine W_call Proofs.Try.call81 rfl rfl rfl (fun w ht => by have h := m_graph_Check_c (hm := hc102) h0 ht; exact h) ?_
  rintro _ _ _ ⟨rfl, rfl, rfl⟩
  refine W_assign rfl rfl rfl ?_
  refine W_end ?_
  refine E_then ?_
  refine C_seq ?_
  refine C_region ?_
  refine W_move rfl rfl rfl ?_
  refine W_bin rfl rfl rfl rfl rfl ?_
  refine W_end ?_
  refine E_then ?_
  refine C_cond (b := !decide (r101 = 0)) rfl (fun hb103 => ?_) (fun hb103 => ?_)
  · have hm := ite_t' hb103 hm
    refine C_seq ?_
    refine C_region ?_
    refine W_move rfl rfl rfl ?_
    refine W_assign rfl rfl rfl ?_
    refine W_assign rfl rfl rfl ?_
    refine W_end ?_
    refine E_then ?_
    refine C_ret ?_
    refine E_ret_then ?_
    refine E_nilRow 3 (Rep.sz Int) ?_
    obtain rfl := Option.some.inj hm
    refine E_weak (Hp.le_refl _) ?_
    exact end2 rfl rfl rfl ⟨rfl, (.slice none 0 0), [], rfl, rfl, (Rw.nil (H := H)).toF⟩
  · have hm := ite_f' hb103 hm
    refine C_skip ?_
    refine E_then ?_
    refine C_seq ?_
    refine C_region ?_
    refine W_move rfl rfl rfl ?_
    refine W_move rfl rfl rfl ?_
    obtain ⟨r104, hc105, hm⟩ := bind_some hm
    refine W_call Proofs.Try.call82 rfl rfl rfl (fun w ht => by have h := m_graph_parts_c (hm := hc105) h0 ht; exact h) ?_
    rintro _ _ _ ⟨rfl, v106, xs107, rfl, rfl, h108⟩
    have h108 := h108 H
    refine W_assign rfl rfl rfl ?_
    refine W_assign rfl rfl rfl ?_
    refine W_end ?_
    refine E_then ?_
    refine C_ret ?_
    obtain rfl := Option.some.inj hm
    refine E_weak (Hp.le_refl _) ?_
    exact end2 rfl rfl rfl ⟨rfl, v106, xs107, rfl, rfl, (h108).toF⟩

theorem m_station_Buses_c {B : Nat} {w0 w : World} {H : Hp} {M : List Res} {p0_n : S_api_Network} {v0 : Value} {v1 : Value} {v2 : Value} {v3 : Value} {v4 : Value} {v5 : Value} {r : (List Int)} (hm : m_station_Buses p0_n = some r) (h0 : RdS H v0 p0_n.Nodes) (h1 : RdS H v1 p0_n.Switches) (h2 : RdS H v2 p0_n.Branches) (h3 : RdS H v3 p0_n.Gens) (h4 : RdS H v4 p0_n.Loads) (h5 : RdS H v5 p0_n.Stores) (ht : St B w0 H (M) w) :
    Calls Proofs.Try.prog 59 [.agg [v0, v1, v2, v3, v4, v5].toArray].toArray w (Ret B w0 fun H' M' v => H = H' ∧ ∃ qv0 : Value, ∃ qxs0 : List Value, .row qv0 3 (Rep.sz Int) r.length qxs0 :: M = M' ∧ qv0 = v ∧ RwF qv0 qxs0 r) := by
  unfold m_station_Buses at hm
  refine enter Proofs.Try.func59 rfl rfl rfl ht ?_
  refine C_seq ?_
  refine C_region ?_
  refine W_box (cs := [v0, v1, v2, v3, v4, v5]) rfl rfl rfl rfl (fun b101 => ?_)
  refine W_assign rfl rfl rfl ?_
  refine W_end ?_
  refine E_then ?_
  refine C_seq ?_
  refine C_region ?_
  refine W_loadAgg rfl rfl Proofs.Try.isAgg29 Proofs.Try.sizeOf29 rfl (own_all (List.mem_cons_self ..)) rfl ?_
  obtain ⟨r102, hc103, hm⟩ := bind_some hm
  refine W_call Proofs.Try.call80 rfl rfl rfl (fun w ht => by have h := m_station_edges_c (hm := hc103) h0 h1 h2 h3 h4 h5 ht; exact h) ?_
  rintro _ _ _ ⟨rfl, v104, xs105, v107, xs108, rfl, rfl, h106, h109⟩
  have h106 := h106 H
  have h109 := h109 H
  refine W_move rfl rfl rfl ?_
  refine W_extract rfl rfl rfl rfl ?_
  refine W_extract rfl rfl rfl rfl ?_
  refine W_assign rfl rfl rfl ?_
  refine W_assign rfl rfl rfl ?_
  refine W_end ?_
  refine E_then ?_
  refine C_seq ?_
  refine C_region ?_
  refine W_field (o := 0) rfl rfl Proofs.Try.runUnderlying29 rfl Proofs.Try.sizeOf22 rfl rfl rfl ?_
  refine W_load rfl rfl Proofs.Try.isAgg22 rfl (own_at (List.mem_cons_of_mem _ (List.mem_cons_of_mem _ (List.mem_cons_self ..))) rfl) ?_
  refine W_lenR rfl rfl Proofs.Try.runUnderlying22 rfl h0 ?_
  refine W_move rfl rfl rfl ?_
  obtain ⟨r110, hc111, hm⟩ := bind_some hm
  refine W_call Proofs.Try.call60 rfl rfl rfl (fun w ht => by obtain ⟨H0_, hl0_, ht0_, hr0_, bk0_⟩ := ht.lendRow h106 rfl; have h := m_graph_Components_c (hm := hc111) hr0_ ht0_; exact lend_back bk0_ (h)) ?_
  rintro _ _ _ ⟨rfl, ⟨_, rfl, v112, xs113, rfl, rfl, h114⟩⟩
  have h114 := h114 H
  refine W_move rfl rfl rfl ?_
  refine W_extract rfl rfl rfl rfl ?_
  refine W_extract rfl rfl rfl rfl ?_
  refine W_assign rfl rfl rfl ?_
  refine W_assign rfl rfl rfl ?_
  refine W_end ?_
  refine E_then ?_
  refine C_seq ?_
  refine C_region ?_
  refine W_move rfl rfl rfl ?_
  refine W_assign rfl rfl rfl ?_
  refine W_end ?_
  refine E_then ?_
  refine C_ret ?_
  obtain rfl := Option.some.inj hm
  refine E_drop (List.Sublist.cons _ (List.Sublist.cons_cons _ (List.Sublist.cons _ (List.Sublist.cons _ (List.Sublist.refl _))))) ?_
  refine E_weak (Hp.le_refl _) ?_
  exact end1 rfl rfl ⟨rfl, v112, xs113, rfl, rfl, (h114).toF⟩

theorem m_topology_Get_c {B : Nat} {w0 w : World} {H : Hp} {M : List Res} {p0_n : S_api_Network} {v0 : Value} {v1 : Value} {v2 : Value} {v3 : Value} {v4 : Value} {v5 : Value} {r : S_api_Topology} (hm : m_topology_Get p0_n = some r) (h0 : RdS H v0 p0_n.Nodes) (h1 : RdS H v1 p0_n.Switches) (h2 : RdS H v2 p0_n.Branches) (h3 : RdS H v3 p0_n.Gens) (h4 : RdS H v4 p0_n.Loads) (h5 : RdS H v5 p0_n.Stores) (ht : St B w0 H (M) w) :
    Calls Proofs.Try.prog 31 [.agg [v0, v1, v2, v3, v4, v5].toArray].toArray w (Ret B w0 fun H' M' v => H = H' ∧ ∃ qv0 : Value, ∃ qxs0 : List Value, ∃ qv1 : Value, ∃ qxs1 : List Value, .row qv0 3 (Rep.sz Int) r.Bus.length qxs0 :: .row qv1 3 (Rep.sz Int) r.Island.length qxs1 :: M = M' ∧ .agg [qv0, qv1].toArray = v ∧ RwF qv0 qxs0 r.Bus ∧ RwF qv1 qxs1 r.Island) := by
  unfold m_topology_Get at hm
  refine enter Proofs.Try.func31 rfl rfl rfl ht ?_
  refine C_seq ?_
  refine C_region ?_
  refine W_box (cs := [v0, v1, v2, v3, v4, v5]) rfl rfl rfl rfl (fun b101 => ?_)
  refine W_alloc (cs := [.slice none 0 0, .slice none 0 0]) rfl rfl Proofs.Try.zeroValue77 rfl (fun b102 => ?_)
  refine W_end ?_
  refine E_then ?_
  refine C_seq ?_
  refine C_region ?_
  refine W_loadAgg rfl rfl Proofs.Try.isAgg29 Proofs.Try.sizeOf29 rfl (own_all (List.mem_cons_of_mem _ (List.mem_cons_self ..))) rfl ?_
  obtain ⟨r103, hc104, hm⟩ := bind_some hm
  refine W_call Proofs.Try.call59 rfl rfl rfl (fun w ht => by have h := m_station_Buses_c (hm := hc104) h0 h1 h2 h3 h4 h5 ht; exact h) ?_
  rintro _ _ _ ⟨rfl, v105, xs106, rfl, rfl, h107⟩
  have h107 := h107 H
  refine W_build (css := [[v105]]) (zs := [.slice none 0 0, .slice none 0 0]) (out := [v105, .slice none 0 0]) (places := [(0, 1), (1, 1)]) rfl rfl rfl ⟨(Rw.cells h107), trivial⟩ Proofs.Try.zeroValue77 rfl Proofs.Try.runUnderlying77 (fun w => by kernel_rfl) rfl ?_
  refine W_alloc (cs := [.slice none 0 0, .slice none 0 0]) rfl rfl Proofs.Try.zeroValue77 rfl (fun b108 => ?_)
  refine W_store (cs := [v105, .slice none 0 0]) (out := [v105, .slice none 0 0]) rfl Proofs.Try.sizeOf77 rfl rfl rfl rfl rfl (all_cons (Rw.one h107) (all_cons rfl all_nil)) (over_all rfl) ?_
  refine W_end ?_
  refine E_then ?_
  refine C_seq ?_
  refine C_region ?_
  refine W_assign rfl rfl rfl ?_
  refine W_end ?_
  refine E_then ?_
  refine C_seq ?_
  refine C_seq ?_
  refine C_region ?_
  refine W_field (o := 0) rfl rfl Proofs.Try.runUnderlying77 rfl Proofs.Try.sizeOf30 rfl rfl rfl ?_
  refine W_load rfl rfl Proofs.Try.isAgg30 rfl (own_at (List.mem_cons_self ..) rfl) ?_
  refine W_lenO (List.mem_cons_of_mem _ (List.mem_cons_self ..)) rfl rfl Proofs.Try.runUnderlying30 rfl ?_
  refine W_move rfl rfl rfl ?_
  refine W_end ?_
  refine E_then ?_
  refine C_block ?_
  refine C_rowMax (List.mem_cons_of_mem _ (List.mem_cons_self ..)) (fun hmx121 => ?_)
  refine C_keep (L' := [(1, .pointer (some ⟨b101, 0, none⟩)), (2, .pointer (some ⟨b102, 0, none⟩)), (3, .pointer (some ⟨b108, 0, none⟩)), (4, .int .i64 (0)), (14, v105), (15, .int .i64 ((r103.length : Int))), (16, .int .i64 (((0 : Nat) : Int)))]) ⟨rfl, rfl, rfl, rfl, rfl, rfl, rfl, trivial⟩ (List.Perm.refl _) ?_
  refine C_loop (fun n H' M' L' => ∃ (k109 : Nat) (zs123' : List Int), ∃ n114 : Int, (r103).drop k109 = zs123' ∧ zs123'.length = n ∧ forI (fun k y s117 n => m_topology_Get_b1 k y s117 n) (fun s117 => forI (fun k y s216 n => m_topology_Get_b2 p0_n r103 k y s216 n) (fun s216 => (m_graph_Components s117 s216).bind fun r260 => some (S_api_Topology.mk r103 r260.1)) 0 p0_n.Branches ([] : List S_A2_Int)) k109 zs123' n114 = some r ∧ H.le H' ∧ .obj b108 (.cells [v105, .slice none 0 0].toArray 77 (0, 0)) :: .row v105 3 (Rep.sz Int) r103.length xs106 :: .obj b102 (.cells [.slice none 0 0, .slice none 0 0].toArray 77 (0, 0)) :: .obj b101 (.cells [v0, v1, v2, v3, v4, v5].toArray 29 (0, 0)) :: M = M' ∧ [(1, .pointer (some ⟨b101, 0, none⟩)), (2, .pointer (some ⟨b102, 0, none⟩)), (3, .pointer (some ⟨b108, 0, none⟩)), (4, .int .i64 (n114)), (14, v105), (15, .int .i64 ((r103.length : Int))), (16, .int .i64 ((k109 : Int)))] = L') _ ⟨0, _, 0, rfl, rfl, hm, (Hp.le_refl _), rfl, rfl⟩ ?_
  rintro _ H115 _ _ ⟨k109, zs123', n114, hd125, rfl, hm, hle116, rfl, rfl⟩
  refine C_seq ?_
  refine C_region ?_
  refine W_bin rfl rfl rfl rfl rfl ?_
  refine W_end (E_then ?_)
  refine C_seq ?_
  refine C_cond (b := decide ((k109 : Int) < (r103.length : Int))) rfl (fun hb127 => ?_) (fun hb127 => ?_)
  · obtain ⟨y122, zs123, rfl, hy124, hd126⟩ := rng_t hd125 hb127
    have hm : m_topology_Get_b1 k109 y122 n114 (forI (fun k y s117 n => m_topology_Get_b1 k y s117 n) (fun s117 => forI (fun k y s216 n => m_topology_Get_b2 p0_n r103 k y s216 n) (fun s216 => (m_graph_Components s117 s216).bind fun r260 => some (S_api_Topology.mk r103 r260.1)) 0 p0_n.Branches ([] : List S_A2_Int)) (k109 + 1) zs123) = some r := hm
    generalize hn119 : forI (fun k y s117 n => m_topology_Get_b1 k y s117 n) (fun s117 => forI (fun k y s216 n => m_topology_Get_b2 p0_n r103 k y s216 n) (fun s216 => (m_graph_Components s117 s216).bind fun r260 => some (S_api_Topology.mk r103 r260.1)) 0 p0_n.Branches ([] : List S_A2_Int)) (k109 + 1) zs123 = nx118 at hm
    unfold m_topology_Get_b1 at hm
    refine C_skip (E_then ?_)
    refine C_seq ?_
    refine C_block ?_
    refine C_seq ?_
    refine C_region ?_
    refine W_indexO (List.mem_cons_of_mem _ (List.mem_cons_self ..)) rfl rfl Proofs.Try.runUnderlying30 Proofs.Try.sizeOf3 rfl rfl (Int.natCast_nonneg _) (List.getElem?_eq_some_iff.1 hy124).1 ?_
    obtain ⟨_, rfl, hg128⟩ := (h107).elem hy124
    refine W_load rfl rfl Proofs.Try.isAgg3 rfl (row_one0 (List.mem_cons_of_mem _ (List.mem_cons_self ..)) hg128 rfl) ?_
    refine W_assign rfl rfl rfl ?_
    refine W_end ?_
    refine E_then ?_
    refine C_region ?_
    refine W_move rfl rfl rfl ?_
    refine W_move rfl rfl rfl ?_
    refine W_bin rfl rfl rfl rfl rfl ?_
    refine W_max rfl rfl rfl rfl ?_
    refine W_assign rfl rfl rfl ?_
    refine W_end ?_
    refine E_normal_block ?_
    refine E_then ?_
    refine C_region ?_
    refine W_bin rfl rfl rfl rfl rfl ?_
    refine W_move rfl rfl rfl ?_
    refine W_end ?_
    exact E_keepJ (E_back (Nat.lt_succ_self _) ⟨k109 + 1, zs123, max n114 (IntKind.i64.wrap (y122 + 1)), hd126, rfl, (by rw [hn119]; exact hm), hle116, rfl, rfl⟩) (List.Perm.refl _) ⟨rfl, rfl, rfl, rfl, rfl, rfl, (congrArg (fun z => some (Value.int .i64 z)) (i64_succ hy124 hmx121)), trivial⟩
  · obtain rfl := rng_f hd125 hb127
    have hm : (forI (fun k y s216 n => m_topology_Get_b2 p0_n r103 k y s216 n) (fun s216 => (m_graph_Components n114 s216).bind fun r260 => some (S_api_Topology.mk r103 r260.1)) 0 p0_n.Branches ([] : List S_A2_Int)) = some r := hm
    refine C_exit (E_exit_then ?_)
    refine E_exit_then ?_
    refine E_exit_hit ?_
    refine E_then ?_
    refine C_seq ?_
    refine C_region ?_
    refine W_assign rfl rfl rfl ?_
    refine W_end ?_
    refine E_then ?_
    refine C_seq ?_
    refine C_seq ?_
    refine C_region ?_
    refine W_field (o := 2) rfl rfl Proofs.Try.runUnderlying29 rfl Proofs.Try.sizeOf24 rfl rfl rfl ?_
    refine W_load rfl rfl Proofs.Try.isAgg24 rfl (own_at (List.mem_cons_of_mem _ (List.mem_cons_of_mem _ (List.mem_cons_of_mem _ (List.mem_cons_self ..)))) rfl) ?_
    refine W_lenR rfl rfl Proofs.Try.runUnderlying24 rfl (h2.mono hle116) ?_
    refine W_move rfl rfl rfl ?_
    refine W_end ?_
    refine E_then ?_
    refine C_block ?_
    refine C_nilRow 118 (Rep.sz S_A2_Int) ?_
    refine C_keep (L' := [(1, .pointer (some ⟨b101, 0, none⟩)), (2, .pointer (some ⟨b102, 0, none⟩)), (3, .pointer (some ⟨b108, 0, none⟩)), (4, .int .i64 (n114)), (7, (.slice none 0 0)), (26, v2), (27, .int .i64 ((p0_n.Branches.length : Int))), (28, .int .i64 (((0 : Nat) : Int)))]) ⟨rfl, rfl, rfl, rfl, rfl, rfl, rfl, rfl, trivial⟩ (List.Perm.refl _) ?_
    refine C_loop (fun n H' M' L' => ∃ (k129 : Nat) (zs221' : List S_api_Branch), ∃ l212 : List S_A2_Int, ∃ v210 : Value, ∃ xs211 : List Value, (p0_n.Branches).drop k129 = zs221' ∧ zs221'.length = n ∧ forI (fun k y s216 n => m_topology_Get_b2 p0_n r103 k y s216 n) (fun s216 => (m_graph_Components n114 s216).bind fun r260 => some (S_api_Topology.mk r103 r260.1)) k129 zs221' l212 = some r ∧ Rw H' v210 xs211 l212 ∧ H115.le H' ∧ .row v210 118 (Rep.sz S_A2_Int) l212.length xs211 :: .obj b108 (.cells [v105, .slice none 0 0].toArray 77 (0, 0)) :: .row v105 3 (Rep.sz Int) r103.length xs106 :: .obj b102 (.cells [.slice none 0 0, .slice none 0 0].toArray 77 (0, 0)) :: .obj b101 (.cells [v0, v1, v2, v3, v4, v5].toArray 29 (0, 0)) :: M = M' ∧ [(1, .pointer (some ⟨b101, 0, none⟩)), (2, .pointer (some ⟨b102, 0, none⟩)), (3, .pointer (some ⟨b108, 0, none⟩)), (4, .int .i64 (n114)), (7, v210), (26, v2), (27, .int .i64 ((p0_n.Branches.length : Int))), (28, .int .i64 ((k129 : Int)))] = L') _ ⟨0, _, ([] : List S_A2_Int), (.slice none 0 0), ([]), rfl, rfl, hm, Rw.nil, (Hp.le_refl _), rfl, rfl⟩ ?_
    rintro _ H214 _ _ ⟨k129, zs221', l212, v210, xs211, hd223, rfl, hm, hr213, hle215, rfl, rfl⟩
    refine C_seq ?_
    refine C_region ?_
    refine W_bin rfl rfl rfl rfl rfl ?_
    refine W_end (E_then ?_)
    refine C_seq ?_
    refine C_cond (b := decide ((k129 : Int) < (p0_n.Branches.length : Int))) rfl (fun hb225 => ?_) (fun hb225 => ?_)
    · obtain ⟨y220, zs221, rfl, hy222, hd224⟩ := rng_t hd223 hb225
      have hm : m_topology_Get_b2 p0_n r103 k129 y220 l212 (forI (fun k y s216 n => m_topology_Get_b2 p0_n r103 k y s216 n) (fun s216 => (m_graph_Components n114 s216).bind fun r260 => some (S_api_Topology.mk r103 r260.1)) (k129 + 1) zs221) = some r := hm
      generalize hn218 : forI (fun k y s216 n => m_topology_Get_b2 p0_n r103 k y s216 n) (fun s216 => (m_graph_Components n114 s216).bind fun r260 => some (S_api_Topology.mk r103 r260.1)) (k129 + 1) zs221 = nx217 at hm
      unfold m_topology_Get_b2 at hm
      refine C_skip (E_then ?_)
      refine C_seq ?_
      refine C_block ?_
      refine C_seq ?_
      refine C_region ?_
      obtain ⟨_, ⟨rfl⟩, hc226⟩ := (h2).elem hy222
      refine W_indexS rfl rfl Proofs.Try.runUnderlying24 Proofs.Try.sizeOf47 rfl ((h2.mono hle116).mono hle215) rfl (Int.natCast_nonneg _) hy222 ?_
      refine W_loadAgg rfl rfl Proofs.Try.isAgg47 Proofs.Try.sizeOf47 rfl ((hc226.mono hle116).mono hle215).at rfl ?_
      refine W_alloc (cs := [.string (⟨#[]⟩), .string (⟨#[]⟩), .string (⟨#[]⟩), .int .i64 (0), .int .i64 (0), .int .i64 (0), .int .i64 (0), .int .i64 (0), .int .i64 (0)]) rfl rfl Proofs.Try.zeroValue47 rfl (fun b227 => ?_)
      refine W_store (cs := [.string (y220.Name), .string (y220.From), .string (y220.To), .int .i64 (y220.X), .int .i64 (y220.Tap), .int .i64 (y220.Shift), .int .i64 (y220.Limit), .int .i64 (y220.Short), .int .i64 (y220.Hold)]) (out := [.string (y220.Name), .string (y220.From), .string (y220.To), .int .i64 (y220.X), .int .i64 (y220.Tap), .int .i64 (y220.Shift), .int .i64 (y220.Limit), .int .i64 (y220.Short), .int .i64 (y220.Hold)]) rfl Proofs.Try.sizeOf47 rfl rfl rfl rfl rfl (all_cons rfl (all_cons rfl (all_cons rfl (all_cons rfl (all_cons rfl (all_cons rfl (all_cons rfl (all_cons rfl (all_cons rfl all_nil))))))))) (over_all rfl) ?_
      refine W_end ?_
      refine E_then ?_
      obtain ⟨r228, hc229, hm⟩ := bind_some hm
      obtain ⟨y230, h231, he232, hm⟩ := idx_some hm
      obtain ⟨_, rfl, hg233⟩ := (h107).elem he232
      obtain ⟨r234, hc235, hm⟩ := bind_some hm
      obtain ⟨y236, h237, he238, hm⟩ := idx_some hm
      obtain ⟨_, rfl, hg239⟩ := (h107).elem he238
      refine C_region_tok0 21 (phiT [(fun H rs v => [] = rs ∧ v210 = v), (fun H rs v => [] = rs ∧ .pointer (some ⟨b108, 0, none⟩) = v), (fun H rs v => [] = rs ∧ v105 = v), (fun H rs v => [] = rs ∧ .pointer (some ⟨b101, 0, none⟩) = v), (fun H rs v => [] = rs ∧ v0 = v), (fun H rs v => [] = rs ∧ .pointer (some ⟨b227, 1, none⟩) = v), (fun H rs v => [] = rs ∧ .string (y220.From) = v), (fun H rs v => [] = rs ∧ .int .i64 (r228) = v), (fun H rs v => [] = rs ∧ .pointer (some ((Value.base (v105)).add ((r228 : Int).toNat * Rep.sz Int))) = v), (fun H rs v => [] = rs ∧ .int .i64 (y230) = v), (fun H rs v => [] = rs ∧ .pointer (some ⟨b108, 0, none⟩) = v), (fun H rs v => [] = rs ∧ v105 = v), (fun H rs v => [] = rs ∧ .pointer (some ⟨b101, 0, none⟩) = v), (fun H rs v => [] = rs ∧ v0 = v), (fun H rs v => [] = rs ∧ .pointer (some ⟨b227, 2, none⟩) = v), (fun H rs v => [] = rs ∧ .string (y220.To) = v), (fun H rs v => [] = rs ∧ .int .i64 (r234) = v), (fun H rs v => [] = rs ∧ .pointer (some ((Value.base (v105)).add ((r234 : Int).toNat * Rep.sz Int))) = v), (fun H rs v => [] = rs ∧ .int .i64 (y236) = v), (fun H rs v => [] = rs ∧ .agg [.int .i64 (y230), .int .i64 (y236)].toArray = v), (fun H rs v => ∃ v248 : Value, [] = rs ∧ v248 = v ∧ RdS H v248 ([(S_A2_Int.mk y230 y236)]) ∧ Value.cap' v248 = ([(S_A2_Int.mk y230 y236)]).length)]) [[], [], [], [], [], [], [], [], [], [], [], [], [], [], [], [], [], [], [], [], []] [[], [], [], [], [], [], [], [], [], [], [], [], [], [], [], [], [], [], [], [], []] [] [0, 1, 2, 3, 4, 5, 6, 7, 8, 9, 10, 11, 12, 13, 14, 15, 16, 17, 18, 19, 20] Facts.mixed (by kernel_rfl) rfl rfl rfl (by kernel_rfl) (phiT_mono ⟨eq_monoT _ _, eq_monoT _ _, eq_monoT _ _, eq_monoT _ _, eq_monoT _ _, eq_monoT _ _, eq_monoT _ _, eq_monoT _ _, eq_monoT _ _, eq_monoT _ _, eq_monoT _ _, eq_monoT _ _, eq_monoT _ _, eq_monoT _ _, eq_monoT _ _, eq_monoT _ _, eq_monoT _ _, eq_monoT _ _, eq_monoT _ _, eq_monoT _ _, (by rintro H1 H2 rs v hle ⟨v248, rfl, rfl, h252, hc253⟩; exact ⟨v248, rfl, rfl, (h252.mono hle), (hc253)⟩), trivial⟩) ⟨?_, ?_, ?_, ?_, ?_, ?_, ?_, ?_, ?_, ?_, ?_, ?_, ?_, ?_, ?_, ?_, ?_, ?_, ?_, ?_, ?_, trivial⟩ ?_
      · intro HX hX X Rest hR
        intro hU
        refine W_move rfl rfl rfl ?_
        exact W_end (OneT_end [] (Hp.le_refl _) ⟨rfl, rfl⟩)
      · intro HX hX X Rest hR
        intro hU
        refine W_field (o := 0) rfl rfl Proofs.Try.runUnderlying77 rfl Proofs.Try.sizeOf30 rfl rfl rfl ?_
        exact W_end (OneT_end [] (Hp.le_refl _) ⟨rfl, rfl⟩)
      · intro HX hX X Rest hR
        rintro _ _ ⟨rfl, rfl⟩
        intro hU
        refine W_load rfl rfl Proofs.Try.isAgg30 rfl (own_at (hR _ (List.mem_cons_of_mem _ (List.mem_cons_of_mem _ (List.mem_cons_self ..)))) rfl) ?_
        exact W_end (OneT_end [] (Hp.le_refl _) ⟨rfl, rfl⟩)
      · intro HX hX X Rest hR
        intro hU
        refine W_field (o := 0) rfl rfl Proofs.Try.runUnderlying29 rfl Proofs.Try.sizeOf22 rfl rfl rfl ?_
        exact W_end (OneT_end [] (Hp.le_refl _) ⟨rfl, rfl⟩)
      · intro HX hX X Rest hR
        rintro _ _ ⟨rfl, rfl⟩
        intro hU
        refine W_load rfl rfl Proofs.Try.isAgg22 rfl (own_at (hR _ (List.mem_cons_of_mem _ (List.mem_cons_of_mem _ (List.mem_cons_of_mem _ (List.mem_cons_of_mem _ (List.mem_cons_of_mem _ (List.mem_cons_self ..))))))) rfl) ?_
        exact W_end (OneT_end [] (Hp.le_refl _) ⟨rfl, rfl⟩)
      · intro HX hX X Rest hR
        intro hU
        refine W_field (o := 1) rfl rfl Proofs.Try.runUnderlying47 rfl Proofs.Try.sizeOf9 rfl rfl rfl ?_
        exact W_end (OneT_end [] (Hp.le_refl _) ⟨rfl, rfl⟩)
      · intro HX hX X Rest hR
        rintro _ _ ⟨rfl, rfl⟩
        intro hU
        refine W_load rfl rfl Proofs.Try.isAgg9 rfl (own_at (hR _ (List.mem_cons_self ..)) rfl) ?_
        exact W_end (OneT_end [] (Hp.le_refl _) ⟨rfl, rfl⟩)
      · intro HX hX X Rest hR
        rintro _ _ ⟨rfl, rfl⟩
        rintro _ _ ⟨rfl, rfl⟩
        intro hU
        refine W_call Proofs.Try.call50 rfl rfl rfl (fun w ht => by have h := m_slices_Index_string_string_c (hm := hc229) (((h0.mono hle116).mono hle215).mono hX) ht; exact h) ?_
        rintro _ _ _ ⟨rfl, rfl, rfl⟩
        exact W_end (OneT_end [] (Hp.le_refl _) ⟨rfl, rfl⟩)
      · intro HX hX X Rest hR
        rintro _ _ ⟨rfl, rfl⟩
        rintro _ _ ⟨rfl, rfl⟩
        intro hU
        refine W_indexO (hR _ (List.mem_cons_of_mem _ (List.mem_cons_of_mem _ (List.mem_cons_of_mem _ (List.mem_cons_self ..))))) rfl rfl Proofs.Try.runUnderlying30 Proofs.Try.sizeOf3 rfl rfl h231 (List.getElem?_eq_some_iff.1 he232).1 ?_
        exact W_end (OneT_end [] (Hp.le_refl _) ⟨rfl, rfl⟩)
      · intro HX hX X Rest hR
        rintro _ _ ⟨rfl, rfl⟩
        intro hU
        refine W_load rfl rfl Proofs.Try.isAgg3 rfl (row_one0 (hR _ (List.mem_cons_of_mem _ (List.mem_cons_of_mem _ (List.mem_cons_of_mem _ (List.mem_cons_self ..))))) hg233 rfl) ?_
        exact W_end (OneT_end [] (Hp.le_refl _) ⟨rfl, rfl⟩)
      · intro HX hX X Rest hR
        intro hU
        refine W_field (o := 0) rfl rfl Proofs.Try.runUnderlying77 rfl Proofs.Try.sizeOf30 rfl rfl rfl ?_
        exact W_end (OneT_end [] (Hp.le_refl _) ⟨rfl, rfl⟩)
      · intro HX hX X Rest hR
        rintro _ _ ⟨rfl, rfl⟩
        intro hU
        refine W_load rfl rfl Proofs.Try.isAgg30 rfl (own_at (hR _ (List.mem_cons_of_mem _ (List.mem_cons_of_mem _ (List.mem_cons_self ..)))) rfl) ?_
        exact W_end (OneT_end [] (Hp.le_refl _) ⟨rfl, rfl⟩)
      · intro HX hX X Rest hR
        intro hU
        refine W_field (o := 0) rfl rfl Proofs.Try.runUnderlying29 rfl Proofs.Try.sizeOf22 rfl rfl rfl ?_
        exact W_end (OneT_end [] (Hp.le_refl _) ⟨rfl, rfl⟩)
      · intro HX hX X Rest hR
        rintro _ _ ⟨rfl, rfl⟩
        intro hU
        refine W_load rfl rfl Proofs.Try.isAgg22 rfl (own_at (hR _ (List.mem_cons_of_mem _ (List.mem_cons_of_mem _ (List.mem_cons_of_mem _ (List.mem_cons_of_mem _ (List.mem_cons_of_mem _ (List.mem_cons_self ..))))))) rfl) ?_
        exact W_end (OneT_end [] (Hp.le_refl _) ⟨rfl, rfl⟩)
      · intro HX hX X Rest hR
        intro hU
        refine W_field (o := 2) rfl rfl Proofs.Try.runUnderlying47 rfl Proofs.Try.sizeOf9 rfl rfl rfl ?_
        exact W_end (OneT_end [] (Hp.le_refl _) ⟨rfl, rfl⟩)
      · intro HX hX X Rest hR
        rintro _ _ ⟨rfl, rfl⟩
        intro hU
        refine W_load rfl rfl Proofs.Try.isAgg9 rfl (own_at (hR _ (List.mem_cons_self ..)) rfl) ?_
        exact W_end (OneT_end [] (Hp.le_refl _) ⟨rfl, rfl⟩)
      · intro HX hX X Rest hR
        rintro _ _ ⟨rfl, rfl⟩
        rintro _ _ ⟨rfl, rfl⟩
        rintro _ _ ⟨rfl, rfl⟩
        intro hU
        refine W_call Proofs.Try.call50 rfl rfl rfl (fun w ht => by have h := m_slices_Index_string_string_c (hm := hc235) (((h0.mono hle116).mono hle215).mono hX) ht; exact h) ?_
        rintro _ _ _ ⟨rfl, rfl, rfl⟩
        exact W_end (OneT_end [] (Hp.le_refl _) ⟨rfl, rfl⟩)
      · intro HX hX X Rest hR
        rintro _ _ ⟨rfl, rfl⟩
        rintro _ _ ⟨rfl, rfl⟩
        intro hU
        refine W_indexO (hR _ (List.mem_cons_of_mem _ (List.mem_cons_of_mem _ (List.mem_cons_of_mem _ (List.mem_cons_self ..))))) rfl rfl Proofs.Try.runUnderlying30 Proofs.Try.sizeOf3 rfl rfl h237 (List.getElem?_eq_some_iff.1 he238).1 ?_
        exact W_end (OneT_end [] (Hp.le_refl _) ⟨rfl, rfl⟩)
      · intro HX hX X Rest hR
        rintro _ _ ⟨rfl, rfl⟩
        intro hU
        refine W_load rfl rfl Proofs.Try.isAgg3 rfl (row_one0 (hR _ (List.mem_cons_of_mem _ (List.mem_cons_of_mem _ (List.mem_cons_of_mem _ (List.mem_cons_self ..))))) hg239 rfl) ?_
        exact W_end (OneT_end [] (Hp.le_refl _) ⟨rfl, rfl⟩)
      · intro HX hX X Rest hR
        rintro _ _ ⟨rfl, rfl⟩
        rintro _ _ ⟨rfl, rfl⟩
        intro hU
        refine W_buildArr (css := [[.int .i64 (y230)], [.int .i64 (y236)]]) (zs := [.int .i64 (0), .int .i64 (0)]) (out := [.int .i64 (y230), .int .i64 (y236)]) (places := [(0, 1), (1, 1)]) rfl rfl rfl ⟨rfl, rfl, trivial⟩ Proofs.Try.zeroValue118 rfl Proofs.Try.runUnderlying118 Proofs.Try.sizeOf3 rfl rfl ?_
        exact W_end (OneT_end [] (Hp.le_refl _) ⟨rfl, rfl⟩)
      · intro HX hX X Rest hR
        rintro _ _ ⟨rfl, rfl⟩
        intro hU
        refine W_buildSlice (α := S_A2_Int) (css := [[.int .i64 (y230), .int .i64 (y236)]]) (zs := [.int .i64 (0), .int .i64 (0)]) (out := [.int .i64 (y230), .int .i64 (y236)]) (ys := [(S_A2_Int.mk y230 y236)]) rfl rfl rfl ⟨rfl, trivial⟩ Proofs.Try.runUnderlying117 Proofs.Try.sizeOf118 rfl Proofs.Try.zeroValue118 (by kernel_rfl) rfl rfl rfl rfl ⟨[.int .i64 (y230), .int .i64 (y236)], [], rfl, rfl, rfl⟩ rfl ?_
        intro b247 v248 H249 hv250 hle251 h252
        have hc253 : Value.cap' v248 = ([(S_A2_Int.mk y230 y236)]).length := by rw [hv250]; rfl
        exact W_end (OneT_end [] hle251 ⟨v248, rfl, rfl, (h252), (hc253)⟩)
      intro H254 hle255
      rintro _ _ ⟨rfl, rfl⟩
      rintro _ _ ⟨rfl, rfl⟩
      rintro _ _ ⟨rfl, rfl⟩
      rintro _ _ ⟨rfl, rfl⟩
      rintro _ _ ⟨rfl, rfl⟩
      rintro _ _ ⟨rfl, rfl⟩
      rintro _ _ ⟨rfl, rfl⟩
      rintro _ _ ⟨rfl, rfl⟩
      rintro _ _ ⟨rfl, rfl⟩
      rintro _ _ ⟨rfl, rfl⟩
      rintro _ _ ⟨rfl, rfl⟩
      rintro _ _ ⟨rfl, rfl⟩
      rintro _ _ ⟨rfl, rfl⟩
      rintro _ _ ⟨rfl, rfl⟩
      rintro _ _ ⟨rfl, rfl⟩
      rintro _ _ ⟨rfl, rfl⟩
      rintro _ _ ⟨rfl, rfl⟩
      rintro _ _ ⟨rfl, rfl⟩
      rintro _ _ ⟨rfl, rfl⟩
      rintro _ _ ⟨rfl, rfl⟩
      rintro _ _ ⟨v248, rfl, rfl, h252, hc253⟩
      obtain ⟨hz256, hm⟩ := need_some hm
      refine W_perm (List.Perm.swap _ _ _) ?_
      refine W_appendO (α := S_A2_Int) (l := l212) (ys := [(S_A2_Int.mk y230 y236)]) rfl rfl Proofs.Try.underlying117 ⟨_, rfl, rfl, rfl, rfl⟩ rfl rfl rfl rfl rfl (hr213.mono hle255) h252 hz256 ?_
      intro v257 xs258 hr259
      refine W_assign rfl rfl rfl ?_
      refine W_end ?_
      refine E_normal_block ?_
      refine E_then ?_
      refine C_region ?_
      refine W_bin rfl rfl rfl rfl rfl ?_
      refine W_move rfl rfl rfl ?_
      refine W_end ?_
      refine E_drop (List.Sublist.cons_cons _ (List.Sublist.cons _ (List.Sublist.refl _))) ?_
      exact E_keepJ (E_back (Nat.lt_succ_self _) ⟨k129 + 1, zs221, (l212 ++ ([(S_A2_Int.mk y230 y236)])), v257, xs258, hd224, rfl, (by rw [hn218]; exact hm), hr259, (Hp.le_trans hle215 hle255), rfl, rfl⟩) (List.Perm.refl _) ⟨rfl, rfl, rfl, rfl, rfl, rfl, rfl, (congrArg (fun z => some (Value.int .i64 z)) (i64_succ hy222 (((h2.mono hle116).mono hle215)).lenMax)), trivial⟩
    · obtain rfl := rng_f hd223 hb225
      have hm : ((m_graph_Components n114 l212).bind fun r260 => some (S_api_Topology.mk r103 r260.1)) = some r := hm
      refine C_exit (E_exit_then ?_)
      refine E_exit_then ?_
      refine E_exit_hit ?_
      refine E_then ?_
      refine C_seq ?_
      refine C_region ?_
      refine W_move rfl rfl rfl ?_
      refine W_move rfl rfl rfl ?_
      obtain ⟨r260, hc261, hm⟩ := bind_some hm
      refine W_call Proofs.Try.call60 rfl rfl rfl (fun w ht => by obtain ⟨H0_, hl0_, ht0_, hr0_, bk0_⟩ := ht.lendRow hr213 rfl; have h := m_graph_Components_c (hm := hc261) hr0_ ht0_; exact lend_back bk0_ (h)) ?_
      rintro _ _ _ ⟨rfl, ⟨_, rfl, v262, xs263, rfl, rfl, h264⟩⟩
      have h264 := h264 H214
      refine W_move rfl rfl rfl ?_
      refine W_extract rfl rfl rfl rfl ?_
      refine W_extract rfl rfl rfl rfl ?_
      refine W_field (o := 1) rfl rfl Proofs.Try.runUnderlying77 rfl Proofs.Try.sizeOf30 rfl rfl rfl ?_
      refine W_perm (List.Perm.trans (List.Perm.cons _ (List.Perm.swap _ _ _)) (List.Perm.swap _ _ _)) ?_
      refine W_store (cs := [v262]) (out := [v105, v262]) rfl Proofs.Try.sizeOf30 rfl rfl (Rw.cells h264) rfl rfl (all_cons (Rw.one h264) all_nil) rfl ?_
      refine W_end ?_
      refine E_then ?_
      refine C_seq ?_
      refine C_region ?_
      refine W_loadAgg rfl rfl Proofs.Try.isAgg77 Proofs.Try.sizeOf77 rfl (own_all (List.mem_cons_self ..)) rfl ?_
      refine W_perm (List.Perm.trans (List.Perm.cons _ (List.Perm.cons _ (List.Perm.cons _ (List.Perm.swap _ _ _)))) (List.Perm.trans (List.Perm.cons _ (List.Perm.cons _ (List.Perm.swap _ _ _))) (List.Perm.trans (List.Perm.cons _ (List.Perm.swap _ _ _)) (List.Perm.swap _ _ _)))) ?_
      refine W_store (cs := [v105, v262]) (out := [v105, v262]) rfl Proofs.Try.sizeOf77 rfl rfl rfl rfl rfl (all_cons (Rw.one ((h107.mono hle116).mono hle215)) (all_cons (Rw.one h264) all_nil)) (over_all rfl) ?_
      refine W_end ?_
      refine E_then ?_
      refine C_ret ?_
      obtain rfl := Option.some.inj hm
      exact endC1 (Hp.le_trans hle116 hle215) rfl (ResV.agg rfl Proofs.Try.isAgg77 Proofs.Try.sizeOf77 (List.mem_cons_self ..) rfl) (List.Sublist.cons _ (List.Sublist.cons _ (List.Sublist.cons _ (List.Sublist.cons_cons _ (List.Sublist.cons_cons _ (List.Sublist.cons _ (List.Sublist.refl _))))))) (List.Perm.swap _ _ _) ⟨rfl, v105, xs106, v262, xs263, rfl, rfl, (((h107.mono hle116).mono hle215)).toF, (h264).toF⟩

theorem m_islands_Number_c {B : Nat} {w0 w : World} {H : Hp} {M : List Res} {p0_n : S_api_Network} {v0 : Value} {v1 : Value} {v2 : Value} {v3 : Value} {v4 : Value} {v5 : Value} {r : Int} (hm : m_islands_Number p0_n = some r) (h0 : RdS H v0 p0_n.Nodes) (h1 : RdS H v1 p0_n.Switches) (h2 : RdS H v2 p0_n.Branches) (h3 : RdS H v3 p0_n.Gens) (h4 : RdS H v4 p0_n.Loads) (h5 : RdS H v5 p0_n.Stores) (ht : St B w0 H (M) w) :
    Calls Proofs.Try.prog 43 [.agg [v0, v1, v2, v3, v4, v5].toArray].toArray w (Ret B w0 fun H' M' v => H = H' ∧ M = M' ∧ .int .i64 (r) = v) := by
  unfold m_islands_Number at hm
  refine enter Proofs.Try.func43 rfl rfl rfl ht ?_
  refine C_seq ?_
  refine C_region ?_
  refine W_box (cs := [v0, v1, v2, v3, v4, v5]) rfl rfl rfl rfl (fun b101 => ?_)
  refine W_assign rfl rfl rfl ?_
  refine W_end ?_
  refine E_then ?_
  refine C_seq ?_
  refine C_region ?_
  refine W_assign rfl rfl rfl ?_
  refine W_end ?_
  refine E_then ?_
  refine C_seq ?_
  refine C_seq ?_
  refine C_region ?_
  refine W_loadAgg rfl rfl Proofs.Try.isAgg29 Proofs.Try.sizeOf29 rfl (own_all (List.mem_cons_self ..)) rfl ?_
  obtain ⟨r102, hc103, hm⟩ := bind_some hm
  refine W_call Proofs.Try.call31 rfl rfl rfl (fun w ht => by have h := m_topology_Get_c (hm := hc103) h0 h1 h2 h3 h4 h5 ht; exact h) ?_
  rintro _ _ _ ⟨rfl, v104, xs105, v107, xs108, rfl, rfl, h106, h109⟩
  have h106 := h106 H
  have h109 := h109 H
  refine W_fieldV rfl rfl Proofs.Try.runUnderlying77 rfl Proofs.Try.isAgg30 rfl rfl ?_
  refine W_lenO (List.mem_cons_of_mem _ (List.mem_cons_self ..)) rfl rfl Proofs.Try.runUnderlying30 rfl ?_
  refine W_move rfl rfl rfl ?_
  refine W_end ?_
  refine E_then ?_
  refine C_block ?_
  refine C_rowMax (List.mem_cons_of_mem _ (List.mem_cons_self ..)) (fun hmx122 => ?_)
  refine C_drop (List.Sublist.cons _ (List.Sublist.cons_cons _ (List.Sublist.cons _ (List.Sublist.refl _)))) ?_
  refine C_keep (L' := [(3, .int .i64 (0)), (8, v107), (9, .int .i64 ((r102.Island.length : Int))), (10, .int .i64 (((0 : Nat) : Int)))]) ⟨rfl, rfl, rfl, rfl, trivial⟩ (List.Perm.refl _) ?_
  refine C_loop (fun n H' M' L' => ∃ (k110 : Nat) (zs124' : List Int), ∃ n115 : Int, (r102.Island).drop k110 = zs124' ∧ zs124'.length = n ∧ forI (fun k y s118 n => m_islands_Number_b1 k y s118 n) (fun s118 => some s118) k110 zs124' n115 = some r ∧ H.le H' ∧ .row v107 3 (Rep.sz Int) r102.Island.length xs108 :: M = M' ∧ [(3, .int .i64 (n115)), (8, v107), (9, .int .i64 ((r102.Island.length : Int))), (10, .int .i64 ((k110 : Int)))] = L') _ ⟨0, _, 0, rfl, rfl, hm, (Hp.le_refl _), rfl, rfl⟩ ?_
  rintro _ H116 _ _ ⟨k110, zs124', n115, hd126, rfl, hm, hle117, rfl, rfl⟩
  refine C_seq ?_
  refine C_region ?_
  refine W_bin rfl rfl rfl rfl rfl ?_
  refine W_end (E_then ?_)
  refine C_seq ?_
  refine C_cond (b := decide ((k110 : Int) < (r102.Island.length : Int))) rfl (fun hb128 => ?_) (fun hb128 => ?_)
  · obtain ⟨y123, zs124, rfl, hy125, hd127⟩ := rng_t hd126 hb128
    have hm : m_islands_Number_b1 k110 y123 n115 (forI (fun k y s118 n => m_islands_Number_b1 k y s118 n) (fun s118 => some s118) (k110 + 1) zs124) = some r := hm
    generalize hn120 : forI (fun k y s118 n => m_islands_Number_b1 k y s118 n) (fun s118 => some s118) (k110 + 1) zs124 = nx119 at hm
    unfold m_islands_Number_b1 at hm
    refine C_skip (E_then ?_)
    refine C_seq ?_
    refine C_block ?_
    refine C_seq ?_
    refine C_region ?_
    refine W_indexO (List.mem_cons_self ..) rfl rfl Proofs.Try.runUnderlying30 Proofs.Try.sizeOf3 rfl rfl (Int.natCast_nonneg _) (List.getElem?_eq_some_iff.1 hy125).1 ?_
    obtain ⟨_, rfl, hg129⟩ := (h109).elem hy125
    refine W_load rfl rfl Proofs.Try.isAgg3 rfl (row_one0 (List.mem_cons_self ..) hg129 rfl) ?_
    refine W_assign rfl rfl rfl ?_
    refine W_end ?_
    refine E_then ?_
    refine C_region ?_
    refine W_move rfl rfl rfl ?_
    refine W_move rfl rfl rfl ?_
    refine W_bin rfl rfl rfl rfl rfl ?_
    refine W_max rfl rfl rfl rfl ?_
    refine W_assign rfl rfl rfl ?_
    refine W_end ?_
    refine E_normal_block ?_
    refine E_then ?_
    refine C_region ?_
    refine W_bin rfl rfl rfl rfl rfl ?_
    refine W_move rfl rfl rfl ?_
    refine W_end ?_
    exact E_keepJ (E_back (Nat.lt_succ_self _) ⟨k110 + 1, zs124, max n115 (IntKind.i64.wrap (y123 + 1)), hd127, rfl, (by rw [hn120]; exact hm), hle117, rfl, rfl⟩) (List.Perm.refl _) ⟨rfl, rfl, rfl, (congrArg (fun z => some (Value.int .i64 z)) (i64_succ hy125 hmx122)), trivial⟩
  · obtain rfl := rng_f hd126 hb128
    have hm : (some n115) = some r := hm
    refine C_exit (E_exit_then ?_)
    refine E_exit_then ?_
    refine E_exit_hit ?_
    refine E_then ?_
    refine C_seq ?_
    refine C_region ?_
    refine W_move rfl rfl rfl ?_
    refine W_assign rfl rfl rfl ?_
    refine W_end ?_
    refine E_then ?_
    refine C_ret ?_
    obtain rfl := Option.some.inj hm
    refine E_drop (List.Sublist.cons _ (List.Sublist.refl _)) ?_
    refine E_weak hle117 ?_
    exact end1 rfl rfl ⟨rfl, rfl, rfl⟩

theorem m_islands_place_c {B : Nat} {w0 w : World} {H : Hp} {M : List Res} {p0_n : S_api_Network} {p1_t : S_api_Topology} {node : ByteArray} {v0 : Value} {v1 : Value} {v2 : Value} {v3 : Value} {v4 : Value} {v5 : Value} {v6 : Value} {v7 : Value} {r : Int} (hm : m_islands_place p0_n p1_t node = some r) (h0 : RdS H v0 p0_n.Nodes) (h1 : RdS H v1 p0_n.Switches) (h2 : RdS H v2 p0_n.Branches) (h3 : RdS H v3 p0_n.Gens) (h4 : RdS H v4 p0_n.Loads) (h5 : RdS H v5 p0_n.Stores) (h6 : RdS H v6 p1_t.Bus) (h7 : RdS H v7 p1_t.Island) (ht : St B w0 H (M) w) :
    Calls Proofs.Try.prog 33 [.agg [v0, v1, v2, v3, v4, v5].toArray, .agg [v6, v7].toArray, .string (node)].toArray w (Ret B w0 fun H' M' v => H = H' ∧ M = M' ∧ .int .i64 (r) = v) := by
  unfold m_islands_place at hm
  refine enter Proofs.Try.func33 rfl rfl rfl ht ?_
  refine C_seq ?_
  refine C_region ?_
  refine W_box (cs := [v0, v1, v2, v3, v4, v5]) rfl rfl rfl rfl (fun b101 => ?_)
  refine W_box (cs := [v6, v7]) rfl rfl rfl rfl (fun b102 => ?_)
  refine W_assign rfl rfl rfl ?_
  refine W_end ?_
  refine E_then ?_
  refine C_seq ?_
  obtain ⟨r103, hc104, hm⟩ := bind_some hm
  obtain ⟨y105, h106, he107, hm⟩ := idx_some hm
  obtain ⟨_, rfl, hc108⟩ := (h6).elem he107
  refine C_region_tok0 10 (phiT [(fun H rs v => [] = rs ∧ .pointer (some ⟨b102, 1, none⟩) = v), (fun H rs v => [] = rs ∧ v7 = v), (fun H rs v => [] = rs ∧ .pointer (some ⟨b102, 0, none⟩) = v), (fun H rs v => [] = rs ∧ v6 = v), (fun H rs v => [] = rs ∧ .pointer (some ⟨b101, 0, none⟩) = v), (fun H rs v => [] = rs ∧ v0 = v), (fun H rs v => [] = rs ∧ .string (node) = v), (fun H rs v => [] = rs ∧ .int .i64 (r103) = v), (fun H rs v => [] = rs ∧ .pointer (some ((Value.base (v6)).add ((r103 : Int).toNat * 1))) = v), (fun H rs v => [] = rs ∧ .int .i64 (y105) = v)]) [[], [], [], [], [], [], [], [], [], []] [[], [], [], [], [], [], [], [], [], []] [] [0, 1, 2, 3, 4, 5, 6, 7, 8, 9] Facts.mixed (by kernel_rfl) rfl rfl rfl (by kernel_rfl) (phiT_mono ⟨eq_monoT _ _, eq_monoT _ _, eq_monoT _ _, eq_monoT _ _, eq_monoT _ _, eq_monoT _ _, eq_monoT _ _, eq_monoT _ _, eq_monoT _ _, eq_monoT _ _, trivial⟩) ⟨?_, ?_, ?_, ?_, ?_, ?_, ?_, ?_, ?_, ?_, trivial⟩ ?_
  · intro HX hX X Rest hR
    intro hU
    refine W_field (o := 1) rfl rfl Proofs.Try.runUnderlying77 rfl Proofs.Try.sizeOf30 rfl rfl rfl ?_
    exact W_end (OneT_end [] (Hp.le_refl _) ⟨rfl, rfl⟩)
  · intro HX hX X Rest hR
    rintro _ _ ⟨rfl, rfl⟩
    intro hU
    refine W_load rfl rfl Proofs.Try.isAgg30 rfl (own_at (hR _ (List.mem_cons_self ..)) rfl) ?_
    exact W_end (OneT_end [] (Hp.le_refl _) ⟨rfl, rfl⟩)
  · intro HX hX X Rest hR
    intro hU
    refine W_field (o := 0) rfl rfl Proofs.Try.runUnderlying77 rfl Proofs.Try.sizeOf30 rfl rfl rfl ?_
    exact W_end (OneT_end [] (Hp.le_refl _) ⟨rfl, rfl⟩)
  · intro HX hX X Rest hR
    rintro _ _ ⟨rfl, rfl⟩
    intro hU
    refine W_load rfl rfl Proofs.Try.isAgg30 rfl (own_at (hR _ (List.mem_cons_self ..)) rfl) ?_
    exact W_end (OneT_end [] (Hp.le_refl _) ⟨rfl, rfl⟩)
  · intro HX hX X Rest hR
    intro hU
    refine W_field (o := 0) rfl rfl Proofs.Try.runUnderlying29 rfl Proofs.Try.sizeOf22 rfl rfl rfl ?_
    exact W_end (OneT_end [] (Hp.le_refl _) ⟨rfl, rfl⟩)
  · intro HX hX X Rest hR
    rintro _ _ ⟨rfl, rfl⟩
    intro hU
    refine W_load rfl rfl Proofs.Try.isAgg22 rfl (own_at (hR _ (List.mem_cons_of_mem _ (List.mem_cons_self ..))) rfl) ?_
    exact W_end (OneT_end [] (Hp.le_refl _) ⟨rfl, rfl⟩)
  · intro HX hX X Rest hR
    intro hU
    refine W_move rfl rfl rfl ?_
    exact W_end (OneT_end [] (Hp.le_refl _) ⟨rfl, rfl⟩)
  · intro HX hX X Rest hR
    rintro _ _ ⟨rfl, rfl⟩
    rintro _ _ ⟨rfl, rfl⟩
    intro hU
    refine W_call Proofs.Try.call50 rfl rfl rfl (fun w ht => by have h := m_slices_Index_string_string_c (hm := hc104) (h0.mono hX) ht; exact h) ?_
    rintro _ _ _ ⟨rfl, rfl, rfl⟩
    exact W_end (OneT_end [] (Hp.le_refl _) ⟨rfl, rfl⟩)
  · intro HX hX X Rest hR
    rintro _ _ ⟨rfl, rfl⟩
    rintro _ _ ⟨rfl, rfl⟩
    intro hU
    refine W_indexS rfl rfl Proofs.Try.runUnderlying30 Proofs.Try.sizeOf3 rfl (h6.mono hX) rfl h106 he107 ?_
    exact W_end (OneT_end [] (Hp.le_refl _) ⟨rfl, rfl⟩)
  · intro HX hX X Rest hR
    rintro _ _ ⟨rfl, rfl⟩
    intro hU
    refine W_load rfl rfl Proofs.Try.isAgg3 rfl (HCells.one (hc108.mono hX) 0 rfl).at ?_
    exact W_end (OneT_end [] (Hp.le_refl _) ⟨rfl, rfl⟩)
  intro H109 hle110
  rintro _ _ ⟨rfl, rfl⟩
  rintro _ _ ⟨rfl, rfl⟩
  rintro _ _ ⟨rfl, rfl⟩
  rintro _ _ ⟨rfl, rfl⟩
  rintro _ _ ⟨rfl, rfl⟩
  rintro _ _ ⟨rfl, rfl⟩
  rintro _ _ ⟨rfl, rfl⟩
  rintro _ _ ⟨rfl, rfl⟩
  rintro _ _ ⟨rfl, rfl⟩
  rintro _ _ ⟨rfl, rfl⟩
  obtain ⟨y111, h112, he113, hm⟩ := idx_some hm
  obtain ⟨_, rfl, hc114⟩ := (h7).elem he113
  refine W_indexS rfl rfl Proofs.Try.runUnderlying30 Proofs.Try.sizeOf3 rfl (h7.mono hle110) rfl h112 he113 ?_
  refine W_load rfl rfl Proofs.Try.isAgg3 rfl (HCells.one (hc114.mono hle110) 0 rfl).at ?_
  refine W_assign rfl rfl rfl ?_
  refine W_end ?_
  refine E_then ?_
  refine C_ret ?_
  obtain rfl := Option.some.inj hm
  refine E_drop (List.Sublist.cons _ (List.Sublist.cons _ (List.Sublist.refl _))) ?_
  refine E_weak hle110 ?_
  exact end1 rfl rfl ⟨rfl, rfl, rfl⟩

theorem m_islands_sums_c {B : Nat} {w0 w : World} {H : Hp} {M : List Res} {p0_n : S_api_Network} {v0 : Value} {v1 : Value} {v2 : Value} {v3 : Value} {v4 : Value} {v5 : Value} {r : (List S_api_IslandsSum)} (hm : m_islands_sums p0_n = some r) (h0 : RdS H v0 p0_n.Nodes) (h1 : RdS H v1 p0_n.Switches) (h2 : RdS H v2 p0_n.Branches) (h3 : RdS H v3 p0_n.Gens) (h4 : RdS H v4 p0_n.Loads) (h5 : RdS H v5 p0_n.Stores) (ht : St B w0 H (M) w) :
    Calls Proofs.Try.prog 32 [.agg [v0, v1, v2, v3, v4, v5].toArray].toArray w (Ret B w0 fun H' M' v => H = H' ∧ ∃ qv0 : Value, ∃ qxs0 : List Value, .row qv0 41 (Rep.sz S_api_IslandsSum) r.length qxs0 :: M = M' ∧ qv0 = v ∧ RwF qv0 qxs0 r) := by
  unfold m_islands_sums at hm
  refine enter Proofs.Try.func32 rfl rfl rfl ht ?_
  refine C_seq ?_
  refine C_region ?_
  refine W_box (cs := [v0, v1, v2, v3, v4, v5]) rfl rfl rfl rfl (fun b101 => ?_)
  refine W_assign rfl rfl rfl ?_
  refine W_end ?_
  refine E_then ?_
  refine C_seq ?_
  refine C_region ?_
  refine W_loadAgg rfl rfl Proofs.Try.isAgg29 Proofs.Try.sizeOf29 rfl (own_all (List.mem_cons_self ..)) rfl ?_
  obtain ⟨r102, hc103, hm⟩ := bind_some hm
  refine W_call Proofs.Try.call31 rfl rfl rfl (fun w ht => by have h := m_topology_Get_c (hm := hc103) h0 h1 h2 h3 h4 h5 ht; exact h) ?_
  rintro _ _ _ ⟨rfl, v104, xs105, v107, xs108, rfl, rfl, h106, h109⟩
  have h106 := h106 H
  have h109 := h109 H
  refine W_alloc (cs := [.slice none 0 0, .slice none 0 0]) rfl rfl Proofs.Try.zeroValue77 rfl (fun b110 => ?_)
  refine W_store (cs := [v104, v107]) (out := [v104, v107]) rfl Proofs.Try.sizeOf77 rfl rfl rfl rfl rfl (all_cons (Rw.one h106) (all_cons (Rw.one h109) all_nil)) (over_all rfl) ?_
  refine W_end ?_
  refine E_then ?_
  refine C_seq ?_
  refine C_region ?_
  refine W_loadAgg rfl rfl Proofs.Try.isAgg29 Proofs.Try.sizeOf29 rfl (own_all (List.mem_cons_of_mem _ (List.mem_cons_of_mem _ (List.mem_cons_of_mem _ (List.mem_cons_self ..))))) rfl ?_
  obtain ⟨r111, hc112, hm⟩ := bind_some hm
  refine W_call Proofs.Try.call43 rfl rfl rfl (fun w ht => by have h := m_islands_Number_c (hm := hc112) h0 h1 h2 h3 h4 h5 ht; exact h) ?_
  rintro _ _ _ ⟨rfl, rfl, rfl⟩
  obtain ⟨hz113, hm⟩ := need_some hm
  refine W_makeSlice (α := S_api_IslandsSum) (zs := [.int .i64 (0), .int .i64 (0), .int .i64 (0)]) (ze := (S_api_IslandsSum.mk 0 0 0)) rfl rfl Proofs.Try.underlying34 ⟨_, rfl, rfl, rfl, rfl⟩ rfl rfl rfl rfl rfl rfl hz113.1 hz113.2 ?_
  intro v114 xs115 hr116
  refine W_assign rfl rfl rfl ?_
  refine W_end ?_
  refine E_then ?_
  refine C_seq ?_
  refine C_seq ?_
  refine C_region ?_
  refine W_field (o := 3) rfl rfl Proofs.Try.runUnderlying29 rfl Proofs.Try.sizeOf25 rfl rfl rfl ?_
  refine W_load rfl rfl Proofs.Try.isAgg25 rfl (own_at (List.mem_cons_of_mem _ (List.mem_cons_of_mem _ (List.mem_cons_of_mem _ (List.mem_cons_of_mem _ (List.mem_cons_self ..))))) rfl) ?_
  refine W_lenR rfl rfl Proofs.Try.runUnderlying25 rfl h3 ?_
  refine W_move rfl rfl rfl ?_
  refine W_end ?_
  refine E_then ?_
  refine C_block ?_
  refine C_keep (L' := [(1, .pointer (some ⟨b101, 0, none⟩)), (3, .pointer (some ⟨b110, 0, none⟩)), (4, v114), (16, v3), (17, .int .i64 ((p0_n.Gens.length : Int))), (18, .int .i64 (((0 : Nat) : Int)))]) ⟨rfl, rfl, rfl, rfl, rfl, rfl, trivial⟩ (List.Perm.refl _) ?_
  refine C_loop (fun n H' M' L' => ∃ (k117 : Nat) (zs181' : List S_api_Gen), ∃ l172 : List S_api_IslandsSum, ∃ xs171 : List Value, (p0_n.Gens).drop k117 = zs181' ∧ zs181'.length = n ∧ forI (fun k y s176 n => m_islands_sums_b1 p0_n r102 k y s176 n) (fun s176 => forI (fun k y s261 n => m_islands_sums_b2 p0_n r102 k y s261 n) (fun s261 => some s261) 0 p0_n.Loads s176) k117 zs181' l172 = some r ∧ Rw H' v114 xs171 l172 ∧ H.le H' ∧ .row v114 41 (Rep.sz S_api_IslandsSum) l172.length xs171 :: .obj b110 (.cells [v104, v107].toArray 77 (0, 0)) :: .row v104 3 (Rep.sz Int) r102.Bus.length xs105 :: .row v107 3 (Rep.sz Int) r102.Island.length xs108 :: .obj b101 (.cells [v0, v1, v2, v3, v4, v5].toArray 29 (0, 0)) :: M = M' ∧ [(1, .pointer (some ⟨b101, 0, none⟩)), (3, .pointer (some ⟨b110, 0, none⟩)), (4, v114), (16, v3), (17, .int .i64 ((p0_n.Gens.length : Int))), (18, .int .i64 ((k117 : Int)))] = L') _ ⟨0, _, (List.replicate (r111 : Int).toNat ((S_api_IslandsSum.mk 0 0 0) : S_api_IslandsSum)), xs115, rfl, rfl, hm, hr116, (Hp.le_refl _), rfl, rfl⟩ ?_
  rintro _ H174 _ _ ⟨k117, zs181', l172, xs171, hd183, rfl, hm, hr173, hle175, rfl, rfl⟩
  refine C_seq ?_
  refine C_region ?_
  refine W_bin rfl rfl rfl rfl rfl ?_
  refine W_end (E_then ?_)
  refine C_seq ?_
  refine C_cond (b := decide ((k117 : Int) < (p0_n.Gens.length : Int))) rfl (fun hb185 => ?_) (fun hb185 => ?_)
  · obtain ⟨y180, zs181, rfl, hy182, hd184⟩ := rng_t hd183 hb185
    have hm : m_islands_sums_b1 p0_n r102 k117 y180 l172 (forI (fun k y s176 n => m_islands_sums_b1 p0_n r102 k y s176 n) (fun s176 => forI (fun k y s261 n => m_islands_sums_b2 p0_n r102 k y s261 n) (fun s261 => some s261) 0 p0_n.Loads s176) (k117 + 1) zs181) = some r := hm
    generalize hn178 : forI (fun k y s176 n => m_islands_sums_b1 p0_n r102 k y s176 n) (fun s176 => forI (fun k y s261 n => m_islands_sums_b2 p0_n r102 k y s261 n) (fun s261 => some s261) 0 p0_n.Loads s176) (k117 + 1) zs181 = nx177 at hm
    unfold m_islands_sums_b1 at hm
    refine C_skip (E_then ?_)
    refine C_seq ?_
    refine C_block ?_
    refine C_seq ?_
    refine C_region ?_
    obtain ⟨_, ⟨rfl⟩, hc186⟩ := (h3).elem hy182
    refine W_indexS rfl rfl Proofs.Try.runUnderlying25 Proofs.Try.sizeOf39 rfl (h3.mono hle175) rfl (Int.natCast_nonneg _) hy182 ?_
    refine W_loadAgg rfl rfl Proofs.Try.isAgg39 Proofs.Try.sizeOf39 rfl (hc186.mono hle175).at rfl ?_
    refine W_alloc (cs := [.string (⟨#[]⟩), .string (⟨#[]⟩), .int .i64 (0), .int .i64 (0), .int .i64 (0)]) rfl rfl Proofs.Try.zeroValue39 rfl (fun b187 => ?_)
    refine W_store (cs := [.string (y180.Name), .string (y180.Node), .int .i64 (y180.Least), .int .i64 (y180.Most), .int .i64 (y180.Ramp)]) (out := [.string (y180.Name), .string (y180.Node), .int .i64 (y180.Least), .int .i64 (y180.Most), .int .i64 (y180.Ramp)]) rfl Proofs.Try.sizeOf39 rfl rfl rfl rfl rfl (all_cons rfl (all_cons rfl (all_cons rfl (all_cons rfl (all_cons rfl all_nil))))) (over_all rfl) ?_
    refine W_end ?_
    refine E_then ?_
    refine C_seq ?_
    refine C_region ?_
    refine W_move rfl rfl rfl ?_
    refine W_loadAgg rfl rfl Proofs.Try.isAgg29 Proofs.Try.sizeOf29 rfl (own_all (List.mem_cons_of_mem _ (List.mem_cons_of_mem _ (List.mem_cons_of_mem _ (List.mem_cons_of_mem _ (List.mem_cons_of_mem _ (List.mem_cons_self ..))))))) rfl ?_
    refine W_loadAgg rfl rfl Proofs.Try.isAgg77 Proofs.Try.sizeOf77 rfl (own_all (List.mem_cons_of_mem _ (List.mem_cons_of_mem _ (List.mem_cons_self ..)))) rfl ?_
    refine W_field (o := 1) rfl rfl Proofs.Try.runUnderlying39 rfl Proofs.Try.sizeOf9 rfl rfl rfl ?_
    refine W_load rfl rfl Proofs.Try.isAgg9 rfl (own_at (List.mem_cons_self ..) rfl) ?_
    refine W_perm (List.Perm.trans (List.Perm.cons _ (List.Perm.cons _ (List.Perm.swap _ _ _))) (List.Perm.trans (List.Perm.cons _ (List.Perm.swap _ _ _)) (List.Perm.trans (List.Perm.swap _ _ _) (List.Perm.trans (List.Perm.cons _ (List.Perm.cons _ (List.Perm.cons _ (List.Perm.swap _ _ _)))) (List.Perm.trans (List.Perm.cons _ (List.Perm.cons _ (List.Perm.swap _ _ _))) (List.Perm.cons _ (List.Perm.swap _ _ _))))))) ?_
    obtain ⟨r188, hc189, hm⟩ := bind_some hm
    refine W_call Proofs.Try.call33 rfl rfl rfl (fun w ht => by obtain ⟨H0_, hl0_, ht0_, hr0_, bk0_⟩ := ht.lendRow (h106.mono hle175) rfl; obtain ⟨H1_, hl1_, ht1_, hr1_, bk1_⟩ := ht0_.lendRow ((h109.mono hle175).mono hl0_) rfl; have h := m_islands_place_c (hm := hc189) (((h0.mono hle175).mono hl0_).mono hl1_) (((h1.mono hle175).mono hl0_).mono hl1_) (((h2.mono hle175).mono hl0_).mono hl1_) (((h3.mono hle175).mono hl0_).mono hl1_) (((h4.mono hle175).mono hl0_).mono hl1_) (((h5.mono hle175).mono hl0_).mono hl1_) (hr0_.mono hl1_) hr1_ ht1_; exact lend_back bk0_ (lend_back bk1_ (h))) ?_
    rintro _ _ _ ⟨rfl, ⟨_, rfl, ⟨_, rfl, rfl, rfl⟩⟩⟩
    obtain ⟨y190, h191, he192, hm⟩ := idx_some hm
    refine W_indexO (List.mem_cons_of_mem _ (List.mem_cons_of_mem _ (List.mem_cons_of_mem _ (List.mem_cons_self ..)))) rfl rfl Proofs.Try.runUnderlying34 Proofs.Try.sizeOf41 rfl rfl h191 (List.getElem?_eq_some_iff.1 he192).1 ?_
    obtain ⟨_, rfl, hg193⟩ := (hr173).elem he192
    refine W_assign rfl rfl rfl ?_
    refine W_end ?_
    refine E_then ?_
    refine C_seq ?_
    refine C_region_tok0 6 (phiT [(fun H rs v => [] = rs ∧ .pointer (some ((Value.base (v114)).add ((r188 : Int).toNat * Rep.sz S_api_IslandsSum))) = v), (fun H rs v => [] = rs ∧ .pointer (some ((Value.base (v114)).add ((r188 : Int).toNat * Rep.sz S_api_IslandsSum))) = v), (fun H rs v => [] = rs ∧ .pointer (some ((Value.base (v114)).add ((r188 : Int).toNat * Rep.sz S_api_IslandsSum))) = v), (fun H rs v => [] = rs ∧ .int .i64 (y190.Least) = v), (fun H rs v => [] = rs ∧ .pointer (some ⟨b187, 2, none⟩) = v), (fun H rs v => [] = rs ∧ .int .i64 (y180.Least) = v)]) [[], [], [], [], [], []] [[], [], [], [], [], []] [] [0, 1, 2, 3, 4, 5] Facts.mixed (by kernel_rfl) rfl rfl rfl (by kernel_rfl) (phiT_mono ⟨eq_monoT _ _, eq_monoT _ _, eq_monoT _ _, eq_monoT _ _, eq_monoT _ _, eq_monoT _ _, trivial⟩) ⟨?_, ?_, ?_, ?_, ?_, ?_, trivial⟩ ?_
    · intro HX hX X Rest hR
      intro hU
      refine W_move rfl rfl rfl ?_
      exact W_end (OneT_end [] (Hp.le_refl _) ⟨rfl, rfl⟩)
    · intro HX hX X Rest hR
      rintro _ _ ⟨rfl, rfl⟩
      intro hU
      refine W_nilCheck rfl rfl rfl ?_
      exact W_end (OneT_end [] (Hp.le_refl _) ⟨rfl, rfl⟩)
    · intro HX hX X Rest hR
      rintro _ _ ⟨rfl, rfl⟩
      intro hU
      refine W_field (o := 0) rfl rfl Proofs.Try.runUnderlying41 rfl Proofs.Try.sizeOf3 rfl rfl rfl ?_
      exact W_end (OneT_end [] (Hp.le_refl _) ⟨rfl, rfl⟩)
    · intro HX hX X Rest hR
      rintro _ _ ⟨rfl, rfl⟩
      intro hU
      refine W_load rfl rfl Proofs.Try.isAgg3 rfl (row_one0 (hR _ (List.mem_cons_of_mem _ (List.mem_cons_of_mem _ (List.mem_cons_of_mem _ (List.mem_cons_self ..))))) hg193 rfl) ?_
      exact W_end (OneT_end [] (Hp.le_refl _) ⟨rfl, rfl⟩)
    · intro HX hX X Rest hR
      intro hU
      refine W_field (o := 2) rfl rfl Proofs.Try.runUnderlying39 rfl Proofs.Try.sizeOf3 rfl rfl rfl ?_
      exact W_end (OneT_end [] (Hp.le_refl _) ⟨rfl, rfl⟩)
    · intro HX hX X Rest hR
      rintro _ _ ⟨rfl, rfl⟩
      intro hU
      refine W_load rfl rfl Proofs.Try.isAgg3 rfl (own_at (hR _ (List.mem_cons_of_mem _ (List.mem_cons_of_mem _ (List.mem_cons_self ..)))) rfl) ?_
      exact W_end (OneT_end [] (Hp.le_refl _) ⟨rfl, rfl⟩)
    intro H194 hle195
    rintro _ _ ⟨rfl, rfl⟩
    rintro _ _ ⟨rfl, rfl⟩
    rintro _ _ ⟨rfl, rfl⟩
    rintro _ _ ⟨rfl, rfl⟩
    rintro _ _ ⟨rfl, rfl⟩
    rintro _ _ ⟨rfl, rfl⟩
    refine W_bin rfl rfl rfl rfl rfl ?_
    refine W_nilCheck rfl rfl rfl ?_
    refine W_field (o := 0) rfl rfl Proofs.Try.runUnderlying41 rfl Proofs.Try.sizeOf3 rfl rfl rfl ?_
    refine W_perm (List.Perm.trans (List.Perm.cons _ (List.Perm.cons _ (List.Perm.swap _ _ _))) (List.Perm.trans (List.Perm.cons _ (List.Perm.swap _ _ _)) (List.Perm.swap _ _ _))) ?_
    obtain ⟨hr196, he197, hg198⟩ := Rw.put (cs := [.int .i64 (IntKind.i64.wrap (y190.Least + y180.Least))]) (o := 0) (c := [.int .i64 (y190.Least), .int .i64 (y190.Most), .int .i64 (y190.Demand)]) (out := [.int .i64 (IntKind.i64.wrap (y190.Least + y180.Least)), .int .i64 (y190.Most), .int .i64 (y190.Demand)]) (e2 := (S_api_IslandsSum.mk (IntKind.i64.wrap (y190.Least + y180.Least)) y190.Most y190.Demand)) (hr173.mono hle195) he192 rfl hg193 rfl rfl rfl
    refine W_storeO2 (i := (r188 : Int).toNat * Rep.sz S_api_IslandsSum + 0) (cs := [.int .i64 (IntKind.i64.wrap (y190.Least + y180.Least))]) rfl Proofs.Try.sizeOf3 rfl (row_ad0 _ _) rfl rfl rfl (Rw.room (hr173.mono hle195) he192 rfl) rfl (all_cons rfl all_nil) (n' := (l172.set ((r188 : Int).toNat) (S_api_IslandsSum.mk (IntKind.i64.wrap (y190.Least + y180.Least)) y190.Most y190.Demand)).length) List.length_set ?_
    generalize over xs171 ((r188 : Int).toNat * Rep.sz S_api_IslandsSum + 0) [.int .i64 (IntKind.i64.wrap (y190.Least + y180.Least))] = xs199 at hr196 hg198 ⊢
    refine W_end ?_
    refine E_then ?_
    refine C_region_tok0 6 (phiT [(fun H rs v => [] = rs ∧ .pointer (some ((Value.base (v114)).add ((r188 : Int).toNat * Rep.sz S_api_IslandsSum))) = v), (fun H rs v => [] = rs ∧ .pointer (some ((Value.base (v114)).add ((r188 : Int).toNat * Rep.sz S_api_IslandsSum))) = v), (fun H rs v => [] = rs ∧ .pointer (some (((Value.base (v114)).add ((r188 : Int).toNat * Rep.sz S_api_IslandsSum)).add 1)) = v), (fun H rs v => [] = rs ∧ .int .i64 (y190.Most) = v), (fun H rs v => [] = rs ∧ .pointer (some ⟨b187, 3, none⟩) = v), (fun H rs v => [] = rs ∧ .int .i64 (y180.Most) = v)]) [[], [], [], [], [], []] [[], [], [], [], [], []] [] [0, 1, 2, 3, 4, 5] Facts.mixed (by kernel_rfl) rfl rfl rfl (by kernel_rfl) (phiT_mono ⟨eq_monoT _ _, eq_monoT _ _, eq_monoT _ _, eq_monoT _ _, eq_monoT _ _, eq_monoT _ _, trivial⟩) ⟨?_, ?_, ?_, ?_, ?_, ?_, trivial⟩ ?_
    · intro HX hX X Rest hR
      intro hU
      refine W_move rfl rfl rfl ?_
      exact W_end (OneT_end [] (Hp.le_refl _) ⟨rfl, rfl⟩)
    · intro HX hX X Rest hR
      rintro _ _ ⟨rfl, rfl⟩
      intro hU
      refine W_nilCheck rfl rfl rfl ?_
      exact W_end (OneT_end [] (Hp.le_refl _) ⟨rfl, rfl⟩)
    · intro HX hX X Rest hR
      rintro _ _ ⟨rfl, rfl⟩
      intro hU
      refine W_field (o := 1) rfl rfl Proofs.Try.runUnderlying41 rfl Proofs.Try.sizeOf3 rfl rfl rfl ?_
      exact W_end (OneT_end [] (Hp.le_refl _) ⟨rfl, rfl⟩)
    · intro HX hX X Rest hR
      rintro _ _ ⟨rfl, rfl⟩
      intro hU
      refine W_load rfl rfl Proofs.Try.isAgg3 rfl (row_one (o := 1) (hR _ (List.mem_cons_self ..)) hg198 rfl) ?_
      exact W_end (OneT_end [] (Hp.le_refl _) ⟨rfl, rfl⟩)
    · intro HX hX X Rest hR
      intro hU
      refine W_field (o := 3) rfl rfl Proofs.Try.runUnderlying39 rfl Proofs.Try.sizeOf3 rfl rfl rfl ?_
      exact W_end (OneT_end [] (Hp.le_refl _) ⟨rfl, rfl⟩)
    · intro HX hX X Rest hR
      rintro _ _ ⟨rfl, rfl⟩
      intro hU
      refine W_load rfl rfl Proofs.Try.isAgg3 rfl (own_at (hR _ (List.mem_cons_of_mem _ (List.mem_cons_of_mem _ (List.mem_cons_of_mem _ (List.mem_cons_self ..))))) rfl) ?_
      exact W_end (OneT_end [] (Hp.le_refl _) ⟨rfl, rfl⟩)
    intro H200 hle201
    rintro _ _ ⟨rfl, rfl⟩
    rintro _ _ ⟨rfl, rfl⟩
    rintro _ _ ⟨rfl, rfl⟩
    rintro _ _ ⟨rfl, rfl⟩
    rintro _ _ ⟨rfl, rfl⟩
    rintro _ _ ⟨rfl, rfl⟩
    refine W_bin rfl rfl rfl rfl rfl ?_
    refine W_nilCheck rfl rfl rfl ?_
    refine W_field (o := 1) rfl rfl Proofs.Try.runUnderlying41 rfl Proofs.Try.sizeOf3 rfl rfl rfl ?_
    obtain ⟨hr202, he203, hg204⟩ := Rw.put (cs := [.int .i64 (IntKind.i64.wrap (y190.Most + y180.Most))]) (o := 1) (c := [.int .i64 (IntKind.i64.wrap (y190.Least + y180.Least)), .int .i64 (y190.Most), .int .i64 (y190.Demand)]) (out := [.int .i64 (IntKind.i64.wrap (y190.Least + y180.Least)), .int .i64 (IntKind.i64.wrap (y190.Most + y180.Most)), .int .i64 (y190.Demand)]) (e2 := (S_api_IslandsSum.mk (IntKind.i64.wrap (y190.Least + y180.Least)) (IntKind.i64.wrap (y190.Most + y180.Most)) y190.Demand)) (hr196.mono hle201) he197 rfl hg198 rfl rfl rfl
    refine W_storeO2 (i := (r188 : Int).toNat * Rep.sz S_api_IslandsSum + 1) (cs := [.int .i64 (IntKind.i64.wrap (y190.Most + y180.Most))]) rfl Proofs.Try.sizeOf3 rfl (row_ad _ _ _) rfl rfl rfl (Rw.room (hr196.mono hle201) he197 rfl) rfl (all_cons rfl all_nil) (n' := ((l172.set ((r188 : Int).toNat) (S_api_IslandsSum.mk (IntKind.i64.wrap (y190.Least + y180.Least)) y190.Most y190.Demand)).set ((r188 : Int).toNat) (S_api_IslandsSum.mk (IntKind.i64.wrap (y190.Least + y180.Least)) (IntKind.i64.wrap (y190.Most + y180.Most)) y190.Demand)).length) List.length_set ?_
    generalize over xs199 ((r188 : Int).toNat * Rep.sz S_api_IslandsSum + 1) [.int .i64 (IntKind.i64.wrap (y190.Most + y180.Most))] = xs205 at hr202 hg204 ⊢
    refine W_end ?_
    refine E_normal_block ?_
    refine E_then ?_
    refine C_region ?_
    refine W_bin rfl rfl rfl rfl rfl ?_
    refine W_move rfl rfl rfl ?_
    refine W_end ?_
    refine E_drop (List.Sublist.cons_cons _ (List.Sublist.cons_cons _ (List.Sublist.cons_cons _ (List.Sublist.cons _ (List.Sublist.refl _))))) ?_
    exact E_keepJ (E_back (Nat.lt_succ_self _) ⟨k117 + 1, zs181, ((l172.set ((r188 : Int).toNat) (S_api_IslandsSum.mk (IntKind.i64.wrap (y190.Least + y180.Least)) y190.Most y190.Demand)).set ((r188 : Int).toNat) (S_api_IslandsSum.mk (IntKind.i64.wrap (y190.Least + y180.Least)) (IntKind.i64.wrap (y190.Most + y180.Most)) y190.Demand)), xs205, hd184, rfl, (by rw [hn178]; exact hm), hr202, (Hp.le_trans (Hp.le_trans hle175 hle195) hle201), rfl, rfl⟩) (List.Perm.trans (List.Perm.cons _ (List.Perm.cons _ (List.Perm.swap _ _ _))) (List.Perm.cons _ (List.Perm.swap _ _ _))) ⟨rfl, rfl, rfl, rfl, rfl, (congrArg (fun z => some (Value.int .i64 z)) (i64_succ hy182 ((h3.mono hle175)).lenMax)), trivial⟩
  · obtain rfl := rng_f hd183 hb185
    have hm : (forI (fun k y s261 n => m_islands_sums_b2 p0_n r102 k y s261 n) (fun s261 => some s261) 0 p0_n.Loads l172) = some r := hm
    refine C_exit (E_exit_then ?_)
    refine E_exit_then ?_
    refine E_exit_hit ?_
    refine E_then ?_
    refine C_seq ?_
    refine C_seq ?_
    refine C_region ?_
    refine W_field (o := 4) rfl rfl Proofs.Try.runUnderlying29 rfl Proofs.Try.sizeOf26 rfl rfl rfl ?_
    refine W_load rfl rfl Proofs.Try.isAgg26 rfl (own_at (List.mem_cons_of_mem _ (List.mem_cons_of_mem _ (List.mem_cons_of_mem _ (List.mem_cons_of_mem _ (List.mem_cons_self ..))))) rfl) ?_
    refine W_lenR rfl rfl Proofs.Try.runUnderlying26 rfl (h4.mono hle175) ?_
    refine W_move rfl rfl rfl ?_
    refine W_end ?_
    refine E_then ?_
    refine C_block ?_
    refine C_keep (L' := [(1, .pointer (some ⟨b101, 0, none⟩)), (3, .pointer (some ⟨b110, 0, none⟩)), (4, v114), (49, v4), (50, .int .i64 ((p0_n.Loads.length : Int))), (51, .int .i64 (((0 : Nat) : Int)))]) ⟨rfl, rfl, rfl, rfl, rfl, rfl, trivial⟩ (List.Perm.refl _) ?_
    refine C_loop (fun n H' M' L' => ∃ (k206 : Nat) (zs266' : List S_api_Load), ∃ l257 : List S_api_IslandsSum, ∃ xs256 : List Value, (p0_n.Loads).drop k206 = zs266' ∧ zs266'.length = n ∧ forI (fun k y s261 n => m_islands_sums_b2 p0_n r102 k y s261 n) (fun s261 => some s261) k206 zs266' l257 = some r ∧ Rw H' v114 xs256 l257 ∧ H174.le H' ∧ .row v114 41 (Rep.sz S_api_IslandsSum) l257.length xs256 :: .obj b110 (.cells [v104, v107].toArray 77 (0, 0)) :: .row v104 3 (Rep.sz Int) r102.Bus.length xs105 :: .row v107 3 (Rep.sz Int) r102.Island.length xs108 :: .obj b101 (.cells [v0, v1, v2, v3, v4, v5].toArray 29 (0, 0)) :: M = M' ∧ [(1, .pointer (some ⟨b101, 0, none⟩)), (3, .pointer (some ⟨b110, 0, none⟩)), (4, v114), (49, v4), (50, .int .i64 ((p0_n.Loads.length : Int))), (51, .int .i64 ((k206 : Int)))] = L') _ ⟨0, _, l172, xs171, rfl, rfl, hm, hr173, (Hp.le_refl _), rfl, rfl⟩ ?_
    rintro _ H259 _ _ ⟨k206, zs266', l257, xs256, hd268, rfl, hm, hr258, hle260, rfl, rfl⟩
    refine C_seq ?_
    refine C_region ?_
    refine W_bin rfl rfl rfl rfl rfl ?_
    refine W_end (E_then ?_)
    refine C_seq ?_
    refine C_cond (b := decide ((k206 : Int) < (p0_n.Loads.length : Int))) rfl (fun hb270 => ?_) (fun hb270 => ?_)
    · obtain ⟨y265, zs266, rfl, hy267, hd269⟩ := rng_t hd268 hb270
      have hm : m_islands_sums_b2 p0_n r102 k206 y265 l257 (forI (fun k y s261 n => m_islands_sums_b2 p0_n r102 k y s261 n) (fun s261 => some s261) (k206 + 1) zs266) = some r := hm
      generalize hn263 : forI (fun k y s261 n => m_islands_sums_b2 p0_n r102 k y s261 n) (fun s261 => some s261) (k206 + 1) zs266 = nx262 at hm
      unfold m_islands_sums_b2 at hm
      refine C_skip (E_then ?_)
      refine C_seq ?_
      refine C_block ?_
      refine C_seq ?_
      refine C_region ?_
      obtain ⟨_, ⟨rfl⟩, hc271⟩ := (h4).elem hy267
      refine W_indexS rfl rfl Proofs.Try.runUnderlying26 Proofs.Try.sizeOf43 rfl ((h4.mono hle175).mono hle260) rfl (Int.natCast_nonneg _) hy267 ?_
      refine W_loadAgg rfl rfl Proofs.Try.isAgg43 Proofs.Try.sizeOf43 rfl ((hc271.mono hle175).mono hle260).at rfl ?_
      refine W_alloc (cs := [.string (⟨#[]⟩), .string (⟨#[]⟩), .int .i64 (0)]) rfl rfl Proofs.Try.zeroValue43 rfl (fun b272 => ?_)
      refine W_store (cs := [.string (y265.Name), .string (y265.Node), .int .i64 (y265.Demand)]) (out := [.string (y265.Name), .string (y265.Node), .int .i64 (y265.Demand)]) rfl Proofs.Try.sizeOf43 rfl rfl rfl rfl rfl (all_cons rfl (all_cons rfl (all_cons rfl all_nil))) (over_all rfl) ?_
      refine W_end ?_
      refine E_then ?_
      obtain ⟨r273, hc274, hm⟩ := bind_some hm
      obtain ⟨y275, h276, he277, hm⟩ := idx_some hm
      obtain ⟨_, rfl, hg278⟩ := (hr258).elem he277
      refine C_perm (List.Perm.trans (List.Perm.cons _ (List.Perm.cons _ (List.Perm.swap _ _ _))) (List.Perm.trans (List.Perm.cons _ (List.Perm.swap _ _ _)) (List.Perm.trans (List.Perm.swap _ _ _) (List.Perm.trans (List.Perm.cons _ (List.Perm.cons _ (List.Perm.cons _ (List.Perm.swap _ _ _)))) (List.Perm.trans (List.Perm.cons _ (List.Perm.cons _ (List.Perm.swap _ _ _))) (List.Perm.cons _ (List.Perm.swap _ _ _))))))) ?_
      refine C_as (M' := [[.row v104 3 (Rep.sz Int) r102.Bus.length xs105], [.row v107 3 (Rep.sz Int) r102.Island.length xs108]].flatten ++ (.obj b272 (.cells [.string (y265.Name), .string (y265.Node), .int .i64 (y265.Demand)].toArray 43 (0, 0)) :: .row v114 41 (Rep.sz S_api_IslandsSum) l257.length xs256 :: .obj b110 (.cells [v104, v107].toArray 77 (0, 0)) :: .obj b101 (.cells [v0, v1, v2, v3, v4, v5].toArray 29 (0, 0)) :: M)) rfl ?_
      refine C_region_tok0 11 (phiT [(fun H rs v => [] = rs ∧ v114 = v), (fun H rs v => [] = rs ∧ .agg [v0, v1, v2, v3, v4, v5].toArray = v), (fun H rs v => [] = rs ∧ .agg [v104, v107].toArray = v), (fun H rs v => [] = rs ∧ .pointer (some ⟨b272, 1, none⟩) = v), (fun H rs v => [] = rs ∧ .string (y265.Node) = v), (fun H rs v => [.row v104 3 (Rep.sz Int) r102.Bus.length xs105, .row v107 3 (Rep.sz Int) r102.Island.length xs108] = rs ∧ .int .i64 (r273) = v), (fun H rs v => [] = rs ∧ .pointer (some ((Value.base (v114)).add ((r273 : Int).toNat * Rep.sz S_api_IslandsSum))) = v), (fun H rs v => [] = rs ∧ .pointer (some (((Value.base (v114)).add ((r273 : Int).toNat * Rep.sz S_api_IslandsSum)).add 2)) = v), (fun H rs v => [] = rs ∧ .int .i64 (y275.Demand) = v), (fun H rs v => [] = rs ∧ .pointer (some ⟨b272, 2, none⟩) = v), (fun H rs v => [] = rs ∧ .int .i64 (y265.Demand) = v)]) [[], [], [], [], [], [11, 12], [], [], [], [], []] [[], [], [], [], [], [], [], [], [], [], []] [[.row v104 3 (Rep.sz Int) r102.Bus.length xs105], [.row v107 3 (Rep.sz Int) r102.Island.length xs108]] [0, 1, 2, 3, 4, 5, 6, 7, 8, 9, 10] Facts.mixed (by kernel_rfl) rfl rfl rfl (by kernel_rfl) (phiT_mono ⟨eq_monoT _ _, eq_monoT _ _, eq_monoT _ _, eq_monoT _ _, eq_monoT _ _, eq_monoT _ _, eq_monoT _ _, eq_monoT _ _, eq_monoT _ _, eq_monoT _ _, eq_monoT _ _, trivial⟩) ⟨?_, ?_, ?_, ?_, ?_, ?_, ?_, ?_, ?_, ?_, ?_, trivial⟩ ?_
      · intro HX hX X Rest hR
        intro hU
        refine W_move rfl rfl rfl ?_
        exact W_end (OneT_end [] (Hp.le_refl _) ⟨rfl, rfl⟩)
      · intro HX hX X Rest hR
        intro hU
        refine W_loadAgg rfl rfl Proofs.Try.isAgg29 Proofs.Try.sizeOf29 rfl (own_all (hR _ (List.mem_cons_of_mem _ (List.mem_cons_of_mem _ (List.mem_cons_of_mem _ (List.mem_cons_self ..)))))) rfl ?_
        exact W_end (OneT_end [] (Hp.le_refl _) ⟨rfl, rfl⟩)
      · intro HX hX X Rest hR
        intro hU
        refine W_loadAgg rfl rfl Proofs.Try.isAgg77 Proofs.Try.sizeOf77 rfl (own_all (hR _ (List.mem_cons_of_mem _ (List.mem_cons_of_mem _ (List.mem_cons_self ..))))) rfl ?_
        exact W_end (OneT_end [] (Hp.le_refl _) ⟨rfl, rfl⟩)
      · intro HX hX X Rest hR
        intro hU
        refine W_field (o := 1) rfl rfl Proofs.Try.runUnderlying43 rfl Proofs.Try.sizeOf9 rfl rfl rfl ?_
        exact W_end (OneT_end [] (Hp.le_refl _) ⟨rfl, rfl⟩)
      · intro HX hX X Rest hR
        rintro _ _ ⟨rfl, rfl⟩
        intro hU
        refine W_load rfl rfl Proofs.Try.isAgg9 rfl (own_at (hR _ (List.mem_cons_self ..)) rfl) ?_
        exact W_end (OneT_end [] (Hp.le_refl _) ⟨rfl, rfl⟩)
      · intro HX hX X Rest hR
        rintro _ _ ⟨rfl, rfl⟩
        rintro _ _ ⟨rfl, rfl⟩
        rintro _ _ ⟨rfl, rfl⟩
        intro hU
        refine W_as (M' := .row v104 3 (Rep.sz Int) r102.Bus.length xs105 :: .row v107 3 (Rep.sz Int) r102.Island.length xs108 :: Rest) rfl ?_
        refine W_call Proofs.Try.call33 rfl rfl rfl (fun w ht => by obtain ⟨H0_, hl0_, ht0_, hr0_, bk0_⟩ := ht.lendRow (((h106.mono hle175).mono hle260).mono hX) rfl; obtain ⟨H1_, hl1_, ht1_, hr1_, bk1_⟩ := ht0_.lendRow ((((h109.mono hle175).mono hle260).mono hX).mono hl0_) rfl; have h := m_islands_place_c (hm := hc274) (((((h0.mono hle175).mono hle260).mono hX).mono hl0_).mono hl1_) (((((h1.mono hle175).mono hle260).mono hX).mono hl0_).mono hl1_) (((((h2.mono hle175).mono hle260).mono hX).mono hl0_).mono hl1_) (((((h3.mono hle175).mono hle260).mono hX).mono hl0_).mono hl1_) (((((h4.mono hle175).mono hle260).mono hX).mono hl0_).mono hl1_) (((((h5.mono hle175).mono hle260).mono hX).mono hl0_).mono hl1_) (hr0_.mono hl1_) hr1_ ht1_; exact lend_back bk0_ (lend_back bk1_ (h))) ?_
        rintro _ _ _ ⟨rfl, ⟨_, rfl, ⟨_, rfl, rfl, rfl⟩⟩⟩
        exact W_end (OneT_end [.row v104 3 (Rep.sz Int) r102.Bus.length xs105, .row v107 3 (Rep.sz Int) r102.Island.length xs108] (Hp.le_refl _) ⟨rfl, rfl⟩)
      · intro HX hX X Rest hR
        rintro _ _ ⟨rfl, rfl⟩
        rintro _ _ ⟨rfl, rfl⟩
        intro hU
        refine W_indexO (hR _ (List.mem_cons_of_mem _ (List.mem_cons_self ..))) rfl rfl Proofs.Try.runUnderlying34 Proofs.Try.sizeOf41 rfl rfl h276 (List.getElem?_eq_some_iff.1 he277).1 ?_
        exact W_end (OneT_end [] (Hp.le_refl _) ⟨rfl, rfl⟩)
      · intro HX hX X Rest hR
        rintro _ _ ⟨rfl, rfl⟩
        intro hU
        refine W_field (o := 2) rfl rfl Proofs.Try.runUnderlying41 rfl Proofs.Try.sizeOf3 rfl rfl rfl ?_
        exact W_end (OneT_end [] (Hp.le_refl _) ⟨rfl, rfl⟩)
      · intro HX hX X Rest hR
        rintro _ _ ⟨rfl, rfl⟩
        intro hU
        refine W_load rfl rfl Proofs.Try.isAgg3 rfl (row_one (o := 2) (hR _ (List.mem_cons_of_mem _ (List.mem_cons_self ..))) hg278 rfl) ?_
        exact W_end (OneT_end [] (Hp.le_refl _) ⟨rfl, rfl⟩)
      · intro HX hX X Rest hR
        intro hU
        refine W_field (o := 2) rfl rfl Proofs.Try.runUnderlying43 rfl Proofs.Try.sizeOf3 rfl rfl rfl ?_
        exact W_end (OneT_end [] (Hp.le_refl _) ⟨rfl, rfl⟩)
      · intro HX hX X Rest hR
        rintro _ _ ⟨rfl, rfl⟩
        intro hU
        refine W_load rfl rfl Proofs.Try.isAgg3 rfl (own_at (hR _ (List.mem_cons_self ..)) rfl) ?_
        exact W_end (OneT_end [] (Hp.le_refl _) ⟨rfl, rfl⟩)
      intro H279 hle280
      rintro _ _ ⟨rfl, rfl⟩
      rintro _ _ ⟨rfl, rfl⟩
      rintro _ _ ⟨rfl, rfl⟩
      rintro _ _ ⟨rfl, rfl⟩
      rintro _ _ ⟨rfl, rfl⟩
      rintro _ _ ⟨rfl, rfl⟩
      rintro _ _ ⟨rfl, rfl⟩
      rintro _ _ ⟨rfl, rfl⟩
      rintro _ _ ⟨rfl, rfl⟩
      rintro _ _ ⟨rfl, rfl⟩
      rintro _ _ ⟨rfl, rfl⟩
      refine W_as (M' := .row v104 3 (Rep.sz Int) r102.Bus.length xs105 :: .row v107 3 (Rep.sz Int) r102.Island.length xs108 :: .obj b272 (.cells [.string (y265.Name), .string (y265.Node), .int .i64 (y265.Demand)].toArray 43 (0, 0)) :: .row v114 41 (Rep.sz S_api_IslandsSum) l257.length xs256 :: .obj b110 (.cells [v104, v107].toArray 77 (0, 0)) :: .obj b101 (.cells [v0, v1, v2, v3, v4, v5].toArray 29 (0, 0)) :: M) rfl ?_
      refine W_bin rfl rfl rfl rfl rfl ?_
      obtain ⟨y281, h282, he283, hm⟩ := idx_some hm
      refine W_indexO (List.mem_cons_of_mem _ (List.mem_cons_of_mem _ (List.mem_cons_of_mem _ (List.mem_cons_self ..)))) rfl rfl Proofs.Try.runUnderlying34 Proofs.Try.sizeOf41 rfl rfl h282 (List.getElem?_eq_some_iff.1 he283).1 ?_
      obtain ⟨_, rfl, hg284⟩ := (hr258).elem he283
      refine W_field (o := 2) rfl rfl Proofs.Try.runUnderlying41 rfl Proofs.Try.sizeOf3 rfl rfl rfl ?_
      refine W_perm (List.Perm.trans (List.Perm.cons _ (List.Perm.cons _ (List.Perm.swap _ _ _))) (List.Perm.trans (List.Perm.cons _ (List.Perm.swap _ _ _)) (List.Perm.swap _ _ _))) ?_
      obtain ⟨hr285, he286, hg287⟩ := Rw.put (cs := [.int .i64 (IntKind.i64.wrap (y275.Demand + y265.Demand))]) (o := 2) (c := [.int .i64 (y281.Least), .int .i64 (y281.Most), .int .i64 (y281.Demand)]) (out := [.int .i64 (y281.Least), .int .i64 (y281.Most), .int .i64 (IntKind.i64.wrap (y275.Demand + y265.Demand))]) (e2 := (S_api_IslandsSum.mk y281.Least y281.Most (IntKind.i64.wrap (y275.Demand + y265.Demand)))) (hr258.mono hle280) he283 rfl hg284 rfl rfl rfl
      refine W_storeO2 (i := (r273 : Int).toNat * Rep.sz S_api_IslandsSum + 2) (cs := [.int .i64 (IntKind.i64.wrap (y275.Demand + y265.Demand))]) rfl Proofs.Try.sizeOf3 rfl (row_ad _ _ _) rfl rfl rfl (Rw.room (hr258.mono hle280) he283 rfl) rfl (all_cons rfl all_nil) (n' := (l257.set ((r273 : Int).toNat) (S_api_IslandsSum.mk y281.Least y281.Most (IntKind.i64.wrap (y275.Demand + y265.Demand)))).length) List.length_set ?_
      generalize over xs256 ((r273 : Int).toNat * Rep.sz S_api_IslandsSum + 2) [.int .i64 (IntKind.i64.wrap (y275.Demand + y265.Demand))] = xs288 at hr285 hg287 ⊢
      refine W_end ?_
      refine E_normal_block ?_
      refine E_then ?_
      refine C_region ?_
      refine W_bin rfl rfl rfl rfl rfl ?_
      refine W_move rfl rfl rfl ?_
      refine W_end ?_
      refine E_drop (List.Sublist.cons_cons _ (List.Sublist.cons_cons _ (List.Sublist.cons_cons _ (List.Sublist.cons _ (List.Sublist.refl _))))) ?_
      exact E_keepJ (E_back (Nat.lt_succ_self _) ⟨k206 + 1, zs266, (l257.set ((r273 : Int).toNat) (S_api_IslandsSum.mk y281.Least y281.Most (IntKind.i64.wrap (y275.Demand + y265.Demand)))), xs288, hd269, rfl, (by rw [hn263]; exact hm), hr285, (Hp.le_trans hle260 hle280), rfl, rfl⟩) (List.Perm.trans (List.Perm.cons _ (List.Perm.cons _ (List.Perm.swap _ _ _))) (List.Perm.cons _ (List.Perm.swap _ _ _))) ⟨rfl, rfl, rfl, rfl, rfl, (congrArg (fun z => some (Value.int .i64 z)) (i64_succ hy267 (((h4.mono hle175).mono hle260)).lenMax)), trivial⟩
    · obtain rfl := rng_f hd268 hb270
      have hm : (some l257) = some r := hm
      refine C_exit (E_exit_then ?_)
      refine E_exit_then ?_
      refine E_exit_hit ?_
      refine E_then ?_
      refine C_seq ?_
      refine C_region ?_
      refine W_move rfl rfl rfl ?_
      refine W_assign rfl rfl rfl ?_
      refine W_end ?_
      refine E_then ?_
      refine C_ret ?_
      obtain rfl := Option.some.inj hm
      refine E_drop (List.Sublist.cons_cons _ (List.Sublist.cons _ (List.Sublist.cons _ (List.Sublist.cons _ (List.Sublist.cons _ (List.Sublist.refl _)))))) ?_
      refine E_weak (Hp.le_trans hle175 hle260) ?_
      exact end1 rfl rfl ⟨rfl, v114, xs256, rfl, rfl, (hr258).toF⟩

theorem m_islands_Share_1_c {B : Nat} {w0 w : World} {H : Hp} {M : List Res} {p0_r : Int} {r : Bool} (hm : m_islands_Share_1 p0_r = r) (ht : St B w0 H (M) w) :
    Calls Proofs.Try.prog 35 [.int .i64 (p0_r)].toArray w (Ret B w0 fun H' M' v => H = H' ∧ M = M' ∧ .bool (r) = v) := by
  unfold m_islands_Share_1 at hm
  refine enter Proofs.Try.func35 rfl rfl rfl ht ?_
  refine C_seq ?_
  refine C_region ?_
  refine W_assign rfl rfl rfl ?_
  refine W_end ?_
  refine E_then ?_
  refine C_seq ?_
  refine C_region ?_
  refine W_move rfl rfl rfl ?_
  refine W_bin rfl rfl rfl rfl rfl ?_
  refine W_assign rfl rfl rfl ?_
  refine W_end ?_
  refine E_then ?_
  refine C_ret ?_
  obtain rfl := hm
  refine E_weak (Hp.le_refl _) ?_
  exact end1 rfl rfl ⟨rfl, rfl, rfl⟩

theorem m_slices_IndexFunc_int_int__islands_Share_1_c {B : Nat} {w0 w : World} {H : Hp} {M : List Res} {p0_s : (List Int)} {v0 : Value} {r : Int} (hm : m_slices_IndexFunc_int_int__islands_Share_1 p0_s = some r) (h0 : RdS H v0 p0_s) (ht : St B w0 H (M) w) :
    Calls Proofs.Try.prog 61 [v0, .func (.func 35) [].toArray [].toArray].toArray w (Ret B w0 fun H' M' v => H = H' ∧ M = M' ∧ .int .i64 (r) = v) := by
  unfold m_slices_IndexFunc_int_int__islands_Share_1 at hm
  refine enter Proofs.Try.func61 rfl rfl rfl ht ?_
  refine C_seq ?_
  refine C_region ?_
  refine W_assign rfl rfl rfl ?_
  refine W_end ?_
  refine E_then ?_
  refine C_seq ?_
  refine C_seq ?_
  refine C_region ?_
  refine W_move rfl rfl rfl ?_
  refine W_lenR rfl rfl Proofs.Try.runUnderlying30 rfl h0 ?_
  refine W_move rfl rfl rfl ?_
  refine W_end ?_
  refine E_then ?_
  refine C_block ?_
  refine C_keep (L' := [(0, v0), (1, .func (.func 35) [].toArray [].toArray), (7, .int .i64 ((p0_s.length : Int))), (8, .int .i64 (((0 : Nat) : Int)))]) ⟨rfl, rfl, rfl, rfl, trivial⟩ (List.Perm.refl _) ?_
  refine C_loop (fun n H' M' L' => ∃ (k101 : Nat) (zs119' : Nat), k101 + zs119' = ((p0_s.length : Int) : Int).toNat ∧ zs119' = n ∧ forN (fun k s114 n => m_slices_IndexFunc_int_int__islands_Share_1_b1 p0_s k n) (fun _ => some (-1)) zs119' k101 () = some r ∧ H.le H' ∧ M = M' ∧ [(0, v0), (1, .func (.func 35) [].toArray [].toArray), (7, .int .i64 ((p0_s.length : Int))), (8, .int .i64 ((k101 : Int)))] = L') _ ⟨0, _, Nat.zero_add _, rfl, hm, (Hp.le_refl _), rfl, rfl⟩ ?_
  rintro _ H112 _ _ ⟨k101, zs119', hd121, rfl, hm, hle113, rfl, rfl⟩
  refine C_seq ?_
  refine C_region ?_
  refine W_bin rfl rfl rfl rfl rfl ?_
  refine W_end (E_then ?_)
  refine C_seq ?_
  refine C_cond (b := decide ((k101 : Int) < (p0_s.length : Int))) rfl (fun hb123 => ?_) (fun hb123 => ?_)
  · obtain ⟨zs119, rfl, hd122, hy120⟩ := rngN_t hd121 hb123
    have hm : m_slices_IndexFunc_int_int__islands_Share_1_b1 p0_s k101 (forN (fun k s114 n => m_slices_IndexFunc_int_int__islands_Share_1_b1 p0_s k n) (fun _ => some (-1)) zs119 (k101 + 1)) = some r := hm
    generalize hn116 : forN (fun k s114 n => m_slices_IndexFunc_int_int__islands_Share_1_b1 p0_s k n) (fun _ => some (-1)) zs119 (k101 + 1) = nx115 at hm
    unfold m_slices_IndexFunc_int_int__islands_Share_1_b1 at hm
    refine C_skip (E_then ?_)
    refine C_seq ?_
    refine C_block ?_
    refine C_seq ?_
    refine C_region ?_
    refine W_move rfl rfl rfl ?_
    refine W_assign rfl rfl rfl ?_
    refine W_end ?_
    refine E_then ?_
    refine C_seq ?_
    refine C_region ?_
    refine W_move rfl rfl rfl ?_
    refine W_move rfl rfl rfl ?_
    refine W_move rfl rfl rfl ?_
    obtain ⟨y124, h125, he126, hm⟩ := idx_some hm
    obtain ⟨_, rfl, hc127⟩ := (h0).elem he126
    refine W_indexS rfl rfl Proofs.Try.runUnderlying30 Proofs.Try.sizeOf3 rfl (h0.mono hle113) rfl h125 he126 ?_
    refine W_load rfl rfl Proofs.Try.isAgg3 rfl (HCells.one (hc127.mono hle113) 0 rfl).at ?_
    refine W_callv Proofs.Try.call35 rfl rfl rfl rfl (fun w ht => by have h := m_islands_Share_1_c (hm := (rfl : m_islands_Share_1 y124 = _))  ht; exact h) ?_
    rintro _ _ _ ⟨rfl, rfl, rfl⟩
    refine W_end ?_
    refine E_then ?_
    refine C_cond (b := (m_islands_Share_1 y124)) rfl (fun hb128 => ?_) (fun hb128 => ?_)
    · have hm := ite_t' hb128 hm
      refine C_seq ?_
      refine C_region ?_
      refine W_move rfl rfl rfl ?_
      refine W_assign rfl rfl rfl ?_
      refine W_end ?_
      refine E_then ?_
      refine C_ret ?_
      refine E_ret_block ?_
      refine E_ret_then ?_
      refine E_ret_then ?_
      refine E_ret_block ?_
      refine E_ret_then ?_
      obtain rfl := Option.some.inj hm
      refine E_weak hle113 ?_
      exact end1 rfl rfl ⟨rfl, rfl, rfl⟩
    · have hm := ite_f' hb128 hm
      refine C_skip ?_
      refine E_normal_block ?_
      refine E_then ?_
      refine C_region ?_
      refine W_bin rfl rfl rfl rfl rfl ?_
      refine W_move rfl rfl rfl ?_
      refine W_end ?_
      exact E_keepJ (E_back (Nat.lt_succ_self _) ⟨k101 + 1, zs119, hd122, rfl, (by rw [hn116]; exact hm), hle113, rfl, rfl⟩) (List.Perm.refl _) ⟨rfl, rfl, rfl, (congrArg (fun z => some (Value.int .i64 z)) (i64_succN hy120 (toNat_max (len_max (h0).lenMax)))), trivial⟩
  · obtain rfl := rngN_f hd121 hb123
    have hm : (some (-1)) = some r := hm
    refine C_exit (E_exit_then ?_)
    refine E_exit_then ?_
    refine E_exit_hit ?_
    refine E_then ?_
    refine C_seq ?_
    refine C_region ?_
    refine W_assign rfl rfl rfl ?_
    refine W_end ?_
    refine E_then ?_
    refine C_ret ?_
    obtain rfl := Option.some.inj hm
    refine E_weak hle113 ?_
    exact end1 rfl rfl ⟨rfl, rfl, rfl⟩

theorem m_slices_ContainsFunc_int_int__islands_Share_1_c {B : Nat} {w0 w : World} {H : Hp} {M : List Res} {p0_s : (List Int)} {v0 : Value} {r : Bool} (hm : m_slices_ContainsFunc_int_int__islands_Share_1 p0_s = some r) (h0 : RdS H v0 p0_s) (ht : St B w0 H (M) w) :
    Calls Proofs.Try.prog 34 [v0, .func (.func 35) [].toArray [].toArray].toArray w (Ret B w0 fun H' M' v => H = H' ∧ M = M' ∧ .bool (r) = v) := by
  unfold m_slices_ContainsFunc_int_int__islands_Share_1 at hm
  refine enter Proofs.Try.func34 rfl rfl rfl ht ?_
  refine C_seq ?_
  refine C_region ?_
  refine W_assign rfl rfl rfl ?_
  refine W_end ?_
  refine E_then ?_
  refine C_seq ?_
  refine C_region ?_
  refine W_move rfl rfl rfl ?_
  refine W_move rfl rfl rfl ?_
  obtain ⟨r101, hc102, hm⟩ := bind_some hm
  refine W_call Proofs.Try.call61 rfl rfl rfl (fun w ht => by have h := m_slices_IndexFunc_int_int__islands_Share_1_c (hm := hc102) h0 ht; exact h) ?_
  rintro _ _ _ ⟨rfl, rfl, rfl⟩
  refine W_bin rfl rfl rfl rfl rfl ?_
  refine W_assign rfl rfl rfl ?_
  refine W_end ?_
  refine E_then ?_
  refine C_ret ?_
  obtain rfl := Option.some.inj hm
  refine E_weak (Hp.le_refl _) ?_
  exact end1 rfl rfl ⟨rfl, rfl, rfl⟩

theorem m_islands_Share_c {B : Nat} {w0 w : World} {H : Hp} {M : List Res} {p0_n : S_api_Network} {v0 : Value} {v1 : Value} {v2 : Value} {v3 : Value} {v4 : Value} {v5 : Value} {r : (List Int) × Int} (hm : m_islands_Share p0_n = some r) (h0 : RdS H v0 p0_n.Nodes) (h1 : RdS H v1 p0_n.Switches) (h2 : RdS H v2 p0_n.Branches) (h3 : RdS H v3 p0_n.Gens) (h4 : RdS H v4 p0_n.Loads) (h5 : RdS H v5 p0_n.Stores) (ht : St B w0 H (M) w) :
    Calls Proofs.Try.prog 9 [.agg [v0, v1, v2, v3, v4, v5].toArray].toArray w (Ret B w0 fun H' M' v => H = H' ∧ ∃ qv0 : Value, ∃ qxs0 : List Value, .row qv0 3 (Rep.sz Int) r.1.length qxs0 :: M = M' ∧ .tuple #[qv0, .int .i64 (r.2)] = v ∧ RwF qv0 qxs0 r.1) := by
  unfold m_islands_Share at hm
  refine enter Proofs.Try.func9 rfl rfl rfl ht ?_
  refine C_seq ?_
  refine C_region ?_
  refine W_box (cs := [v0, v1, v2, v3, v4, v5]) rfl rfl rfl rfl (fun b101 => ?_)
  refine W_assign rfl rfl rfl ?_
  refine W_assign rfl rfl rfl ?_
  refine W_end ?_
  refine E_then ?_
  refine C_seq ?_
  refine C_seq ?_
  refine C_region ?_
  refine W_loadAgg rfl rfl Proofs.Try.isAgg29 Proofs.Try.sizeOf29 rfl (own_all (List.mem_cons_self ..)) rfl ?_
  obtain ⟨r102, hc103, hm⟩ := bind_some hm
  refine W_call Proofs.Try.call13 rfl rfl rfl (fun w ht => by have h := m_netmodel_Check_c (hm := hc103) h0 h1 h2 h3 h4 h5 ht; exact h) ?_
  rintro _ _ _ ⟨rfl, rfl, rfl⟩
  refine W_assign rfl rfl rfl ?_
  refine W_end ?_
  refine E_then ?_
  refine C_seq ?_
  refine C_region ?_
  refine W_move rfl rfl rfl ?_
  refine W_bin rfl rfl rfl rfl rfl ?_
  refine W_end ?_
  refine E_then ?_
  refine C_cond (b := !decide (r102 = 0)) rfl (fun hb104 => ?_) (fun hb104 => ?_)
  · have hm := ite_t' hb104 hm
    refine C_seq ?_
    refine C_region ?_
    refine W_move rfl rfl rfl ?_
    refine W_assign rfl rfl rfl ?_
    refine W_assign rfl rfl rfl ?_
    refine W_end ?_
    refine E_then ?_
    refine C_ret ?_
    refine E_ret_then ?_
    refine E_nilRow 3 (Rep.sz Int) ?_
    obtain rfl := Option.some.inj hm
    refine E_drop (List.Sublist.cons_cons _ (List.Sublist.cons _ (List.Sublist.refl _))) ?_
    refine E_weak (Hp.le_refl _) ?_
    exact end2 rfl rfl rfl ⟨rfl, (.slice none 0 0), [], rfl, rfl, (Rw.nil (H := H)).toF⟩
  · have hm := ite_f' hb104 hm
    refine C_skip ?_
    refine E_then ?_
    refine C_seq ?_
    refine C_region ?_
    refine W_loadAgg rfl rfl Proofs.Try.isAgg29 Proofs.Try.sizeOf29 rfl (own_all (List.mem_cons_self ..)) rfl ?_
    obtain ⟨r105, hc106, hm⟩ := bind_some hm
    refine W_call Proofs.Try.call31 rfl rfl rfl (fun w ht => by have h := m_topology_Get_c (hm := hc106) h0 h1 h2 h3 h4 h5 ht; exact h) ?_
    rintro _ _ _ ⟨rfl, v107, xs108, v110, xs111, rfl, rfl, h109, h112⟩
    have h109 := h109 H
    have h112 := h112 H
    refine W_alloc (cs := [.slice none 0 0, .slice none 0 0]) rfl rfl Proofs.Try.zeroValue77 rfl (fun b113 => ?_)
    refine W_store (cs := [v107, v110]) (out := [v107, v110]) rfl Proofs.Try.sizeOf77 rfl rfl rfl rfl rfl (all_cons (Rw.one h109) (all_cons (Rw.one h112) all_nil)) (over_all rfl) ?_
    refine W_end ?_
    refine E_then ?_
    refine C_seq ?_
    refine C_region ?_
    refine W_assign rfl rfl rfl ?_
    refine W_end ?_
    refine E_then ?_
    refine C_seq ?_
    refine C_seq ?_
    refine C_region ?_
    refine W_loadAgg rfl rfl Proofs.Try.isAgg29 Proofs.Try.sizeOf29 rfl (own_all (List.mem_cons_of_mem _ (List.mem_cons_of_mem _ (List.mem_cons_of_mem _ (List.mem_cons_self ..))))) rfl ?_
    obtain ⟨r114, hc115, hm⟩ := bind_some hm
    refine W_call Proofs.Try.call32 rfl rfl rfl (fun w ht => by have h := m_islands_sums_c (hm := hc115) h0 h1 h2 h3 h4 h5 ht; exact h) ?_
    rintro _ _ _ ⟨rfl, v116, xs117, rfl, rfl, h118⟩
    have h118 := h118 H
    refine W_lenO (List.mem_cons_self ..) rfl rfl Proofs.Try.runUnderlying34 rfl ?_
    refine W_move rfl rfl rfl ?_
    refine W_end ?_
    refine E_then ?_
    refine C_block ?_
    refine C_rowMax (List.mem_cons_self ..) (fun hmx168 => ?_)
    refine C_nilRow 3 (Rep.sz Int) ?_
    refine C_keep (L' := [(1, .pointer (some ⟨b101, 0, none⟩)), (5, .pointer (some ⟨b113, 0, none⟩)), (6, (.slice none 0 0)), (22, v116), (23, .int .i64 ((r114.length : Int))), (24, .int .i64 (((0 : Nat) : Int)))]) ⟨rfl, rfl, rfl, rfl, rfl, rfl, trivial⟩ (List.Perm.refl _) ?_
    refine C_loop (fun n H' M' L' => ∃ (k119 : Nat) (zs170' : List S_api_IslandsSum), ∃ l160 : List Int, ∃ v158 : Value, ∃ xs159 : List Value, (r114).drop k119 = zs170' ∧ zs170'.length = n ∧ forI (fun k y s164 n => m_islands_Share_b1 k y s164 n) (fun s164 => forI (fun k y s293 n => m_islands_Share_b4 p0_n r105 k y s293.1 s293.2 n) (fun s293 => (m_slices_ContainsFunc_int_int__islands_Share_1 s293.1).bind fun r340 => if r340 then (some (([] : List Int), 14)) else (some (s293.2, 0))) 0 p0_n.Gens (s164, ([] : List Int))) k119 zs170' l160 = some r ∧ Rw H' v158 xs159 l160 ∧ H.le H' ∧ .row v158 3 (Rep.sz Int) l160.length xs159 :: .row v116 41 (Rep.sz S_api_IslandsSum) r114.length xs117 :: .obj b113 (.cells [v107, v110].toArray 77 (0, 0)) :: .row v107 3 (Rep.sz Int) r105.Bus.length xs108 :: .row v110 3 (Rep.sz Int) r105.Island.length xs111 :: .obj b101 (.cells [v0, v1, v2, v3, v4, v5].toArray 29 (0, 0)) :: M = M' ∧ [(1, .pointer (some ⟨b101, 0, none⟩)), (5, .pointer (some ⟨b113, 0, none⟩)), (6, v158), (22, v116), (23, .int .i64 ((r114.length : Int))), (24, .int .i64 ((k119 : Int)))] = L') _ ⟨0, _, ([] : List Int), (.slice none 0 0), ([]), rfl, rfl, hm, Rw.nil, (Hp.le_refl _), rfl, rfl⟩ ?_
    rintro _ H162 _ _ ⟨k119, zs170', l160, v158, xs159, hd172, rfl, hm, hr161, hle163, rfl, rfl⟩
    refine C_seq ?_
    refine C_region ?_
    refine W_bin rfl rfl rfl rfl rfl ?_
    refine W_end (E_then ?_)
    refine C_seq ?_
    refine C_cond (b := decide ((k119 : Int) < (r114.length : Int))) rfl (fun hb174 => ?_) (fun hb174 => ?_)
    · obtain ⟨y169, zs170, rfl, hy171, hd173⟩ := rng_t hd172 hb174
      have hm : m_islands_Share_b1 k119 y169 l160 (forI (fun k y s164 n => m_islands_Share_b1 k y s164 n) (fun s164 => forI (fun k y s293 n => m_islands_Share_b4 p0_n r105 k y s293.1 s293.2 n) (fun s293 => (m_slices_ContainsFunc_int_int__islands_Share_1 s293.1).bind fun r340 => if r340 then (some (([] : List Int), 14)) else (some (s293.2, 0))) 0 p0_n.Gens (s164, ([] : List Int))) (k119 + 1) zs170) = some r := hm
      generalize hn166 : forI (fun k y s164 n => m_islands_Share_b1 k y s164 n) (fun s164 => forI (fun k y s293 n => m_islands_Share_b4 p0_n r105 k y s293.1 s293.2 n) (fun s293 => (m_slices_ContainsFunc_int_int__islands_Share_1 s293.1).bind fun r340 => if r340 then (some (([] : List Int), 14)) else (some (s293.2, 0))) 0 p0_n.Gens (s164, ([] : List Int))) (k119 + 1) zs170 = nx165 at hm
      unfold m_islands_Share_b1 at hm
      refine C_skip (E_then ?_)
      refine C_seq ?_
      refine C_block ?_
      refine C_seq ?_
      refine C_region ?_
      refine W_indexO (List.mem_cons_of_mem _ (List.mem_cons_self ..)) rfl rfl Proofs.Try.runUnderlying34 Proofs.Try.sizeOf41 rfl rfl (Int.natCast_nonneg _) (List.getElem?_eq_some_iff.1 hy171).1 ?_
      obtain ⟨_, rfl, hg175⟩ := (h118).elem hy171
      refine W_loadAgg (cs := [.int .i64 (y169.Least), .int .i64 (y169.Most), .int .i64 (y169.Demand)]) rfl rfl Proofs.Try.isAgg41 Proofs.Try.sizeOf41 rfl (row_cells (List.mem_cons_of_mem _ (List.mem_cons_self ..)) hg175) rfl ?_
      refine W_alloc (cs := [.int .i64 (0), .int .i64 (0), .int .i64 (0)]) rfl rfl Proofs.Try.zeroValue41 rfl (fun b176 => ?_)
      refine W_store (cs := [.int .i64 (y169.Least), .int .i64 (y169.Most), .int .i64 (y169.Demand)]) (out := [.int .i64 (y169.Least), .int .i64 (y169.Most), .int .i64 (y169.Demand)]) rfl Proofs.Try.sizeOf41 rfl rfl rfl rfl rfl (all_cons rfl (all_cons rfl (all_cons rfl all_nil))) (over_all rfl) ?_
      refine W_end ?_
      refine E_then ?_
      refine C_region ?_
      refine W_move rfl rfl rfl ?_
      refine W_field (o := 2) rfl rfl Proofs.Try.runUnderlying41 rfl Proofs.Try.sizeOf3 rfl rfl rfl ?_
      refine W_load rfl rfl Proofs.Try.isAgg3 rfl (own_at (List.mem_cons_self ..) rfl) ?_
      refine W_buildSlice (α := Int) (css := [[.int .i64 (y169.Demand)]]) (zs := [.int .i64 (0)]) (out := [.int .i64 (y169.Demand)]) (ys := [y169.Demand]) rfl rfl rfl ⟨rfl, trivial⟩ Proofs.Try.runUnderlying30 Proofs.Try.sizeOf3 rfl Proofs.Try.zeroValue3 (by kernel_rfl) rfl rfl rfl rfl ⟨[.int .i64 (y169.Demand)], [], rfl, rfl, rfl⟩ rfl ?_
      intro b177 v178 H179 hv180 hle181 h182
      have hc183 : Value.cap' v178 = ([y169.Demand]).length := by rw [hv180]; rfl
      obtain ⟨hz184, hm⟩ := need_some hm
      refine W_perm (List.Perm.swap _ _ _) ?_
      refine W_appendO (α := Int) (l := l160) (ys := [y169.Demand]) rfl rfl Proofs.Try.underlying30 ⟨_, rfl, rfl, rfl, rfl⟩ rfl rfl rfl rfl rfl (hr161.mono hle181) h182 hz184 ?_
      intro v185 xs186 hr187
      refine W_assign rfl rfl rfl ?_
      refine W_end ?_
      refine E_normal_block ?_
      refine E_then ?_
      refine C_region ?_
      refine W_bin rfl rfl rfl rfl rfl ?_
      refine W_move rfl rfl rfl ?_
      refine W_end ?_
      refine E_drop (List.Sublist.cons_cons _ (List.Sublist.cons _ (List.Sublist.refl _))) ?_
      exact E_keepJ (E_back (Nat.lt_succ_self _) ⟨k119 + 1, zs170, (l160 ++ ([y169.Demand])), v185, xs186, hd173, rfl, (by rw [hn166]; exact hm), hr187, (Hp.le_trans hle163 hle181), rfl, rfl⟩) (List.Perm.refl _) ⟨rfl, rfl, rfl, rfl, rfl, (congrArg (fun z => some (Value.int .i64 z)) (i64_succ hy171 hmx168)), trivial⟩
    · obtain rfl := rng_f hd172 hb174
      have hm : (forI (fun k y s293 n => m_islands_Share_b4 p0_n r105 k y s293.1 s293.2 n) (fun s293 => (m_slices_ContainsFunc_int_int__islands_Share_1 s293.1).bind fun r340 => if r340 then (some (([] : List Int), 14)) else (some (s293.2, 0))) 0 p0_n.Gens (l160, ([] : List Int))) = some r := hm
      refine C_exit (E_exit_then ?_)
      refine E_exit_then ?_
      refine E_exit_hit ?_
      refine E_then ?_
      refine C_seq ?_
      refine C_region ?_
      refine W_assign rfl rfl rfl ?_
      refine W_end ?_
      refine E_then ?_
      refine C_seq ?_
      refine C_seq ?_
      refine C_region ?_
      refine W_field (o := 3) rfl rfl Proofs.Try.runUnderlying29 rfl Proofs.Try.sizeOf25 rfl rfl rfl ?_
      refine W_load rfl rfl Proofs.Try.isAgg25 rfl (own_at (List.mem_cons_of_mem _ (List.mem_cons_of_mem _ (List.mem_cons_of_mem _ (List.mem_cons_of_mem _ (List.mem_cons_of_mem _ (List.mem_cons_self ..)))))) rfl) ?_
      refine W_lenR rfl rfl Proofs.Try.runUnderlying25 rfl (h3.mono hle163) ?_
      refine W_move rfl rfl rfl ?_
      refine W_end ?_
      refine E_then ?_
      refine C_block ?_
      refine C_nilRow 3 (Rep.sz Int) ?_
      refine C_drop (List.Sublist.cons_cons _ (List.Sublist.cons_cons _ (List.Sublist.cons _ (List.Sublist.refl _)))) ?_
      refine C_keep (L' := [(1, .pointer (some ⟨b101, 0, none⟩)), (5, .pointer (some ⟨b113, 0, none⟩)), (6, v158), (9, (.slice none 0 0)), (35, v3), (36, .int .i64 ((p0_n.Gens.length : Int))), (37, .int .i64 (((0 : Nat) : Int)))]) ⟨rfl, rfl, rfl, rfl, rfl, rfl, rfl, trivial⟩ (List.Perm.swap _ _ _) ?_
      refine C_loop (fun n H' M' L' => ∃ (k188 : Nat) (zs298' : List S_api_Gen), ∃ l285 : List Int, ∃ l289 : List Int, ∃ xs284 : List Value, ∃ v287 : Value, ∃ xs288 : List Value, (p0_n.Gens).drop k188 = zs298' ∧ zs298'.length = n ∧ forI (fun k y s293 n => m_islands_Share_b4 p0_n r105 k y s293.1 s293.2 n) (fun s293 => (m_slices_ContainsFunc_int_int__islands_Share_1 s293.1).bind fun r340 => if r340 then (some (([] : List Int), 14)) else (some (s293.2, 0))) k188 zs298' (l285, l289) = some r ∧ Rw H' v158 xs284 l285 ∧ Rw H' v287 xs288 l289 ∧ H162.le H' ∧ .row v158 3 (Rep.sz Int) l285.length xs284 :: .row v287 3 (Rep.sz Int) l289.length xs288 :: .obj b113 (.cells [v107, v110].toArray 77 (0, 0)) :: .row v107 3 (Rep.sz Int) r105.Bus.length xs108 :: .row v110 3 (Rep.sz Int) r105.Island.length xs111 :: .obj b101 (.cells [v0, v1, v2, v3, v4, v5].toArray 29 (0, 0)) :: M = M' ∧ [(1, .pointer (some ⟨b101, 0, none⟩)), (5, .pointer (some ⟨b113, 0, none⟩)), (6, v158), (9, v287), (35, v3), (36, .int .i64 ((p0_n.Gens.length : Int))), (37, .int .i64 ((k188 : Int)))] = L') _ ⟨0, _, l160, ([] : List Int), xs159, (.slice none 0 0), ([]), rfl, rfl, hm, hr161, Rw.nil, (Hp.le_refl _), rfl, rfl⟩ ?_
      rintro _ H291 _ _ ⟨k188, zs298', l285, l289, xs284, v287, xs288, hd300, rfl, hm, hr286, hr290, hle292, rfl, rfl⟩
      refine C_seq ?_
      refine C_region ?_
      refine W_bin rfl rfl rfl rfl rfl ?_
      refine W_end (E_then ?_)
      refine C_seq ?_
      refine C_cond (b := decide ((k188 : Int) < (p0_n.Gens.length : Int))) rfl (fun hb302 => ?_) (fun hb302 => ?_)
      · obtain ⟨y297, zs298, rfl, hy299, hd301⟩ := rng_t hd300 hb302
        have hm : m_islands_Share_b4 p0_n r105 k188 y297 l285 l289 (forI (fun k y s293 n => m_islands_Share_b4 p0_n r105 k y s293.1 s293.2 n) (fun s293 => (m_slices_ContainsFunc_int_int__islands_Share_1 s293.1).bind fun r340 => if r340 then (some (([] : List Int), 14)) else (some (s293.2, 0))) (k188 + 1) zs298) = some r := hm
        generalize hn295 : forI (fun k y s293 n => m_islands_Share_b4 p0_n r105 k y s293.1 s293.2 n) (fun s293 => (m_slices_ContainsFunc_int_int__islands_Share_1 s293.1).bind fun r340 => if r340 then (some (([] : List Int), 14)) else (some (s293.2, 0))) (k188 + 1) zs298 = nx294 at hm
        unfold m_islands_Share_b4 at hm
        refine C_skip (E_then ?_)
        refine C_seq ?_
        refine C_block ?_
        refine C_seq ?_
        refine C_region ?_
        obtain ⟨_, ⟨rfl⟩, hc303⟩ := (h3).elem hy299
        refine W_indexS rfl rfl Proofs.Try.runUnderlying25 Proofs.Try.sizeOf39 rfl ((h3.mono hle163).mono hle292) rfl (Int.natCast_nonneg _) hy299 ?_
        refine W_loadAgg rfl rfl Proofs.Try.isAgg39 Proofs.Try.sizeOf39 rfl ((hc303.mono hle163).mono hle292).at rfl ?_
        refine W_alloc (cs := [.string (⟨#[]⟩), .string (⟨#[]⟩), .int .i64 (0), .int .i64 (0), .int .i64 (0)]) rfl rfl Proofs.Try.zeroValue39 rfl (fun b304 => ?_)
        refine W_store (cs := [.string (y297.Name), .string (y297.Node), .int .i64 (y297.Least), .int .i64 (y297.Most), .int .i64 (y297.Ramp)]) (out := [.string (y297.Name), .string (y297.Node), .int .i64 (y297.Least), .int .i64 (y297.Most), .int .i64 (y297.Ramp)]) rfl Proofs.Try.sizeOf39 rfl rfl rfl rfl rfl (all_cons rfl (all_cons rfl (all_cons rfl (all_cons rfl (all_cons rfl all_nil))))) (over_all rfl) ?_
        refine W_end ?_
        refine E_then ?_
        refine C_seq ?_
        refine C_region ?_
        refine W_move rfl rfl rfl ?_
        refine W_loadAgg rfl rfl Proofs.Try.isAgg29 Proofs.Try.sizeOf29 rfl (own_all (List.mem_cons_of_mem _ (List.mem_cons_of_mem _ (List.mem_cons_of_mem _ (List.mem_cons_of_mem _ (List.mem_cons_of_mem _ (List.mem_cons_of_mem _ (List.mem_cons_self ..)))))))) rfl ?_
        refine W_loadAgg rfl rfl Proofs.Try.isAgg77 Proofs.Try.sizeOf77 rfl (own_all (List.mem_cons_of_mem _ (List.mem_cons_of_mem _ (List.mem_cons_of_mem _ (List.mem_cons_self ..))))) rfl ?_
        refine W_field (o := 1) rfl rfl Proofs.Try.runUnderlying39 rfl Proofs.Try.sizeOf9 rfl rfl rfl ?_
        refine W_load rfl rfl Proofs.Try.isAgg9 rfl (own_at (List.mem_cons_self ..) rfl) ?_
        refine W_perm (List.Perm.trans (List.Perm.cons _ (List.Perm.cons _ (List.Perm.cons _ (List.Perm.swap _ _ _)))) (List.Perm.trans (List.Perm.cons _ (List.Perm.cons _ (List.Perm.swap _ _ _))) (List.Perm.trans (List.Perm.cons _ (List.Perm.swap _ _ _)) (List.Perm.trans (List.Perm.swap _ _ _) (List.Perm.trans (List.Perm.cons _ (List.Perm.cons _ (List.Perm.cons _ (List.Perm.cons _ (List.Perm.swap _ _ _))))) (List.Perm.trans (List.Perm.cons _ (List.Perm.cons _ (List.Perm.cons _ (List.Perm.swap _ _ _)))) (List.Perm.trans (List.Perm.cons _ (List.Perm.cons _ (List.Perm.swap _ _ _))) (List.Perm.cons _ (List.Perm.swap _ _ _))))))))) ?_
        obtain ⟨r305, hc306, hm⟩ := bind_some hm
        refine W_call Proofs.Try.call33 rfl rfl rfl (fun w ht => by obtain ⟨H0_, hl0_, ht0_, hr0_, bk0_⟩ := ht.lendRow ((h109.mono hle163).mono hle292) rfl; obtain ⟨H1_, hl1_, ht1_, hr1_, bk1_⟩ := ht0_.lendRow (((h112.mono hle163).mono hle292).mono hl0_) rfl; have h := m_islands_place_c (hm := hc306) ((((h0.mono hle163).mono hle292).mono hl0_).mono hl1_) ((((h1.mono hle163).mono hle292).mono hl0_).mono hl1_) ((((h2.mono hle163).mono hle292).mono hl0_).mono hl1_) ((((h3.mono hle163).mono hle292).mono hl0_).mono hl1_) ((((h4.mono hle163).mono hle292).mono hl0_).mono hl1_) ((((h5.mono hle163).mono hle292).mono hl0_).mono hl1_) (hr0_.mono hl1_) hr1_ ht1_; exact lend_back bk0_ (lend_back bk1_ (h))) ?_
        rintro _ _ _ ⟨rfl, ⟨_, rfl, ⟨_, rfl, rfl, rfl⟩⟩⟩
        obtain ⟨y307, h308, he309, hm⟩ := idx_some hm
        refine W_indexO (List.mem_cons_of_mem _ (List.mem_cons_of_mem _ (List.mem_cons_of_mem _ (List.mem_cons_self ..)))) rfl rfl Proofs.Try.runUnderlying30 Proofs.Try.sizeOf3 rfl rfl h308 (List.getElem?_eq_some_iff.1 he309).1 ?_
        obtain ⟨_, rfl, hg310⟩ := (hr286).elem he309
        refine W_assign rfl rfl rfl ?_
        refine W_end ?_
        refine E_then ?_
        refine C_seq ?_
        refine C_region ?_
        refine W_assign rfl rfl rfl ?_
        refine W_end ?_
        refine E_then ?_
        refine C_seq_join (fun H' M' L' => ∃ n316 : Int, m_islands_Share_b5 l285 l289 nx294 r305 y307 n316 = some r ∧ H291.le H' ∧ .row v107 3 (Rep.sz Int) r105.Bus.length xs108 :: .row v110 3 (Rep.sz Int) r105.Island.length xs111 :: .row v158 3 (Rep.sz Int) l285.length xs284 :: .row v287 3 (Rep.sz Int) l289.length xs288 :: .obj b113 (.cells [v107, v110].toArray 77 (0, 0)) :: .obj b101 (.cells [v0, v1, v2, v3, v4, v5].toArray 29 (0, 0)) :: M = M' ∧ [(1, .pointer (some ⟨b101, 0, none⟩)), (5, .pointer (some ⟨b113, 0, none⟩)), (6, v158), (9, v287), (12, .pointer (some ((Value.base (v158)).add ((r305 : Int).toNat * Rep.sz Int)))), (13, .int .i64 (n316)), (35, v3), (36, .int .i64 ((p0_n.Gens.length : Int))), (37, .int .i64 ((k188 : Int)))] = L') ?_ (fun J319 => ?_)
        · rintro H317 _ _ ⟨n316, hm, hle318, rfl, rfl⟩
          unfold m_islands_Share_b5 at hm
          refine C_seq ?_
          refine C_region ?_
          refine W_move rfl rfl rfl ?_
          refine W_nilCheck rfl rfl rfl ?_
          refine W_load rfl rfl Proofs.Try.isAgg3 rfl (row_one0 (List.mem_cons_of_mem _ (List.mem_cons_of_mem _ (List.mem_cons_self ..))) hg310 rfl) ?_
          refine W_move rfl rfl rfl ?_
          refine W_bin rfl rfl rfl rfl rfl ?_
          refine W_nilCheck rfl rfl rfl ?_
          refine W_perm (List.Perm.trans (List.Perm.cons _ (List.Perm.swap _ _ _)) (List.Perm.swap _ _ _)) ?_
          obtain ⟨hr320, he321, hg322⟩ := Rw.put (cs := [.int .i64 (IntKind.i64.wrap (y307 - n316))]) (o := 0) (c := [.int .i64 (y307)]) (out := [.int .i64 (IntKind.i64.wrap (y307 - n316))]) (e2 := (IntKind.i64.wrap (y307 - n316))) (hr286.mono hle318) he309 rfl hg310 rfl rfl rfl
          refine W_storeO2 (i := (r305 : Int).toNat * Rep.sz Int + 0) (cs := [.int .i64 (IntKind.i64.wrap (y307 - n316))]) rfl Proofs.Try.sizeOf3 rfl (row_ad0 _ _) rfl rfl rfl (Rw.room (hr286.mono hle318) he309 rfl) rfl (all_cons rfl all_nil) (n' := (l285.set ((r305 : Int).toNat) (IntKind.i64.wrap (y307 - n316))).length) List.length_set ?_
          generalize over xs284 ((r305 : Int).toNat * Rep.sz Int + 0) [.int .i64 (IntKind.i64.wrap (y307 - n316))] = xs323 at hr320 hg322 ⊢
          refine W_end ?_
          refine E_then ?_
          refine C_region ?_
          refine W_move rfl rfl rfl ?_
          refine W_move rfl rfl rfl ?_
          refine W_buildSlice (α := Int) (css := [[.int .i64 (n316)]]) (zs := [.int .i64 (0)]) (out := [.int .i64 (n316)]) (ys := [n316]) rfl rfl rfl ⟨rfl, trivial⟩ Proofs.Try.runUnderlying30 Proofs.Try.sizeOf3 rfl Proofs.Try.zeroValue3 (by kernel_rfl) rfl rfl rfl rfl ⟨[.int .i64 (n316)], [], rfl, rfl, rfl⟩ rfl ?_
          intro b324 v325 H326 hv327 hle328 h329
          have hc330 : Value.cap' v325 = ([n316]).length := by rw [hv327]; rfl
          obtain ⟨hz331, hm⟩ := need_some hm
          refine W_perm (List.Perm.trans (List.Perm.cons _ (List.Perm.cons _ (List.Perm.swap _ _ _))) (List.Perm.trans (List.Perm.cons _ (List.Perm.swap _ _ _)) (List.Perm.swap _ _ _))) ?_
          refine W_appendO (α := Int) (l := l289) (ys := [n316]) rfl rfl Proofs.Try.underlying30 ⟨_, rfl, rfl, rfl, rfl⟩ rfl rfl rfl rfl rfl ((hr290.mono hle318).mono hle328) h329 hz331 ?_
          intro v332 xs333 hr334
          refine W_assign rfl rfl rfl ?_
          refine W_end ?_
          refine E_normal_block ?_
          refine E_then ?_
          refine C_region ?_
          refine W_bin rfl rfl rfl rfl rfl ?_
          refine W_move rfl rfl rfl ?_
          refine W_end ?_
          exact E_keepJ (E_back (Nat.lt_succ_self _) ⟨k188 + 1, zs298, (l285.set ((r305 : Int).toNat) (IntKind.i64.wrap (y307 - n316))), (l289 ++ ([n316])), xs323, v332, xs333, hd301, rfl, (by rw [hn295]; exact hm), (hr320.mono hle328), hr334, (Hp.le_trans (Hp.le_trans hle292 hle318) hle328), rfl, rfl⟩) (List.Perm.trans (List.Perm.swap _ _ _) (List.Perm.trans (List.Perm.cons _ (List.Perm.cons _ (List.Perm.cons _ (List.Perm.swap _ _ _)))) (List.Perm.cons _ (List.Perm.cons _ (List.Perm.swap _ _ _))))) ⟨rfl, rfl, rfl, rfl, rfl, rfl, (congrArg (fun z => some (Value.int .i64 z)) (i64_succ hy299 (((h3.mono hle163).mono hle292)).lenMax)), trivial⟩
        · refine C_seq ?_
          refine C_region_tok0 5 (phiT [(fun H rs v => [] = rs ∧ .pointer (some ((Value.base (v158)).add ((r305 : Int).toNat * Rep.sz Int))) = v), (fun H rs v => [] = rs ∧ .pointer (some ((Value.base (v158)).add ((r305 : Int).toNat * Rep.sz Int))) = v), (fun H rs v => [] = rs ∧ .int .i64 (y307) = v), (fun H rs v => [] = rs ∧ .pointer (some ⟨b304, 2, none⟩) = v), (fun H rs v => [] = rs ∧ .int .i64 (y297.Least) = v)]) [[], [], [], [], []] [[], [], [], [], []] [] [0, 1, 2, 3, 4] Facts.mixed (by kernel_rfl) rfl rfl rfl (by kernel_rfl) (phiT_mono ⟨eq_monoT _ _, eq_monoT _ _, eq_monoT _ _, eq_monoT _ _, eq_monoT _ _, trivial⟩) ⟨?_, ?_, ?_, ?_, ?_, trivial⟩ ?_
          · intro HX hX X Rest hR
            intro hU
            refine W_move rfl rfl rfl ?_
            exact W_end (OneT_end [] (Hp.le_refl _) ⟨rfl, rfl⟩)
          · intro HX hX X Rest hR
            rintro _ _ ⟨rfl, rfl⟩
            intro hU
            refine W_nilCheck rfl rfl rfl ?_
            exact W_end (OneT_end [] (Hp.le_refl _) ⟨rfl, rfl⟩)
          · intro HX hX X Rest hR
            rintro _ _ ⟨rfl, rfl⟩
            intro hU
            refine W_load rfl rfl Proofs.Try.isAgg3 rfl (row_one0 (hR _ (List.mem_cons_of_mem _ (List.mem_cons_of_mem _ (List.mem_cons_of_mem _ (List.mem_cons_self ..))))) hg310 rfl) ?_
            exact W_end (OneT_end [] (Hp.le_refl _) ⟨rfl, rfl⟩)
          · intro HX hX X Rest hR
            intro hU
            refine W_field (o := 2) rfl rfl Proofs.Try.runUnderlying39 rfl Proofs.Try.sizeOf3 rfl rfl rfl ?_
            exact W_end (OneT_end [] (Hp.le_refl _) ⟨rfl, rfl⟩)
          · intro HX hX X Rest hR
            rintro _ _ ⟨rfl, rfl⟩
            intro hU
            refine W_load rfl rfl Proofs.Try.isAgg3 rfl (own_at (hR _ (List.mem_cons_of_mem _ (List.mem_cons_of_mem _ (List.mem_cons_self ..)))) rfl) ?_
            exact W_end (OneT_end [] (Hp.le_refl _) ⟨rfl, rfl⟩)
          intro H335 hle336
          rintro _ _ ⟨rfl, rfl⟩
          rintro _ _ ⟨rfl, rfl⟩
          rintro _ _ ⟨rfl, rfl⟩
          rintro _ _ ⟨rfl, rfl⟩
          rintro _ _ ⟨rfl, rfl⟩
          refine W_bin rfl rfl rfl rfl rfl ?_
          refine W_end ?_
          refine E_then ?_
          refine C_cond (b := decide (y297.Least ≤ y307)) rfl (fun hb337 => ?_) (fun hb337 => ?_)
          · have hm := ite_t' hb337 hm
            refine C_region_tok0 5 (phiT [(fun H rs v => [] = rs ∧ .pointer (some ⟨b304, 3, none⟩) = v), (fun H rs v => [] = rs ∧ .int .i64 (y297.Most) = v), (fun H rs v => [] = rs ∧ .pointer (some ((Value.base (v158)).add ((r305 : Int).toNat * Rep.sz Int))) = v), (fun H rs v => [] = rs ∧ .pointer (some ((Value.base (v158)).add ((r305 : Int).toNat * Rep.sz Int))) = v), (fun H rs v => [] = rs ∧ .int .i64 (y307) = v)]) [[], [], [], [], []] [[], [], [], [], []] [] [0, 1, 2, 3, 4] Facts.mixed (by kernel_rfl) rfl rfl rfl (by kernel_rfl) (phiT_mono ⟨eq_monoT _ _, eq_monoT _ _, eq_monoT _ _, eq_monoT _ _, eq_monoT _ _, trivial⟩) ⟨?_, ?_, ?_, ?_, ?_, trivial⟩ ?_
            · intro HX hX X Rest hR
              intro hU
              refine W_field (o := 3) rfl rfl Proofs.Try.runUnderlying39 rfl Proofs.Try.sizeOf3 rfl rfl rfl ?_
              exact W_end (OneT_end [] (Hp.le_refl _) ⟨rfl, rfl⟩)
            · intro HX hX X Rest hR
              rintro _ _ ⟨rfl, rfl⟩
              intro hU
              refine W_load rfl rfl Proofs.Try.isAgg3 rfl (own_at (hR _ (List.mem_cons_of_mem _ (List.mem_cons_of_mem _ (List.mem_cons_self ..)))) rfl) ?_
              exact W_end (OneT_end [] (Hp.le_refl _) ⟨rfl, rfl⟩)
            · intro HX hX X Rest hR
              intro hU
              refine W_move rfl rfl rfl ?_
              exact W_end (OneT_end [] (Hp.le_refl _) ⟨rfl, rfl⟩)
            · intro HX hX X Rest hR
              rintro _ _ ⟨rfl, rfl⟩
              intro hU
              refine W_nilCheck rfl rfl rfl ?_
              exact W_end (OneT_end [] (Hp.le_refl _) ⟨rfl, rfl⟩)
            · intro HX hX X Rest hR
              rintro _ _ ⟨rfl, rfl⟩
              intro hU
              refine W_load rfl rfl Proofs.Try.isAgg3 rfl (row_one0 (hR _ (List.mem_cons_of_mem _ (List.mem_cons_of_mem _ (List.mem_cons_of_mem _ (List.mem_cons_self ..))))) hg310 rfl) ?_
              exact W_end (OneT_end [] (Hp.le_refl _) ⟨rfl, rfl⟩)
            intro H338 hle339
            rintro _ _ ⟨rfl, rfl⟩
            rintro _ _ ⟨rfl, rfl⟩
            rintro _ _ ⟨rfl, rfl⟩
            rintro _ _ ⟨rfl, rfl⟩
            rintro _ _ ⟨rfl, rfl⟩
            refine W_min rfl rfl rfl rfl ?_
            refine W_assign rfl rfl rfl ?_
            refine W_end ?_
            refine E_drop (List.Sublist.cons_cons _ (List.Sublist.cons_cons _ (List.Sublist.cons _ (List.Sublist.refl _)))) ?_
            exact E_keepJ (J319 _ _ _ ⟨min y297.Most y307, hm, (Hp.le_trans hle336 hle339), rfl, rfl⟩) (List.Perm.refl _) ⟨rfl, rfl, rfl, rfl, rfl, rfl, rfl, rfl, rfl, trivial⟩
          · have hm := ite_f' hb337 hm
            refine C_skip ?_
            refine E_drop (List.Sublist.cons_cons _ (List.Sublist.cons_cons _ (List.Sublist.cons _ (List.Sublist.refl _)))) ?_
            exact E_keepJ (J319 _ _ _ ⟨0, hm, hle336, rfl, rfl⟩) (List.Perm.refl _) ⟨rfl, rfl, rfl, rfl, rfl, rfl, rfl, rfl, rfl, trivial⟩
      · obtain rfl := rng_f hd300 hb302
        have hm : ((m_slices_ContainsFunc_int_int__islands_Share_1 l285).bind fun r340 => if r340 then (some (([] : List Int), 14)) else (some (l289, 0))) = some r := hm
        refine C_exit (E_exit_then ?_)
        refine E_exit_then ?_
        refine E_exit_hit ?_
        refine E_then ?_
        refine C_seq ?_
        refine C_seq ?_
        refine C_region ?_
        refine W_move rfl rfl rfl ?_
        obtain ⟨r340, hc341, hm⟩ := bind_some hm
        refine W_call Proofs.Try.call34 rfl rfl rfl (fun w ht => by obtain ⟨H0_, hl0_, ht0_, hr0_, bk0_⟩ := ht.lendRow hr286 rfl; have h := m_slices_ContainsFunc_int_int__islands_Share_1_c (hm := hc341) hr0_ ht0_; exact lend_back bk0_ (h)) ?_
        rintro _ _ _ ⟨rfl, ⟨_, rfl, rfl, rfl⟩⟩
        refine W_end ?_
        refine E_then ?_
        refine C_cond (b := r340) rfl (fun hb342 => ?_) (fun hb342 => ?_)
        · have hm := ite_t' hb342 hm
          refine C_seq ?_
          refine C_region ?_
          refine W_assign rfl rfl rfl ?_
          refine W_assign rfl rfl rfl ?_
          refine W_end ?_
          refine E_then ?_
          refine C_ret ?_
          refine E_ret_then ?_
          refine E_nilRow 3 (Rep.sz Int) ?_
          obtain rfl := Option.some.inj hm
          refine E_drop (List.Sublist.cons_cons _ (List.Sublist.cons _ (List.Sublist.cons _ (List.Sublist.cons _ (List.Sublist.cons _ (List.Sublist.cons _ (List.Sublist.cons _ (List.Sublist.refl _)))))))) ?_
          refine E_weak (Hp.le_trans hle163 hle292) ?_
          exact end2 rfl rfl rfl ⟨rfl, (.slice none 0 0), [], rfl, rfl, (Rw.nil (H := H)).toF⟩
        · have hm := ite_f' hb342 hm
          refine C_skip ?_
          refine E_then ?_
          refine C_seq ?_
          refine C_region ?_
          refine W_move rfl rfl rfl ?_
          refine W_assign rfl rfl rfl ?_
          refine W_assign rfl rfl rfl ?_
          refine W_end ?_
          refine E_then ?_
          refine C_ret ?_
          obtain rfl := Option.some.inj hm
          refine E_drop (List.Sublist.cons _ (List.Sublist.cons_cons _ (List.Sublist.cons _ (List.Sublist.cons _ (List.Sublist.cons _ (List.Sublist.cons _ (List.Sublist.refl _))))))) ?_
          refine E_weak (Hp.le_trans hle163 hle292) ?_
          exact end2 rfl rfl rfl ⟨rfl, v287, xs288, rfl, rfl, (hr290).toF⟩

theorem m_islands_Of_c {B : Nat} {w0 w : World} {H : Hp} {M : List Res} {p0_n : S_api_Network} {v0 : Value} {v1 : Value} {v2 : Value} {v3 : Value} {v4 : Value} {v5 : Value} {r : (List S_api_IslandsSum) × Int} (hm : m_islands_Of p0_n = some r) (h0 : RdS H v0 p0_n.Nodes) (h1 : RdS H v1 p0_n.Switches) (h2 : RdS H v2 p0_n.Branches) (h3 : RdS H v3 p0_n.Gens) (h4 : RdS H v4 p0_n.Loads) (h5 : RdS H v5 p0_n.Stores) (ht : St B w0 H (M) w) :
    Calls Proofs.Try.prog 10 [.agg [v0, v1, v2, v3, v4, v5].toArray].toArray w (Ret B w0 fun H' M' v => H = H' ∧ ∃ qv0 : Value, ∃ qxs0 : List Value, .row qv0 41 (Rep.sz S_api_IslandsSum) r.1.length qxs0 :: M = M' ∧ .tuple #[qv0, .int .i64 (r.2)] = v ∧ RwF qv0 qxs0 r.1) := by
  unfold m_islands_Of at hm
  refine enter Proofs.Try.func10 rfl rfl rfl ht ?_
  refine C_seq ?_
  refine C_region ?_
  refine W_box (cs := [v0, v1, v2, v3, v4, v5]) rfl rfl rfl rfl (fun b101 => ?_)
  refine W_assign rfl rfl rfl ?_
  refine W_assign rfl rfl rfl ?_
  refine W_end ?_
  refine E_then ?_
  refine C_seq ?_
  refine C_seq ?_
  refine C_region ?_
  refine W_loadAgg rfl rfl Proofs.Try.isAgg29 Proofs.Try.sizeOf29 rfl (own_all (List.mem_cons_self ..)) rfl ?_
  obtain ⟨r102, hc103, hm⟩ := bind_some hm
  refine W_call Proofs.Try.call13 rfl rfl rfl (fun w ht => by have h := m_netmodel_Check_c (hm := hc103) h0 h1 h2 h3 h4 h5 ht; exact h) ?_
  rintro _ _ _ ⟨rfl, rfl, rfl⟩
  refine W_assign rfl rfl rfl ?_
  refine W_end ?_
  refine E_then ?_
  refine C_seq ?_
  refine C_region ?_
  refine W_move rfl rfl rfl ?_
  refine W_bin rfl rfl rfl rfl rfl ?_
  refine W_end ?_
  refine E_then ?_
  refine C_cond (b := !decide (r102 = 0)) rfl (fun hb104 => ?_) (fun hb104 => ?_)
  · have hm := ite_t' hb104 hm
    refine C_seq ?_
    refine C_region ?_
    refine W_move rfl rfl rfl ?_
    refine W_assign rfl rfl rfl ?_
    refine W_assign rfl rfl rfl ?_
    refine W_end ?_
    refine E_then ?_
    refine C_ret ?_
    refine E_ret_then ?_
    refine E_nilRow 41 (Rep.sz S_api_IslandsSum) ?_
    obtain rfl := Option.some.inj hm
    refine E_drop (List.Sublist.cons_cons _ (List.Sublist.cons _ (List.Sublist.refl _))) ?_
    refine E_weak (Hp.le_refl _) ?_
    exact end2 rfl rfl rfl ⟨rfl, (.slice none 0 0), [], rfl, rfl, (Rw.nil (H := H)).toF⟩
  · have hm := ite_f' hb104 hm
    refine C_skip ?_
    refine E_then ?_
    refine C_seq ?_
    refine C_region ?_
    refine W_loadAgg rfl rfl Proofs.Try.isAgg29 Proofs.Try.sizeOf29 rfl (own_all (List.mem_cons_self ..)) rfl ?_
    obtain ⟨r105, hc106, hm⟩ := bind_some hm
    refine W_call Proofs.Try.call32 rfl rfl rfl (fun w ht => by have h := m_islands_sums_c (hm := hc106) h0 h1 h2 h3 h4 h5 ht; exact h) ?_
    rintro _ _ _ ⟨rfl, v107, xs108, rfl, rfl, h109⟩
    have h109 := h109 H
    refine W_assign rfl rfl rfl ?_
    refine W_assign rfl rfl rfl ?_
    refine W_end ?_
    refine E_then ?_
    refine C_ret ?_
    obtain rfl := Option.some.inj hm
    refine E_drop (List.Sublist.cons_cons _ (List.Sublist.cons _ (List.Sublist.refl _))) ?_
    refine E_weak (Hp.le_refl _) ?_
    exact end2 rfl rfl rfl ⟨rfl, v107, xs108, rfl, rfl, (h109).toF⟩

theorem m_gridhallkeep4_two_c {B : Nat} {w0 w : World} {H : Hp} {M : List Res} {r : S_api_Network} (hm : m_gridhallkeep4_two = r) (ht : St B w0 H (M) w) :
    Calls Proofs.Try.prog 36 [].toArray w (Ret B w0 fun H' M' v => H.le H' ∧ ∃ qv0 : Value, ∃ qxs0 : List Value, ∃ qv1 : Value, ∃ qxs1 : List Value, ∃ qv2 : Value, ∃ qxs2 : List Value, ∃ qv3 : Value, ∃ qxs3 : List Value, ∃ qv4 : Value, ∃ qxs4 : List Value, ∃ qv5 : Value, .row qv0 9 (Rep.sz ByteArray) r.Nodes.length qxs0 :: .row qv1 92 (Rep.sz S_api_Switch) r.Switches.length qxs1 :: .row qv2 47 (Rep.sz S_api_Branch) r.Branches.length qxs2 :: .row qv3 39 (Rep.sz S_api_Gen) r.Gens.length qxs3 :: .row qv4 43 (Rep.sz S_api_Load) r.Loads.length qxs4 :: M = M' ∧ .agg [qv0, qv1, qv2, qv3, qv4, qv5].toArray = v ∧ Rw H' qv0 qxs0 r.Nodes ∧ Rw H' qv1 qxs1 r.Switches ∧ Rw H' qv2 qxs2 r.Branches ∧ Rw H' qv3 qxs3 r.Gens ∧ Rw H' qv4 qxs4 r.Loads ∧ RdS H' qv5 r.Stores) := by
  unfold m_gridhallkeep4_two at hm
  refine enter Proofs.Try.func36 rfl rfl rfl ht ?_
  refine C_seq ?_
  refine C_region ?_
  refine W_alloc (cs := [.slice none 0 0, .slice none 0 0, .slice none 0 0, .slice none 0 0, .slice none 0 0, .slice none 0 0]) rfl rfl Proofs.Try.zeroValue29 rfl (fun b101 => ?_)
  refine W_end ?_
  refine E_then ?_
  refine C_seq ?_
  refine C_region ?_
  refine W_buildSliceO (α := ByteArray) (css := [[.string (⟨#[65]⟩)], [.string (⟨#[66]⟩)]]) (zs := [.string (⟨#[]⟩), .string (⟨#[]⟩)]) (out := [.string (⟨#[65]⟩), .string (⟨#[66]⟩)]) (ys := [(⟨#[65]⟩), (⟨#[66]⟩)]) rfl rfl rfl ⟨rfl, rfl, trivial⟩ Proofs.Try.runUnderlying22 Proofs.Try.sizeOf9 rfl Proofs.Try.zeroValue9 (by kernel_rfl) rfl rfl rfl rfl ⟨[.string (⟨#[65]⟩)], [.string (⟨#[66]⟩)], rfl, rfl, ⟨[.string (⟨#[66]⟩)], [], rfl, rfl, rfl⟩⟩ rfl ?_
  intro v102 xs103 hr104
  refine W_build (css := [[.string (⟨#[76]⟩)], [.string (⟨#[65]⟩)], [.string (⟨#[66]⟩)], [.int .i64 (1000)], [.int .i64 (1000)], [.int .i64 (40)], [.int .i64 (60)], [.int .i64 (10)]]) (zs := [.string (⟨#[]⟩), .string (⟨#[]⟩), .string (⟨#[]⟩), .int .i64 (0), .int .i64 (0), .int .i64 (0), .int .i64 (0), .int .i64 (0), .int .i64 (0)]) (out := [.string (⟨#[76]⟩), .string (⟨#[65]⟩), .string (⟨#[66]⟩), .int .i64 (1000), .int .i64 (1000), .int .i64 (0), .int .i64 (40), .int .i64 (60), .int .i64 (10)]) (places := [(0, 1), (1, 1), (2, 1), (3, 1), (4, 1), (5, 1), (6, 1), (7, 1), (8, 1)]) rfl rfl rfl ⟨rfl, rfl, rfl, rfl, rfl, rfl, rfl, rfl, trivial⟩ Proofs.Try.zeroValue47 rfl Proofs.Try.runUnderlying47 (fun w => by kernel_rfl) rfl ?_
  refine W_buildSliceO (α := S_api_Branch) (css := [[.string (⟨#[76]⟩), .string (⟨#[65]⟩), .string (⟨#[66]⟩), .int .i64 (1000), .int .i64 (1000), .int .i64 (0), .int .i64 (40), .int .i64 (60), .int .i64 (10)]]) (zs := [.string (⟨#[]⟩), .string (⟨#[]⟩), .string (⟨#[]⟩), .int .i64 (0), .int .i64 (0), .int .i64 (0), .int .i64 (0), .int .i64 (0), .int .i64 (0)]) (out := [.string (⟨#[76]⟩), .string (⟨#[65]⟩), .string (⟨#[66]⟩), .int .i64 (1000), .int .i64 (1000), .int .i64 (0), .int .i64 (40), .int .i64 (60), .int .i64 (10)]) (ys := [(S_api_Branch.mk (⟨#[76]⟩) (⟨#[65]⟩) (⟨#[66]⟩) 1000 1000 0 40 60 10)]) rfl rfl rfl ⟨rfl, trivial⟩ Proofs.Try.runUnderlying24 Proofs.Try.sizeOf47 rfl Proofs.Try.zeroValue47 (by kernel_rfl) rfl rfl rfl rfl ⟨[.string (⟨#[76]⟩), .string (⟨#[65]⟩), .string (⟨#[66]⟩), .int .i64 (1000), .int .i64 (1000), .int .i64 (0), .int .i64 (40), .int .i64 (60), .int .i64 (10)], [], rfl, rfl, rfl⟩ rfl ?_
  intro v105 xs106 hr107
  refine W_build (css := [[.string (⟨#[83]⟩)], [.string (⟨#[65]⟩)], [.string (⟨#[66]⟩)], [.bool (true)]]) (zs := [.string (⟨#[]⟩), .string (⟨#[]⟩), .string (⟨#[]⟩), .bool (false), .bool (false)]) (out := [.string (⟨#[83]⟩), .string (⟨#[65]⟩), .string (⟨#[66]⟩), .bool (false), .bool (true)]) (places := [(0, 1), (1, 1), (2, 1), (3, 1), (4, 1)]) rfl rfl rfl ⟨rfl, rfl, rfl, rfl, trivial⟩ Proofs.Try.zeroValue92 rfl Proofs.Try.runUnderlying92 (fun w => by kernel_rfl) rfl ?_
  refine W_buildSliceO (α := S_api_Switch) (css := [[.string (⟨#[83]⟩), .string (⟨#[65]⟩), .string (⟨#[66]⟩), .bool (false), .bool (true)]]) (zs := [.string (⟨#[]⟩), .string (⟨#[]⟩), .string (⟨#[]⟩), .bool (false), .bool (false)]) (out := [.string (⟨#[83]⟩), .string (⟨#[65]⟩), .string (⟨#[66]⟩), .bool (false), .bool (true)]) (ys := [(S_api_Switch.mk (⟨#[83]⟩) (⟨#[65]⟩) (⟨#[66]⟩) false true)]) rfl rfl rfl ⟨rfl, trivial⟩ Proofs.Try.runUnderlying23 Proofs.Try.sizeOf92 rfl Proofs.Try.zeroValue92 (by kernel_rfl) rfl rfl rfl rfl ⟨[.string (⟨#[83]⟩), .string (⟨#[65]⟩), .string (⟨#[66]⟩), .bool (false), .bool (true)], [], rfl, rfl, rfl⟩ rfl ?_
  intro v108 xs109 hr110
  refine W_build (css := [[.string (⟨#[71]⟩)], [.string (⟨#[65]⟩)], [.int .i64 (10)], [.int .i64 (50)]]) (zs := [.string (⟨#[]⟩), .string (⟨#[]⟩), .int .i64 (0), .int .i64 (0), .int .i64 (0)]) (out := [.string (⟨#[71]⟩), .string (⟨#[65]⟩), .int .i64 (10), .int .i64 (50), .int .i64 (0)]) (places := [(0, 1), (1, 1), (2, 1), (3, 1), (4, 1)]) rfl rfl rfl ⟨rfl, rfl, rfl, rfl, trivial⟩ Proofs.Try.zeroValue39 rfl Proofs.Try.runUnderlying39 (fun w => by kernel_rfl) rfl ?_
  refine W_buildSliceO (α := S_api_Gen) (css := [[.string (⟨#[71]⟩), .string (⟨#[65]⟩), .int .i64 (10), .int .i64 (50), .int .i64 (0)]]) (zs := [.string (⟨#[]⟩), .string (⟨#[]⟩), .int .i64 (0), .int .i64 (0), .int .i64 (0)]) (out := [.string (⟨#[71]⟩), .string (⟨#[65]⟩), .int .i64 (10), .int .i64 (50), .int .i64 (0)]) (ys := [(S_api_Gen.mk (⟨#[71]⟩) (⟨#[65]⟩) 10 50 0)]) rfl rfl rfl ⟨rfl, trivial⟩ Proofs.Try.runUnderlying25 Proofs.Try.sizeOf39 rfl Proofs.Try.zeroValue39 (by kernel_rfl) rfl rfl rfl rfl ⟨[.string (⟨#[71]⟩), .string (⟨#[65]⟩), .int .i64 (10), .int .i64 (50), .int .i64 (0)], [], rfl, rfl, rfl⟩ rfl ?_
  intro v111 xs112 hr113
  refine W_build (css := [[.string (⟨#[68]⟩)], [.string (⟨#[66]⟩)], [.int .i64 (30)]]) (zs := [.string (⟨#[]⟩), .string (⟨#[]⟩), .int .i64 (0)]) (out := [.string (⟨#[68]⟩), .string (⟨#[66]⟩), .int .i64 (30)]) (places := [(0, 1), (1, 1), (2, 1)]) rfl rfl rfl ⟨rfl, rfl, rfl, trivial⟩ Proofs.Try.zeroValue43 rfl Proofs.Try.runUnderlying43 (fun w => by kernel_rfl) rfl ?_
  refine W_buildSliceO (α := S_api_Load) (css := [[.string (⟨#[68]⟩), .string (⟨#[66]⟩), .int .i64 (30)]]) (zs := [.string (⟨#[]⟩), .string (⟨#[]⟩), .int .i64 (0)]) (out := [.string (⟨#[68]⟩), .string (⟨#[66]⟩), .int .i64 (30)]) (ys := [(S_api_Load.mk (⟨#[68]⟩) (⟨#[66]⟩) 30)]) rfl rfl rfl ⟨rfl, trivial⟩ Proofs.Try.runUnderlying26 Proofs.Try.sizeOf43 rfl Proofs.Try.zeroValue43 (by kernel_rfl) rfl rfl rfl rfl ⟨[.string (⟨#[68]⟩), .string (⟨#[66]⟩), .int .i64 (30)], [], rfl, rfl, rfl⟩ rfl ?_
  intro v114 xs115 hr116
  refine W_build (css := [[v102], [v105], [v108], [v111], [v114]]) (zs := [.slice none 0 0, .slice none 0 0, .slice none 0 0, .slice none 0 0, .slice none 0 0, .slice none 0 0]) (out := [v102, v108, v105, v111, v114, .slice none 0 0]) (places := [(0, 1), (1, 1), (2, 1), (3, 1), (4, 1), (5, 1)]) rfl rfl rfl ⟨(Rw.cells hr104), (Rw.cells hr107), (Rw.cells hr110), (Rw.cells hr113), (Rw.cells hr116), trivial⟩ Proofs.Try.zeroValue29 rfl Proofs.Try.runUnderlying29 (fun w => by kernel_rfl) rfl ?_
  refine W_perm (List.Perm.trans (List.Perm.cons _ (List.Perm.cons _ (List.Perm.cons _ (List.Perm.cons _ (List.Perm.swap _ _ _))))) (List.Perm.trans (List.Perm.cons _ (List.Perm.cons _ (List.Perm.cons _ (List.Perm.swap _ _ _)))) (List.Perm.trans (List.Perm.cons _ (List.Perm.cons _ (List.Perm.swap _ _ _))) (List.Perm.trans (List.Perm.cons _ (List.Perm.swap _ _ _)) (List.Perm.swap _ _ _))))) ?_
  refine W_store (cs := [v102, v108, v105, v111, v114, .slice none 0 0]) (out := [v102, v108, v105, v111, v114, .slice none 0 0]) rfl Proofs.Try.sizeOf29 rfl rfl rfl rfl rfl (all_cons (Rw.one hr104) (all_cons (Rw.one hr110) (all_cons (Rw.one hr107) (all_cons (Rw.one hr113) (all_cons (Rw.one hr116) (all_cons rfl all_nil)))))) (over_all rfl) ?_
  refine W_end ?_
  refine E_then ?_
  refine C_ret ?_
  obtain rfl := hm
  exact endC1 (Hp.le_refl _) rfl (ResV.agg rfl Proofs.Try.isAgg29 Proofs.Try.sizeOf29 (List.mem_cons_self ..) rfl) (List.Sublist.cons _ (List.Sublist.refl _)) (List.Perm.trans (List.Perm.cons _ (List.Perm.cons _ (List.Perm.cons _ (List.Perm.swap _ _ _)))) (List.Perm.trans (List.Perm.cons _ (List.Perm.cons _ (List.Perm.swap _ _ _))) (List.Perm.trans (List.Perm.cons _ (List.Perm.swap _ _ _)) (List.Perm.trans (List.Perm.swap _ _ _) (List.Perm.trans (List.Perm.cons _ (List.Perm.cons _ (List.Perm.swap _ _ _))) (List.Perm.trans (List.Perm.cons _ (List.Perm.swap _ _ _)) (List.Perm.trans (List.Perm.cons _ (List.Perm.cons _ (List.Perm.cons _ (List.Perm.swap _ _ _)))) (List.Perm.trans (List.Perm.cons _ (List.Perm.cons _ (List.Perm.swap _ _ _))) (List.Perm.cons _ (List.Perm.cons _ (List.Perm.cons _ (List.Perm.swap _ _ _)))))))))))) ⟨(Hp.le_refl _), v102, xs103, v108, xs109, v105, xs106, v111, xs112, v114, xs115, (.slice none 0 0), rfl, rfl, hr104, hr110, hr107, hr113, hr116, RdS.nil⟩

theorem m_slices_Equal_api_IslandsSum_api_IslandsSum_c {B : Nat} {w0 w : World} {H : Hp} {M : List Res} {p0_s1 : (List S_api_IslandsSum)} {p1_s2 : (List S_api_IslandsSum)} {v0 : Value} {v1 : Value} {r : Bool} (hm : m_slices_Equal_api_IslandsSum_api_IslandsSum p0_s1 p1_s2 = some r) (h0 : RdS H v0 p0_s1) (h1 : RdS H v1 p1_s2) (ht : St B w0 H (M) w) :
    Calls Proofs.Try.prog 37 [v0, v1].toArray w (Ret B w0 fun H' M' v => H = H' ∧ M = M' ∧ .bool (r) = v) := by
  unfold m_slices_Equal_api_IslandsSum_api_IslandsSum at hm
  refine enter Proofs.Try.func37 rfl rfl rfl ht ?_
  refine C_seq ?_
  refine C_region ?_
  refine W_assign rfl rfl rfl ?_
  refine W_end ?_
  refine E_then ?_
  refine C_seq ?_
  refine C_seq ?_
  refine C_region ?_
  refine W_move rfl rfl rfl ?_
  refine W_lenR rfl rfl Proofs.Try.runUnderlying34 rfl h0 ?_
  refine W_move rfl rfl rfl ?_
  refine W_lenR rfl rfl Proofs.Try.runUnderlying34 rfl h1 ?_
  refine W_bin rfl rfl rfl rfl rfl ?_
  refine W_end ?_
  refine E_then ?_
  refine C_cond (b := !decide ((p0_s1.length : Int) = (p1_s2.length : Int))) rfl (fun hb101 => ?_) (fun hb101 => ?_)
  · have hm := ite_t' hb101 hm
    refine C_seq ?_
    refine C_region ?_
    refine W_assign rfl rfl rfl ?_
    refine W_end ?_
    refine E_then ?_
    refine C_ret ?_
    refine E_ret_then ?_
    obtain rfl := Option.some.inj hm
    refine E_weak (Hp.le_refl _) ?_
    exact end1 rfl rfl ⟨rfl, rfl, rfl⟩
  · have hm := ite_f' hb101 hm
    refine C_skip ?_
    refine E_then ?_
    refine C_seq ?_
    refine C_seq ?_
    refine C_region ?_
    refine W_move rfl rfl rfl ?_
    refine W_lenR rfl rfl Proofs.Try.runUnderlying34 rfl h0 ?_
    refine W_move rfl rfl rfl ?_
    refine W_end ?_
    refine E_then ?_
    refine C_block ?_
    refine C_keep (L' := [(0, v0), (1, v1), (12, .int .i64 ((p0_s1.length : Int))), (13, .int .i64 (((0 : Nat) : Int)))]) ⟨rfl, rfl, rfl, rfl, trivial⟩ (List.Perm.refl _) ?_
    refine C_loop (fun n H' M' L' => ∃ (k102 : Nat) (zs136' : Nat), k102 + zs136' = ((p0_s1.length : Int) : Int).toNat ∧ zs136' = n ∧ forN (fun k s131 n => m_slices_Equal_api_IslandsSum_api_IslandsSum_b1 p0_s1 p1_s2 k n) (fun _ => some true) zs136' k102 () = some r ∧ H.le H' ∧ M = M' ∧ [(0, v0), (1, v1), (12, .int .i64 ((p0_s1.length : Int))), (13, .int .i64 ((k102 : Int)))] = L') _ ⟨0, _, Nat.zero_add _, rfl, hm, (Hp.le_refl _), rfl, rfl⟩ ?_
    rintro _ H129 _ _ ⟨k102, zs136', hd138, rfl, hm, hle130, rfl, rfl⟩
    refine C_seq ?_
    refine C_region ?_
    refine W_bin rfl rfl rfl rfl rfl ?_
    refine W_end (E_then ?_)
    refine C_seq ?_
    refine C_cond (b := decide ((k102 : Int) < (p0_s1.length : Int))) rfl (fun hb140 => ?_) (fun hb140 => ?_)
    · obtain ⟨zs136, rfl, hd139, hy137⟩ := rngN_t hd138 hb140
      have hm : m_slices_Equal_api_IslandsSum_api_IslandsSum_b1 p0_s1 p1_s2 k102 (forN (fun k s131 n => m_slices_Equal_api_IslandsSum_api_IslandsSum_b1 p0_s1 p1_s2 k n) (fun _ => some true) zs136 (k102 + 1)) = some r := hm
      generalize hn133 : forN (fun k s131 n => m_slices_Equal_api_IslandsSum_api_IslandsSum_b1 p0_s1 p1_s2 k n) (fun _ => some true) zs136 (k102 + 1) = nx132 at hm
      unfold m_slices_Equal_api_IslandsSum_api_IslandsSum_b1 at hm
      refine C_skip (E_then ?_)
      refine C_seq ?_
      refine C_block ?_
      refine C_seq ?_
      refine C_region ?_
      refine W_move rfl rfl rfl ?_
      refine W_assign rfl rfl rfl ?_
      refine W_end ?_
      refine E_then ?_
      refine C_seq ?_
      obtain ⟨y141, h142, he143, hm⟩ := idx_some hm
      obtain ⟨_, ⟨rfl⟩, hc144⟩ := (h0).elem he143
      obtain ⟨y145, h146, he147, hm⟩ := idx_some hm
      obtain ⟨_, ⟨rfl⟩, hc148⟩ := (h1).elem he147
      refine C_region_tok0 8 (phiT [(fun H rs v => [] = rs ∧ v0 = v), (fun H rs v => [] = rs ∧ .int .i64 ((k102 : Int)) = v), (fun H rs v => [] = rs ∧ .pointer (some ((Value.base (v0)).add (((k102 : Int) : Int).toNat * 3))) = v), (fun H rs v => [] = rs ∧ .agg [.int .i64 (y141.Least), .int .i64 (y141.Most), .int .i64 (y141.Demand)].toArray = v), (fun H rs v => [] = rs ∧ v1 = v), (fun H rs v => [] = rs ∧ .int .i64 ((k102 : Int)) = v), (fun H rs v => [] = rs ∧ .pointer (some ((Value.base (v1)).add (((k102 : Int) : Int).toNat * 3))) = v), (fun H rs v => [] = rs ∧ .agg [.int .i64 (y145.Least), .int .i64 (y145.Most), .int .i64 (y145.Demand)].toArray = v)]) [[], [], [], [], [], [], [], []] [[], [], [], [], [], [], [], []] [] [0, 1, 2, 3, 4, 5, 6, 7] Facts.mixed (by kernel_rfl) rfl rfl rfl (by kernel_rfl) (phiT_mono ⟨eq_monoT _ _, eq_monoT _ _, eq_monoT _ _, eq_monoT _ _, eq_monoT _ _, eq_monoT _ _, eq_monoT _ _, eq_monoT _ _, trivial⟩) ⟨?_, ?_, ?_, ?_, ?_, ?_, ?_, ?_, trivial⟩ ?_
      · intro HX hX X Rest hR
        intro hU
        refine W_move rfl rfl rfl ?_
        exact W_end (OneT_end [] (Hp.le_refl _) ⟨rfl, rfl⟩)
      · intro HX hX X Rest hR
        intro hU
        refine W_move rfl rfl rfl ?_
        exact W_end (OneT_end [] (Hp.le_refl _) ⟨rfl, rfl⟩)
      · intro HX hX X Rest hR
        rintro _ _ ⟨rfl, rfl⟩
        rintro _ _ ⟨rfl, rfl⟩
        intro hU
        refine W_indexS rfl rfl Proofs.Try.runUnderlying34 Proofs.Try.sizeOf41 rfl ((h0.mono hle130).mono hX) rfl h142 he143 ?_
        exact W_end (OneT_end [] (Hp.le_refl _) ⟨rfl, rfl⟩)
      · intro HX hX X Rest hR
        rintro _ _ ⟨rfl, rfl⟩
        intro hU
        refine W_loadAgg rfl rfl Proofs.Try.isAgg41 Proofs.Try.sizeOf41 rfl ((hc144.mono hle130).mono hX).at rfl ?_
        exact W_end (OneT_end [] (Hp.le_refl _) ⟨rfl, rfl⟩)
      · intro HX hX X Rest hR
        intro hU
        refine W_move rfl rfl rfl ?_
        exact W_end (OneT_end [] (Hp.le_refl _) ⟨rfl, rfl⟩)
      · intro HX hX X Rest hR
        intro hU
        refine W_move rfl rfl rfl ?_
        exact W_end (OneT_end [] (Hp.le_refl _) ⟨rfl, rfl⟩)
      · intro HX hX X Rest hR
        rintro _ _ ⟨rfl, rfl⟩
        rintro _ _ ⟨rfl, rfl⟩
        intro hU
        refine W_indexS rfl rfl Proofs.Try.runUnderlying34 Proofs.Try.sizeOf41 rfl ((h1.mono hle130).mono hX) rfl h146 he147 ?_
        exact W_end (OneT_end [] (Hp.le_refl _) ⟨rfl, rfl⟩)
      · intro HX hX X Rest hR
        rintro _ _ ⟨rfl, rfl⟩
        intro hU
        refine W_loadAgg rfl rfl Proofs.Try.isAgg41 Proofs.Try.sizeOf41 rfl ((hc148.mono hle130).mono hX).at rfl ?_
        exact W_end (OneT_end [] (Hp.le_refl _) ⟨rfl, rfl⟩)
      intro H149 hle150
      rintro _ _ ⟨rfl, rfl⟩
      rintro _ _ ⟨rfl, rfl⟩
      rintro _ _ ⟨rfl, rfl⟩
      rintro _ _ ⟨rfl, rfl⟩
      rintro _ _ ⟨rfl, rfl⟩
      rintro _ _ ⟨rfl, rfl⟩
      rintro _ _ ⟨rfl, rfl⟩
      rintro _ _ ⟨rfl, rfl⟩
      refine W_neAgg (b := decide (y141.Least = y145.Least) && (decide (y141.Most = y145.Most) && (decide (y141.Demand = y145.Demand) && true))) rfl rfl (by kernel_rfl) rfl rfl (fun w => run_equal_struct (bs := [decide (y141.Least = y145.Least), decide (y141.Most = y145.Most), decide (y141.Demand = y145.Demand)]) Proofs.Try.runUnderlying41 (by kernel_rfl) ⟨(by decide), (fldEq_int Proofs.Try.isAgg3 Proofs.Try.runUnderlying3 rfl rfl), (by decide), (fldEq_int Proofs.Try.isAgg3 Proofs.Try.runUnderlying3 rfl rfl), (by decide), (fldEq_int Proofs.Try.isAgg3 Proofs.Try.runUnderlying3 rfl rfl), trivial⟩) ?_
      refine W_end ?_
      refine E_then ?_
      refine C_cond (b := !(decide (y141.Least = y145.Least) && (decide (y141.Most = y145.Most) && (decide (y141.Demand = y145.Demand) && true)))) rfl (fun hb151 => ?_) (fun hb151 => ?_)
      · have hm := ite_t' hb151 hm
        refine C_seq ?_
        refine C_region ?_
        refine W_assign rfl rfl rfl ?_
        refine W_end ?_
        refine E_then ?_
        refine C_ret ?_
        refine E_ret_block ?_
        refine E_ret_then ?_
        refine E_ret_then ?_
        refine E_ret_block ?_
        refine E_ret_then ?_
        obtain rfl := Option.some.inj hm
        refine E_weak (Hp.le_trans hle130 hle150) ?_
        exact end1 rfl rfl ⟨rfl, rfl, rfl⟩
      · have hm := ite_f' hb151 hm
        refine C_skip ?_
        refine E_normal_block ?_
        refine E_then ?_
        refine C_region ?_
        refine W_bin rfl rfl rfl rfl rfl ?_
        refine W_move rfl rfl rfl ?_
        refine W_end ?_
        exact E_keepJ (E_back (Nat.lt_succ_self _) ⟨k102 + 1, zs136, hd139, rfl, (by rw [hn133]; exact hm), (Hp.le_trans hle130 hle150), rfl, rfl⟩) (List.Perm.refl _) ⟨rfl, rfl, rfl, (congrArg (fun z => some (Value.int .i64 z)) (i64_succN hy137 (toNat_max (len_max (h0).lenMax)))), trivial⟩
    · obtain rfl := rngN_f hd138 hb140
      have hm : (some true) = some r := hm
      refine C_exit (E_exit_then ?_)
      refine E_exit_then ?_
      refine E_exit_hit ?_
      refine E_then ?_
      refine C_seq ?_
      refine C_region ?_
      refine W_assign rfl rfl rfl ?_
      refine W_end ?_
      refine E_then ?_
      refine C_ret ?_
      obtain rfl := Option.some.inj hm
      refine E_weak hle130 ?_
      exact end1 rfl rfl ⟨rfl, rfl, rfl⟩

theorem m_slices_Equal_int_int_c {B : Nat} {w0 w : World} {H : Hp} {M : List Res} {p0_s1 : (List Int)} {p1_s2 : (List Int)} {v0 : Value} {v1 : Value} {r : Bool} (hm : m_slices_Equal_int_int p0_s1 p1_s2 = some r) (h0 : RdS H v0 p0_s1) (h1 : RdS H v1 p1_s2) (ht : St B w0 H (M) w) :
    Calls Proofs.Try.prog 38 [v0, v1].toArray w (Ret B w0 fun H' M' v => H = H' ∧ M = M' ∧ .bool (r) = v) := by
  unfold m_slices_Equal_int_int at hm
  refine enter Proofs.Try.func38 rfl rfl rfl ht ?_
  refine C_seq ?_
  refine C_region ?_
  refine W_assign rfl rfl rfl ?_
  refine W_end ?_
  refine E_then ?_
  refine C_seq ?_
  refine C_seq ?_
  refine C_region ?_
  refine W_move rfl rfl rfl ?_
  refine W_lenR rfl rfl Proofs.Try.runUnderlying30 rfl h0 ?_
  refine W_move rfl rfl rfl ?_
  refine W_lenR rfl rfl Proofs.Try.runUnderlying30 rfl h1 ?_
  refine W_bin rfl rfl rfl rfl rfl ?_
  refine W_end ?_
  refine E_then ?_
  refine C_cond (b := !decide ((p0_s1.length : Int) = (p1_s2.length : Int))) rfl (fun hb101 => ?_) (fun hb101 => ?_)
  · have hm := ite_t' hb101 hm
    refine C_seq ?_
    refine C_region ?_
    refine W_assign rfl rfl rfl ?_
    refine W_end ?_
    refine E_then ?_
    refine C_ret ?_
    refine E_ret_then ?_
    obtain rfl := Option.some.inj hm
    refine E_weak (Hp.le_refl _) ?_
    exact end1 rfl rfl ⟨rfl, rfl, rfl⟩
  · have hm := ite_f' hb101 hm
    refine C_skip ?_
    refine E_then ?_
    refine C_seq ?_
    refine C_seq ?_
    refine C_region ?_
    refine W_move rfl rfl rfl ?_
    refine W_lenR rfl rfl Proofs.Try.runUnderlying30 rfl h0 ?_
    refine W_move rfl rfl rfl ?_
    refine W_end ?_
    refine E_then ?_
    refine C_block ?_
    refine C_keep (L' := [(0, v0), (1, v1), (12, .int .i64 ((p0_s1.length : Int))), (13, .int .i64 (((0 : Nat) : Int)))]) ⟨rfl, rfl, rfl, rfl, trivial⟩ (List.Perm.refl _) ?_
    refine C_loop (fun n H' M' L' => ∃ (k102 : Nat) (zs136' : Nat), k102 + zs136' = ((p0_s1.length : Int) : Int).toNat ∧ zs136' = n ∧ forN (fun k s131 n => m_slices_Equal_int_int_b1 p0_s1 p1_s2 k n) (fun _ => some true) zs136' k102 () = some r ∧ H.le H' ∧ M = M' ∧ [(0, v0), (1, v1), (12, .int .i64 ((p0_s1.length : Int))), (13, .int .i64 ((k102 : Int)))] = L') _ ⟨0, _, Nat.zero_add _, rfl, hm, (Hp.le_refl _), rfl, rfl⟩ ?_
    rintro _ H129 _ _ ⟨k102, zs136', hd138, rfl, hm, hle130, rfl, rfl⟩
    refine C_seq ?_
    refine C_region ?_
    refine W_bin rfl rfl rfl rfl rfl ?_
    refine W_end (E_then ?_)
    refine C_seq ?_
    refine C_cond (b := decide ((k102 : Int) < (p0_s1.length : Int))) rfl (fun hb140 => ?_) (fun hb140 => ?_)
    · obtain ⟨zs136, rfl, hd139, hy137⟩ := rngN_t hd138 hb140
      have hm : m_slices_Equal_int_int_b1 p0_s1 p1_s2 k102 (forN (fun k s131 n => m_slices_Equal_int_int_b1 p0_s1 p1_s2 k n) (fun _ => some true) zs136 (k102 + 1)) = some r := hm
      generalize hn133 : forN (fun k s131 n => m_slices_Equal_int_int_b1 p0_s1 p1_s2 k n) (fun _ => some true) zs136 (k102 + 1) = nx132 at hm
      unfold m_slices_Equal_int_int_b1 at hm
      refine C_skip (E_then ?_)
      refine C_seq ?_
      refine C_block ?_
      refine C_seq ?_
      refine C_region ?_
      refine W_move rfl rfl rfl ?_
      refine W_assign rfl rfl rfl ?_
      refine W_end ?_
      refine E_then ?_
      refine C_seq ?_
      obtain ⟨y141, h142, he143, hm⟩ := idx_some hm
      obtain ⟨_, rfl, hc144⟩ := (h0).elem he143
      obtain ⟨y145, h146, he147, hm⟩ := idx_some hm
      obtain ⟨_, rfl, hc148⟩ := (h1).elem he147
      refine C_region_tok0 8 (phiT [(fun H rs v => [] = rs ∧ v0 = v), (fun H rs v => [] = rs ∧ .int .i64 ((k102 : Int)) = v), (fun H rs v => [] = rs ∧ .pointer (some ((Value.base (v0)).add (((k102 : Int) : Int).toNat * 1))) = v), (fun H rs v => [] = rs ∧ .int .i64 (y141) = v), (fun H rs v => [] = rs ∧ v1 = v), (fun H rs v => [] = rs ∧ .int .i64 ((k102 : Int)) = v), (fun H rs v => [] = rs ∧ .pointer (some ((Value.base (v1)).add (((k102 : Int) : Int).toNat * 1))) = v), (fun H rs v => [] = rs ∧ .int .i64 (y145) = v)]) [[], [], [], [], [], [], [], []] [[], [], [], [], [], [], [], []] [] [0, 1, 2, 3, 4, 5, 6, 7] Facts.mixed (by kernel_rfl) rfl rfl rfl (by kernel_rfl) (phiT_mono ⟨eq_monoT _ _, eq_monoT _ _, eq_monoT _ _, eq_monoT _ _, eq_monoT _ _, eq_monoT _ _, eq_monoT _ _, eq_monoT _ _, trivial⟩) ⟨?_, ?_, ?_, ?_, ?_, ?_, ?_, ?_, trivial⟩ ?_
      · intro HX hX X Rest hR
        intro hU
        refine W_move rfl rfl rfl ?_
        exact W_end (OneT_end [] (Hp.le_refl _) ⟨rfl, rfl⟩)
      · intro HX hX X Rest hR
        intro hU
        refine W_move rfl rfl rfl ?_
        exact W_end (OneT_end [] (Hp.le_refl _) ⟨rfl, rfl⟩)
      · intro HX hX X Rest hR
        rintro _ _ ⟨rfl, rfl⟩
        rintro _ _ ⟨rfl, rfl⟩
        intro hU
        refine W_indexS rfl rfl Proofs.Try.runUnderlying30 Proofs.Try.sizeOf3 rfl ((h0.mono hle130).mono hX) rfl h142 he143 ?_
        exact W_end (OneT_end [] (Hp.le_refl _) ⟨rfl, rfl⟩)
      · intro HX hX X Rest hR
        rintro _ _ ⟨rfl, rfl⟩
        intro hU
        refine W_load rfl rfl Proofs.Try.isAgg3 rfl (HCells.one ((hc144.mono hle130).mono hX) 0 rfl).at ?_
        exact W_end (OneT_end [] (Hp.le_refl _) ⟨rfl, rfl⟩)
      · intro HX hX X Rest hR
        intro hU
        refine W_move rfl rfl rfl ?_
        exact W_end (OneT_end [] (Hp.le_refl _) ⟨rfl, rfl⟩)
      · intro HX hX X Rest hR
        intro hU
        refine W_move rfl rfl rfl ?_
        exact W_end (OneT_end [] (Hp.le_refl _) ⟨rfl, rfl⟩)
      · intro HX hX X Rest hR
        rintro _ _ ⟨rfl, rfl⟩
        rintro _ _ ⟨rfl, rfl⟩
        intro hU
        refine W_indexS rfl rfl Proofs.Try.runUnderlying30 Proofs.Try.sizeOf3 rfl ((h1.mono hle130).mono hX) rfl h146 he147 ?_
        exact W_end (OneT_end [] (Hp.le_refl _) ⟨rfl, rfl⟩)
      · intro HX hX X Rest hR
        rintro _ _ ⟨rfl, rfl⟩
        intro hU
        refine W_load rfl rfl Proofs.Try.isAgg3 rfl (HCells.one ((hc148.mono hle130).mono hX) 0 rfl).at ?_
        exact W_end (OneT_end [] (Hp.le_refl _) ⟨rfl, rfl⟩)
      intro H149 hle150
      rintro _ _ ⟨rfl, rfl⟩
      rintro _ _ ⟨rfl, rfl⟩
      rintro _ _ ⟨rfl, rfl⟩
      rintro _ _ ⟨rfl, rfl⟩
      rintro _ _ ⟨rfl, rfl⟩
      rintro _ _ ⟨rfl, rfl⟩
      rintro _ _ ⟨rfl, rfl⟩
      rintro _ _ ⟨rfl, rfl⟩
      refine W_bin rfl rfl rfl rfl rfl ?_
      refine W_end ?_
      refine E_then ?_
      refine C_cond (b := !decide (y141 = y145)) rfl (fun hb151 => ?_) (fun hb151 => ?_)
      · have hm := ite_t' hb151 hm
        refine C_seq ?_
        refine C_region ?_
        refine W_assign rfl rfl rfl ?_
        refine W_end ?_
        refine E_then ?_
        refine C_ret ?_
        refine E_ret_block ?_
        refine E_ret_then ?_
        refine E_ret_then ?_
        refine E_ret_block ?_
        refine E_ret_then ?_
        obtain rfl := Option.some.inj hm
        refine E_weak (Hp.le_trans hle130 hle150) ?_
        exact end1 rfl rfl ⟨rfl, rfl, rfl⟩
      · have hm := ite_f' hb151 hm
        refine C_skip ?_
        refine E_normal_block ?_
        refine E_then ?_
        refine C_region ?_
        refine W_bin rfl rfl rfl rfl rfl ?_
        refine W_move rfl rfl rfl ?_
        refine W_end ?_
        exact E_keepJ (E_back (Nat.lt_succ_self _) ⟨k102 + 1, zs136, hd139, rfl, (by rw [hn133]; exact hm), (Hp.le_trans hle130 hle150), rfl, rfl⟩) (List.Perm.refl _) ⟨rfl, rfl, rfl, (congrArg (fun z => some (Value.int .i64 z)) (i64_succN hy137 (toNat_max (len_max (h0).lenMax)))), trivial⟩
    · obtain rfl := rngN_f hd138 hb140
      have hm : (some true) = some r := hm
      refine C_exit (E_exit_then ?_)
      refine E_exit_then ?_
      refine E_exit_hit ?_
      refine E_then ?_
      refine C_seq ?_
      refine C_region ?_
      refine W_assign rfl rfl rfl ?_
      refine W_end ?_
      refine E_then ?_
      refine C_ret ?_
      obtain rfl := Option.some.inj hm
      refine E_weak hle130 ?_
      exact end1 rfl rfl ⟨rfl, rfl, rfl⟩

theorem m_gridhallkeep4_islandsFact_c {B : Nat} {w0 w : World} {H : Hp} {M : List Res} {r : Bool} (hm : m_gridhallkeep4_islandsFact = some r) (ht : St B w0 H (M) w) :
    Calls Proofs.Try.prog 11 [].toArray w (Ret B w0 fun H' M' v => H = H' ∧ M = M' ∧ .bool (r) = v) := by
  unfold m_gridhallkeep4_islandsFact at hm
  refine enter Proofs.Try.func11 rfl rfl rfl ht ?_
  refine C_seq ?_
  refine C_region ?_
  refine W_assign rfl rfl rfl ?_
  refine W_end ?_
  refine E_then ?_
  refine C_seq ?_
  refine C_region ?_
  refine W_call Proofs.Try.call36 rfl rfl rfl (fun w ht => by have h := m_gridhallkeep4_two_c (hm := (rfl : m_gridhallkeep4_two = _))  ht; exact h) ?_
  rintro _ H118 _ ⟨hle119, v101, xs102, v104, xs105, v107, xs108, v110, xs111, v113, xs114, v116, rfl, rfl, h103, h106, h109, h112, h115, h117⟩
  obtain ⟨r120, hc121, hm⟩ := bind_some hm
  refine W_call Proofs.Try.call10 rfl rfl rfl (fun w ht => by obtain ⟨H0_, hl0_, ht0_, hr0_, bk0_⟩ := ht.lendRow h103 rfl; obtain ⟨H1_, hl1_, ht1_, hr1_, bk1_⟩ := ht0_.lendRow (h106.mono hl0_) rfl; obtain ⟨H2_, hl2_, ht2_, hr2_, bk2_⟩ := ht1_.lendRow ((h109.mono hl0_).mono hl1_) rfl; obtain ⟨H3_, hl3_, ht3_, hr3_, bk3_⟩ := ht2_.lendRow (((h112.mono hl0_).mono hl1_).mono hl2_) rfl; obtain ⟨H4_, hl4_, ht4_, hr4_, bk4_⟩ := ht3_.lendRow ((((h115.mono hl0_).mono hl1_).mono hl2_).mono hl3_) rfl; have h := m_islands_Of_c (hm := hc121) ((((hr0_.mono hl1_).mono hl2_).mono hl3_).mono hl4_) (((hr1_.mono hl2_).mono hl3_).mono hl4_) ((hr2_.mono hl3_).mono hl4_) (hr3_.mono hl4_) hr4_ (((((h117.mono hl0_).mono hl1_).mono hl2_).mono hl3_).mono hl4_) ht4_; exact lend_back bk0_ (lend_back bk1_ (lend_back bk2_ (lend_back bk3_ (lend_back bk4_ (h)))))) ?_
  rintro _ _ _ ⟨rfl, ⟨_, rfl, ⟨_, rfl, ⟨_, rfl, ⟨_, rfl, ⟨_, rfl, v122, xs123, rfl, rfl, h124⟩⟩⟩⟩⟩⟩
  have h124 := h124 H118
  refine W_move rfl rfl rfl ?_
  refine W_extract rfl rfl rfl rfl ?_
  refine W_extract rfl rfl rfl rfl ?_
  refine W_assign rfl rfl rfl ?_
  refine W_assign rfl rfl rfl ?_
  refine W_end ?_
  refine E_then ?_
  refine C_seq ?_
  refine C_region ?_
  refine W_call Proofs.Try.call36 rfl rfl rfl (fun w ht => by have h := m_gridhallkeep4_two_c (hm := (rfl : m_gridhallkeep4_two = _))  ht; exact h) ?_
  rintro _ H142 _ ⟨hle143, v125, xs126, v128, xs129, v131, xs132, v134, xs135, v137, xs138, v140, rfl, rfl, h127, h130, h133, h136, h139, h141⟩
  obtain ⟨r144, hc145, hm⟩ := bind_some hm
  refine W_call Proofs.Try.call9 rfl rfl rfl (fun w ht => by obtain ⟨H0_, hl0_, ht0_, hr0_, bk0_⟩ := ht.lendRow h127 rfl; obtain ⟨H1_, hl1_, ht1_, hr1_, bk1_⟩ := ht0_.lendRow (h130.mono hl0_) rfl; obtain ⟨H2_, hl2_, ht2_, hr2_, bk2_⟩ := ht1_.lendRow ((h133.mono hl0_).mono hl1_) rfl; obtain ⟨H3_, hl3_, ht3_, hr3_, bk3_⟩ := ht2_.lendRow (((h136.mono hl0_).mono hl1_).mono hl2_) rfl; obtain ⟨H4_, hl4_, ht4_, hr4_, bk4_⟩ := ht3_.lendRow ((((h139.mono hl0_).mono hl1_).mono hl2_).mono hl3_) rfl; have h := m_islands_Share_c (hm := hc145) ((((hr0_.mono hl1_).mono hl2_).mono hl3_).mono hl4_) (((hr1_.mono hl2_).mono hl3_).mono hl4_) ((hr2_.mono hl3_).mono hl4_) (hr3_.mono hl4_) hr4_ (((((h141.mono hl0_).mono hl1_).mono hl2_).mono hl3_).mono hl4_) ht4_; exact lend_back bk0_ (lend_back bk1_ (lend_back bk2_ (lend_back bk3_ (lend_back bk4_ (h)))))) ?_
  rintro _ _ _ ⟨rfl, ⟨_, rfl, ⟨_, rfl, ⟨_, rfl, ⟨_, rfl, ⟨_, rfl, v146, xs147, rfl, rfl, h148⟩⟩⟩⟩⟩⟩
  have h148 := h148 H142
  refine W_move rfl rfl rfl ?_
  refine W_extract rfl rfl rfl rfl ?_
  refine W_extract rfl rfl rfl rfl ?_
  refine W_assign rfl rfl rfl ?_
  refine W_assign rfl rfl rfl ?_
  refine W_end ?_
  refine E_then ?_
  refine C_seq ?_
  refine C_region ?_
  refine W_move rfl rfl rfl ?_
  refine W_bin rfl rfl rfl rfl rfl ?_
  refine W_move rfl rfl rfl ?_
  cases hb149 : (decide (r120.2 = 0))
  · have hm := ite_f' hb149 hm
    refine W_no rfl rfl rfl ?_
    refine W_no rfl rfl rfl ?_
    refine W_pick rfl rfl rfl rfl ?_
    refine W_move rfl rfl rfl ?_
    refine W_no rfl rfl rfl ?_
    refine W_no rfl rfl rfl ?_
    refine W_no rfl rfl rfl ?_
    refine W_no rfl rfl rfl ?_
    refine W_pick rfl rfl rfl rfl ?_
    refine W_move rfl rfl rfl ?_
    refine W_no rfl rfl rfl ?_
    refine W_no rfl rfl rfl ?_
    refine W_no rfl rfl rfl ?_
    refine W_pick rfl rfl rfl rfl ?_
    refine W_assign rfl rfl rfl ?_
    refine W_end ?_
    refine E_then ?_
    refine C_ret ?_
    obtain rfl := Option.some.inj hm
    refine E_drop (List.Sublist.cons _ (List.Sublist.cons _ (List.Sublist.cons _ (List.Sublist.cons _ (List.Sublist.cons _ (List.Sublist.cons _ (List.Sublist.cons _ (List.Sublist.cons _ (List.Sublist.cons _ (List.Sublist.cons _ (List.Sublist.cons _ (List.Sublist.cons _ (List.Sublist.refl _))))))))))))) ?_
    refine E_weak (Hp.le_trans hle119 hle143) ?_
    exact end1 rfl rfl ⟨rfl, rfl, rfl⟩
  · have hm := ite_t' hb149 hm
    refine W_move rfl rfl rfl ?_
    refine W_bin rfl rfl rfl rfl rfl ?_
    refine W_pick rfl rfl rfl rfl ?_
    refine W_move rfl rfl rfl ?_
    cases hb150 : (decide (r144.2 = 0))
    · have hm := ite_f' hb150 hm
      refine W_no rfl rfl rfl ?_
      refine W_no rfl rfl rfl ?_
      refine W_no rfl rfl rfl ?_
      refine W_no rfl rfl rfl ?_
      refine W_pick rfl rfl rfl rfl ?_
      refine W_move rfl rfl rfl ?_
      refine W_no rfl rfl rfl ?_
      refine W_no rfl rfl rfl ?_
      refine W_no rfl rfl rfl ?_
      refine W_pick rfl rfl rfl rfl ?_
      refine W_assign rfl rfl rfl ?_
      refine W_end ?_
      refine E_then ?_
      refine C_ret ?_
      obtain rfl := Option.some.inj hm
      refine E_drop (List.Sublist.cons _ (List.Sublist.cons _ (List.Sublist.cons _ (List.Sublist.cons _ (List.Sublist.cons _ (List.Sublist.cons _ (List.Sublist.cons _ (List.Sublist.cons _ (List.Sublist.cons _ (List.Sublist.cons _ (List.Sublist.cons _ (List.Sublist.cons _ (List.Sublist.refl _))))))))))))) ?_
      refine E_weak (Hp.le_trans hle119 hle143) ?_
      exact end1 rfl rfl ⟨rfl, rfl, rfl⟩
    · have hm := ite_t' hb150 hm
      refine W_move rfl rfl rfl ?_
      refine W_build (css := [[.int .i64 (10)], [.int .i64 (50)], [.int .i64 (30)]]) (zs := [.int .i64 (0), .int .i64 (0), .int .i64 (0)]) (out := [.int .i64 (10), .int .i64 (50), .int .i64 (30)]) (places := [(0, 1), (1, 1), (2, 1)]) rfl rfl rfl ⟨rfl, rfl, rfl, trivial⟩ Proofs.Try.zeroValue41 rfl Proofs.Try.runUnderlying41 (fun w => by kernel_rfl) rfl ?_
      refine W_buildSliceO (α := S_api_IslandsSum) (css := [[.int .i64 (10), .int .i64 (50), .int .i64 (30)]]) (zs := [.int .i64 (0), .int .i64 (0), .int .i64 (0)]) (out := [.int .i64 (10), .int .i64 (50), .int .i64 (30)]) (ys := [(S_api_IslandsSum.mk 10 50 30)]) rfl rfl rfl ⟨rfl, trivial⟩ Proofs.Try.runUnderlying34 Proofs.Try.sizeOf41 rfl Proofs.Try.zeroValue41 (by kernel_rfl) rfl rfl rfl rfl ⟨[.int .i64 (10), .int .i64 (50), .int .i64 (30)], [], rfl, rfl, rfl⟩ rfl ?_
      intro v151 xs152 hr153
      refine W_perm (List.Perm.trans (List.Perm.cons _ (List.Perm.cons _ (List.Perm.cons _ (List.Perm.cons _ (List.Perm.cons _ (List.Perm.cons _ (List.Perm.cons _ (List.Perm.cons _ (List.Perm.cons _ (List.Perm.cons _ (List.Perm.cons _ (List.Perm.swap _ _ _)))))))))))) (List.Perm.trans (List.Perm.cons _ (List.Perm.cons _ (List.Perm.cons _ (List.Perm.cons _ (List.Perm.cons _ (List.Perm.cons _ (List.Perm.cons _ (List.Perm.cons _ (List.Perm.cons _ (List.Perm.cons _ (List.Perm.swap _ _ _))))))))))) (List.Perm.trans (List.Perm.cons _ (List.Perm.cons _ (List.Perm.cons _ (List.Perm.cons _ (List.Perm.cons _ (List.Perm.cons _ (List.Perm.cons _ (List.Perm.cons _ (List.Perm.cons _ (List.Perm.swap _ _ _)))))))))) (List.Perm.trans (List.Perm.cons _ (List.Perm.cons _ (List.Perm.cons _ (List.Perm.cons _ (List.Perm.cons _ (List.Perm.cons _ (List.Perm.cons _ (List.Perm.cons _ (List.Perm.swap _ _ _))))))))) (List.Perm.trans (List.Perm.cons _ (List.Perm.cons _ (List.Perm.cons _ (List.Perm.cons _ (List.Perm.cons _ (List.Perm.cons _ (List.Perm.cons _ (List.Perm.swap _ _ _)))))))) (List.Perm.trans (List.Perm.cons _ (List.Perm.cons _ (List.Perm.cons _ (List.Perm.cons _ (List.Perm.cons _ (List.Perm.cons _ (List.Perm.swap _ _ _))))))) (List.Perm.trans (List.Perm.cons _ (List.Perm.cons _ (List.Perm.cons _ (List.Perm.cons _ (List.Perm.cons _ (List.Perm.swap _ _ _)))))) (List.Perm.trans (List.Perm.cons _ (List.Perm.cons _ (List.Perm.cons _ (List.Perm.cons _ (List.Perm.swap _ _ _))))) (List.Perm.trans (List.Perm.cons _ (List.Perm.cons _ (List.Perm.cons _ (List.Perm.swap _ _ _)))) (List.Perm.trans (List.Perm.cons _ (List.Perm.cons _ (List.Perm.swap _ _ _))) (List.Perm.trans (List.Perm.cons _ (List.Perm.swap _ _ _)) (List.Perm.swap _ _ _)))))))))))) ?_
      obtain ⟨r154, hc155, hm⟩ := bind_some hm
      refine W_call Proofs.Try.call37 rfl rfl rfl (fun w ht => by obtain ⟨H0_, hl0_, ht0_, hr0_, bk0_⟩ := ht.lendRow (h124.mono hle143) rfl; obtain ⟨H1_, hl1_, ht1_, hr1_, bk1_⟩ := ht0_.lendRow (hr153.mono hl0_) rfl; have h := m_slices_Equal_api_IslandsSum_api_IslandsSum_c (hm := hc155) (hr0_.mono hl1_) hr1_ ht1_; exact lend_back bk0_ (lend_back bk1_ (h))) ?_
      rintro _ _ _ ⟨rfl, ⟨_, rfl, ⟨_, rfl, rfl, rfl⟩⟩⟩
      refine W_pick rfl rfl rfl rfl ?_
      refine W_move rfl rfl rfl ?_
      cases hb156 : (r154)
      · have hm := ite_f' hb156 hm
        refine W_no rfl rfl rfl ?_
        refine W_no rfl rfl rfl ?_
        refine W_no rfl rfl rfl ?_
        refine W_pick rfl rfl rfl rfl ?_
        refine W_assign rfl rfl rfl ?_
        refine W_end ?_
        refine E_then ?_
        refine C_ret ?_
        obtain rfl := Option.some.inj hm
        refine E_drop (List.Sublist.cons _ (List.Sublist.cons _ (List.Sublist.cons _ (List.Sublist.cons _ (List.Sublist.cons _ (List.Sublist.cons _ (List.Sublist.cons _ (List.Sublist.cons _ (List.Sublist.cons _ (List.Sublist.cons _ (List.Sublist.cons _ (List.Sublist.cons _ (List.Sublist.cons _ (List.Sublist.refl _)))))))))))))) ?_
        refine E_weak (Hp.le_trans hle119 hle143) ?_
        exact end1 rfl rfl ⟨rfl, rfl, rfl⟩
      · have hm := ite_t' hb156 hm
        refine W_move rfl rfl rfl ?_
        refine W_buildSliceO (α := Int) (css := [[.int .i64 (30)]]) (zs := [.int .i64 (0)]) (out := [.int .i64 (30)]) (ys := [30]) rfl rfl rfl ⟨rfl, trivial⟩ Proofs.Try.runUnderlying30 Proofs.Try.sizeOf3 rfl Proofs.Try.zeroValue3 (by kernel_rfl) rfl rfl rfl rfl ⟨[.int .i64 (30)], [], rfl, rfl, rfl⟩ rfl ?_
        intro v157 xs158 hr159
        refine W_perm (List.Perm.trans (List.Perm.cons _ (List.Perm.cons _ (List.Perm.cons _ (List.Perm.cons _ (List.Perm.cons _ (List.Perm.cons _ (List.Perm.cons _ (List.Perm.swap _ _ _)))))))) (List.Perm.trans (List.Perm.cons _ (List.Perm.cons _ (List.Perm.cons _ (List.Perm.cons _ (List.Perm.cons _ (List.Perm.cons _ (List.Perm.swap _ _ _))))))) (List.Perm.trans (List.Perm.cons _ (List.Perm.cons _ (List.Perm.cons _ (List.Perm.cons _ (List.Perm.cons _ (List.Perm.swap _ _ _)))))) (List.Perm.trans (List.Perm.cons _ (List.Perm.cons _ (List.Perm.cons _ (List.Perm.cons _ (List.Perm.swap _ _ _))))) (List.Perm.trans (List.Perm.cons _ (List.Perm.cons _ (List.Perm.cons _ (List.Perm.swap _ _ _)))) (List.Perm.trans (List.Perm.cons _ (List.Perm.cons _ (List.Perm.swap _ _ _))) (List.Perm.trans (List.Perm.cons _ (List.Perm.swap _ _ _)) (List.Perm.swap _ _ _)))))))) ?_
        obtain ⟨r160, hc161, hm⟩ := bind_some hm
        refine W_call Proofs.Try.call38 rfl rfl rfl (fun w ht => by obtain ⟨H0_, hl0_, ht0_, hr0_, bk0_⟩ := ht.lendRow h148 rfl; obtain ⟨H1_, hl1_, ht1_, hr1_, bk1_⟩ := ht0_.lendRow (hr159.mono hl0_) rfl; have h := m_slices_Equal_int_int_c (hm := hc161) (hr0_.mono hl1_) hr1_ ht1_; exact lend_back bk0_ (lend_back bk1_ (h))) ?_
        rintro _ _ _ ⟨rfl, ⟨_, rfl, ⟨_, rfl, rfl, rfl⟩⟩⟩
        refine W_pick rfl rfl rfl rfl ?_
        refine W_assign rfl rfl rfl ?_
        refine W_end ?_
        refine E_then ?_
        refine C_ret ?_
        obtain rfl := Option.some.inj hm
        refine E_drop (List.Sublist.cons _ (List.Sublist.cons _ (List.Sublist.cons _ (List.Sublist.cons _ (List.Sublist.cons _ (List.Sublist.cons _ (List.Sublist.cons _ (List.Sublist.cons _ (List.Sublist.cons _ (List.Sublist.cons _ (List.Sublist.cons _ (List.Sublist.cons _ (List.Sublist.cons _ (List.Sublist.cons _ (List.Sublist.refl _))))))))))))))) ?_
        refine E_weak (Hp.le_trans hle119 hle143) ?_
        exact end1 rfl rfl ⟨rfl, rfl, rfl⟩
end Go.Sim
