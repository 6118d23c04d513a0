/-
  Printed by a program: each Go function computes its model.
-/
import Derived.Test.YtogalpcheddenaaModU
import Derived.Test.YtogalpcheddenaaRows
import Derived.KernelRfl
namespace Go.Sim
open Go
set_option linter.unusedVariables false
set_option linter.unusedSimpArgs false
set_option maxRecDepth 100000
theorem Facts.mixed : Proofs.Try.prog.follows .mixedOrders = true := by kernel_rfl

theorem clone18_c {B : Nat} {w0 w : World} {H : Hp} {M : List Res} {s : List S_api_UpkeepJob} {v0 : Value} (h0 : RdS H v0 s) (hz : s.length * 48 ≤ 140737488355328) (ht : St B w0 H M w) :
    Calls Proofs.Try.prog 18 [v0].toArray w (Ret B w0 fun H' M' v => H = H' ∧ ∃ (v' : Value) (xs' : List Value), .row v' 51 (Rep.sz S_api_UpkeepJob) s.length xs' :: M = M' ∧ v' = v ∧ RwF v' xs' s) := by
  refine enter Proofs.Try.func18 rfl rfl rfl ht ?_
  obtain ⟨o, n, c, rfl⟩ := h0.shape
  refine C_seq ?_
  refine C_region ?_
  refine W_assign rfl rfl rfl ?_
  refine W_end (E_then ?_)
  refine C_seq ?_
  refine C_seq ?_
  refine C_region ?_
  refine W_move rfl rfl rfl ?_
  refine W_eqNil rfl rfl Proofs.Try.runUnderlying22 rfl rfl ?_
  refine W_end (E_then ?_)
  cases o with
  | none =>
    refine C_cond (b := true) rfl (fun _ => ?_) (fun hb => Bool.noConfusion hb)
    obtain rfl := h0.isNil
    refine C_seq ?_
    refine C_region ?_
    refine W_assign rfl rfl rfl ?_
    refine W_end (E_then ?_)
    refine C_ret (E_ret_then ?_)
    refine E_nilRow 51 (Rep.sz S_api_UpkeepJob) ?_
    exact end1 rfl rfl ⟨rfl, .slice none 0 0, [], rfl, rfl, (Rw.nil (H := H)).toF⟩
  | some a =>
    refine C_cond (b := false) rfl (fun hb => Bool.noConfusion hb) (fun _ => ?_)
    refine C_skip (E_then ?_)
    refine C_seq ?_
    refine C_region ?_
    refine W_build0 S_api_UpkeepJob rfl rfl Proofs.Try.runUnderlying22 Proofs.Try.sizeOf51 ?_
    intro v1 xs1 h1
    refine W_move rfl rfl rfl ?_
    refine W_appendO (α := S_api_UpkeepJob) (l := []) (ys := s) (bytes := 48) rfl rfl Proofs.Try.underlying22 ⟨_, rfl, rfl, rfl, rfl⟩ rfl rfl rfl rfl rfl h1 h0 (by simpa using hz) ?_
    intro v2 xs2 h2
    refine W_assign rfl rfl rfl ?_
    refine W_end (E_then ?_)
    refine C_ret ?_
    exact end1 rfl rfl ⟨rfl, v2, xs2, rfl, rfl, h2.toF⟩

theorem m_gridhallref4_In_c {B : Nat} {w0 w : World} {H : Hp} {M : List Res} {p0_n : Int} {p1_low : Int} {p2_high : Int} {r : Bool} (hm : m_gridhallref4_In p0_n p1_low p2_high = r) (ht : St B w0 H (M) w) :
    Calls Proofs.Try.prog 19 [.int .i64 (p0_n), .int .i64 (p1_low), .int .i64 (p2_high)].toArray w (Ret B w0 fun H' M' v => H = H' ∧ M = M' ∧ .bool (r) = v) := by
  unfold m_gridhallref4_In at hm
  refine enter Proofs.Try.func19 rfl rfl rfl ht ?_
  refine C_seq ?_
  refine C_region ?_
  refine W_assign rfl rfl rfl ?_
  refine W_end ?_
  refine E_then ?_
  refine C_seq_join (fun H' M' L' => H = H' ∧ M = M' ∧ [(6, .bool ((decide (p1_low ≤ p0_n)) && (decide (p0_n ≤ p2_high))))] = L') ?_ (fun J102 => ?_)
  · rintro _ _ _ ⟨rfl, rfl, rfl⟩
    refine C_ret ?_
    obtain rfl := hm
    refine E_weak (Hp.le_refl _) ?_
    exact end1 rfl rfl ⟨rfl, rfl, rfl⟩
  · refine C_region ?_
    refine W_move rfl rfl rfl ?_
    refine W_move rfl rfl rfl ?_
    refine W_bin rfl rfl rfl rfl rfl ?_
    refine W_move rfl rfl rfl ?_
    cases hb103 : (decide (p1_low ≤ p0_n))
    · refine W_no rfl rfl rfl ?_
      refine W_no rfl rfl rfl ?_
      refine W_no rfl rfl rfl ?_
      refine W_pick rfl rfl rfl rfl ?_
      refine W_assign rfl rfl rfl ?_
      refine W_end ?_
      exact E_keepJ (J102 _ _ _ ⟨rfl, rfl, rfl⟩) (List.Perm.refl _) ⟨(by show some (Value.bool (false)) = some (Value.bool ((decide (p1_low ≤ p0_n)) && (decide (p0_n ≤ p2_high)))); simp only [hb103, Bool.and_true, Bool.true_and, Bool.false_and, Bool.and_false, Bool.or_true, Bool.true_or, Bool.or_false, Bool.false_or, Bool.not_true, Bool.not_false]), trivial⟩
    · refine W_move rfl rfl rfl ?_
      refine W_move rfl rfl rfl ?_
      refine W_bin rfl rfl rfl rfl rfl ?_
      refine W_pick rfl rfl rfl rfl ?_
      refine W_assign rfl rfl rfl ?_
      refine W_end ?_
      exact E_keepJ (J102 _ _ _ ⟨rfl, rfl, rfl⟩) (List.Perm.refl _) ⟨(by show some (Value.bool (decide (p0_n ≤ p2_high))) = some (Value.bool ((decide (p1_low ≤ p0_n)) && (decide (p0_n ≤ p2_high)))); simp only [hb103, Bool.and_true, Bool.true_and, Bool.false_and, Bool.and_false, Bool.or_true, Bool.true_or, Bool.or_false, Bool.false_or, Bool.not_true, Bool.not_false]), trivial⟩

theorem m_gridhallkeep4_small_c {B : Nat} {w0 w : World} {H : Hp} {M : List Res} {p0_t : S_api_UpkeepTask} {v0 : Value} {v1 : Value} {r : S_api_UpkeepTask} (hm : m_gridhallkeep4_small p0_t = some r) (h0 : RdS H v0 p0_t.Jobs) (h1 : RdS H v1 p0_t.Apart) (ht : St B w0 H (M) w) :
    Calls Proofs.Try.prog 7 [.agg [v0, v1, .int .i64 (p0_t.Crews)].toArray].toArray w (Ret B w0 fun H' M' v => H.le H' ∧ ∃ qv0 : Value, ∃ qxs0 : List Value, ∃ qv1 : Value, .row qv0 51 (Rep.sz S_api_UpkeepJob) r.Jobs.length qxs0 :: M = M' ∧ .agg [qv0, qv1, .int .i64 (r.Crews)].toArray = v ∧ Rw H' qv0 qxs0 r.Jobs ∧ RdS H' qv1 r.Apart) := by
  unfold m_gridhallkeep4_small at hm
  refine enter Proofs.Try.func7 rfl rfl rfl ht ?_
  refine C_seq ?_
  refine C_region ?_
  refine W_box (cs := [v0, v1, .int .i64 (p0_t.Crews)]) rfl rfl rfl rfl (fun b101 => ?_)
  refine W_alloc (cs := [.slice none 0 0, .slice none 0 0, .int .i64 (0)]) rfl rfl Proofs.Try.zeroValue25 rfl (fun b102 => ?_)
  refine W_end ?_
  refine E_then ?_
  refine C_seq ?_
  refine C_region ?_
  refine W_field (o := 0) rfl rfl Proofs.Try.runUnderlying25 rfl Proofs.Try.sizeOf22 rfl rfl rfl ?_
  refine W_load rfl rfl Proofs.Try.isAgg22 rfl (own_at (List.mem_cons_of_mem _ (List.mem_cons_self ..)) rfl) ?_
  refine W_field (o := 0) rfl rfl Proofs.Try.runUnderlying25 rfl Proofs.Try.sizeOf22 rfl rfl rfl ?_
  refine W_load rfl rfl Proofs.Try.isAgg22 rfl (own_at (List.mem_cons_of_mem _ (List.mem_cons_self ..)) rfl) ?_
  refine W_lenR rfl rfl Proofs.Try.runUnderlying22 rfl h0 ?_
  refine W_min rfl rfl rfl rfl ?_
  obtain ⟨hz103, hm⟩ := need_some hm
  refine W_sliceR (α := S_api_UpkeepJob) (l := 0) (h := (min (p0_t.Jobs.length : Int) 4 : Int).toNat) (xs := p0_t.Jobs) rfl rfl Proofs.Try.runUnderlying22 Proofs.Try.sizeOf51 rfl h0 (by omega) (by omega) (.inl rfl) (fun cap hcap => by rw [if_pos rfl]; exact (.inl ⟨rfl, rfl⟩)) (fun m hmm => (.inr ⟨_, _, _, rfl, rfl, by omega, by omega, rfl⟩)) (.inl ⟨rfl, rfl⟩) ?_
  intro v104 h105 hc106
  obtain ⟨hz107, hm⟩ := need_some hm
  refine W_call Proofs.Try.call18 rfl rfl rfl (fun w ht => by have h := clone18_c (s := slc p0_t.Jobs 0 ((min (p0_t.Jobs.length : Int) 4 : Int).toNat)) h105 hz107 ht; exact h) ?_
  rintro _ _ _ ⟨rfl, v108, xs109, rfl, rfl, hr110⟩
  have hr110 := hr110 H
  refine W_field (o := 0) rfl rfl Proofs.Try.runUnderlying25 rfl Proofs.Try.sizeOf22 rfl rfl rfl ?_
  refine W_perm (List.Perm.trans (List.Perm.cons _ (List.Perm.swap _ _ _)) (List.Perm.swap _ _ _)) ?_
  refine W_store (cs := [v108]) (out := [v108, v1, .int .i64 (p0_t.Crews)]) rfl Proofs.Try.sizeOf22 rfl rfl (Rw.cells hr110) rfl rfl (all_cons (Rw.one hr110) all_nil) rfl ?_
  refine W_end ?_
  refine E_then ?_
  refine C_seq ?_
  refine C_seq ?_
  refine C_region ?_
  refine W_field (o := 0) rfl rfl Proofs.Try.runUnderlying25 rfl Proofs.Try.sizeOf22 rfl rfl rfl ?_
  refine W_load rfl rfl Proofs.Try.isAgg22 rfl (own_at (List.mem_cons_self ..) rfl) ?_
  refine W_lenO (List.mem_cons_of_mem _ (List.mem_cons_self ..)) rfl rfl Proofs.Try.runUnderlying22 rfl ?_
  refine W_move rfl rfl rfl ?_
  refine W_end ?_
  refine E_then ?_
  refine C_block ?_
  refine C_rowMax (List.mem_cons_of_mem _ (List.mem_cons_self ..)) (fun hmx204 => ?_)
  refine C_keep (L' := [(1, .pointer (some ⟨b101, 0, none⟩)), (2, .pointer (some ⟨b102, 0, none⟩)), (16, .int .i64 (((slc p0_t.Jobs 0 ((min (p0_t.Jobs.length : Int) 4 : Int).toNat)).length : Int))), (17, .int .i64 (((0 : Nat) : Int)))]) ⟨rfl, rfl, rfl, rfl, trivial⟩ (List.Perm.swap _ _ _) ?_
  refine C_loop (fun n H' M' L' => ∃ (k111 : Nat) (zs206' : Nat), ∃ l196 : List S_api_UpkeepJob, ∃ xs195 : List Value, k111 + zs206' = (((slc p0_t.Jobs 0 ((min (p0_t.Jobs.length : Int) 4 : Int).toNat)).length : Int) : Int).toNat ∧ zs206' = n ∧ forN (fun k s200 n => m_gridhallkeep4_small_b3 k s200 n) (fun s200 => some (S_api_UpkeepTask.mk s200 p0_t.Apart p0_t.Crews)) zs206' k111 l196 = some r ∧ Rw H' v108 xs195 l196 ∧ H.le H' ∧ .row v108 51 (Rep.sz S_api_UpkeepJob) l196.length xs195 :: .obj b101 (.cells [v108, v1, .int .i64 (p0_t.Crews)].toArray 25 (0, 0)) :: .obj b102 (.cells [.slice none 0 0, .slice none 0 0, .int .i64 (0)].toArray 25 (0, 0)) :: M = M' ∧ [(1, .pointer (some ⟨b101, 0, none⟩)), (2, .pointer (some ⟨b102, 0, none⟩)), (16, .int .i64 (((slc p0_t.Jobs 0 ((min (p0_t.Jobs.length : Int) 4 : Int).toNat)).length : Int))), (17, .int .i64 ((k111 : Int)))] = L') _ ⟨0, _, (slc p0_t.Jobs 0 ((min (p0_t.Jobs.length : Int) 4 : Int).toNat)), xs109, Nat.zero_add _, rfl, hm, hr110, (Hp.le_refl _), rfl, rfl⟩ ?_
  rintro _ H198 _ _ ⟨k111, zs206', l196, xs195, hd208, rfl, hm, hr197, hle199, rfl, rfl⟩
  refine C_seq ?_
  refine C_region ?_
  refine W_bin rfl rfl rfl rfl rfl ?_
  refine W_end (E_then ?_)
  refine C_seq ?_
  refine C_cond (b := decide ((k111 : Int) < ((slc p0_t.Jobs 0 ((min (p0_t.Jobs.length : Int) 4 : Int).toNat)).length : Int))) rfl (fun hb210 => ?_) (fun hb210 => ?_)
  · obtain ⟨zs206, rfl, hd209, hy207⟩ := rngN_t hd208 hb210
    have hm : m_gridhallkeep4_small_b3 k111 l196 (forN (fun k s200 n => m_gridhallkeep4_small_b3 k s200 n) (fun s200 => some (S_api_UpkeepTask.mk s200 p0_t.Apart p0_t.Crews)) zs206 (k111 + 1)) = some r := hm
    generalize hn202 : forN (fun k s200 n => m_gridhallkeep4_small_b3 k s200 n) (fun s200 => some (S_api_UpkeepTask.mk s200 p0_t.Apart p0_t.Crews)) zs206 (k111 + 1) = nx201 at hm
    unfold m_gridhallkeep4_small_b3 at hm
    refine C_skip (E_then ?_)
    refine C_seq_join (fun H' M' L' => ∃ l227 : List S_api_UpkeepJob, ∃ xs226 : List Value, m_gridhallkeep4_small_b4 nx201 l227 = some r ∧ Rw H' v108 xs226 l227 ∧ H198.le H' ∧ .row v108 51 (Rep.sz S_api_UpkeepJob) l227.length xs226 :: .obj b101 (.cells [v108, v1, .int .i64 (p0_t.Crews)].toArray 25 (0, 0)) :: .obj b102 (.cells [.slice none 0 0, .slice none 0 0, .int .i64 (0)].toArray 25 (0, 0)) :: M = M' ∧ [(1, .pointer (some ⟨b101, 0, none⟩)), (2, .pointer (some ⟨b102, 0, none⟩)), (16, .int .i64 (((slc p0_t.Jobs 0 ((min (p0_t.Jobs.length : Int) 4 : Int).toNat)).length : Int))), (17, .int .i64 ((k111 : Int)))] = L') ?_ (fun J231 => ?_)
    · rintro H229 _ _ ⟨l227, xs226, hm, hr228, hle230, rfl, rfl⟩
      unfold m_gridhallkeep4_small_b4 at hm
      refine C_region ?_
      refine W_bin rfl rfl rfl rfl rfl ?_
      refine W_move rfl rfl rfl ?_
      refine W_end ?_
      exact E_keepJ (E_back (Nat.lt_succ_self _) ⟨k111 + 1, zs206, l227, xs226, hd209, rfl, (by rw [hn202]; exact hm), hr228, (Hp.le_trans hle199 hle230), rfl, rfl⟩) (List.Perm.refl _) ⟨rfl, rfl, rfl, (congrArg (fun z => some (Value.int .i64 z)) (i64_succN hy207 (toNat_max (len_max hmx204)))), trivial⟩
    · refine C_block ?_
      refine C_seq ?_
      refine C_region ?_
      refine W_move rfl rfl rfl ?_
      refine W_assign rfl rfl rfl ?_
      refine W_end ?_
      refine E_then ?_
      refine C_seq ?_
      refine C_region ?_
      refine W_field (o := 0) rfl rfl Proofs.Try.runUnderlying25 rfl Proofs.Try.sizeOf22 rfl rfl rfl ?_
      refine W_load rfl rfl Proofs.Try.isAgg22 rfl (own_at (List.mem_cons_of_mem _ (List.mem_cons_self ..)) rfl) ?_
      refine W_move rfl rfl rfl ?_
      obtain ⟨y232, h233, he234, hm⟩ := idx_some hm
      refine W_indexO (List.mem_cons_self ..) rfl rfl Proofs.Try.runUnderlying22 Proofs.Try.sizeOf51 rfl rfl h233 (List.getElem?_eq_some_iff.1 he234).1 ?_
      obtain ⟨_, rfl, hg235⟩ := (hr197).elem he234
      refine W_assign rfl rfl rfl ?_
      refine W_end ?_
      refine E_then ?_
      refine C_seq_join (fun H' M' L' => H198 = H' ∧ .row v108 51 (Rep.sz S_api_UpkeepJob) l196.length xs195 :: .obj b101 (.cells [v108, v1, .int .i64 (p0_t.Crews)].toArray 25 (0, 0)) :: .obj b102 (.cells [.slice none 0 0, .slice none 0 0, .int .i64 (0)].toArray 25 (0, 0)) :: M = M' ∧ [(1, .pointer (some ⟨b101, 0, none⟩)), (2, .pointer (some ⟨b102, 0, none⟩)), (4, .pointer (some ((Value.base (v108)).add (((k111 : Int) : Int).toNat * Rep.sz S_api_UpkeepJob)))), (16, .int .i64 (((slc p0_t.Jobs 0 ((min (p0_t.Jobs.length : Int) 4 : Int).toNat)).length : Int))), (17, .int .i64 ((k111 : Int))), (35, .bool ((m_gridhallref4_In y232.First 0 60) && (m_gridhallref4_In y232.Last 0 60)))] = L') ?_ (fun J237 => ?_)
      · rintro _ _ _ ⟨rfl, rfl, rfl⟩
        refine C_cond (b := (m_gridhallref4_In y232.First 0 60) && (m_gridhallref4_In y232.Last 0 60)) rfl (fun hb238 => ?_) (fun hb238 => ?_)
        · have hm := ite_t' hb238 hm
          refine C_region_tok0 11 (phiT [(fun H rs v => [] = rs ∧ .pointer (some ((Value.base (v108)).add (((k111 : Int) : Int).toNat * Rep.sz S_api_UpkeepJob))) = v), (fun H rs v => [] = rs ∧ .pointer (some ((Value.base (v108)).add (((k111 : Int) : Int).toNat * Rep.sz S_api_UpkeepJob))) = v), (fun H rs v => [] = rs ∧ .pointer (some ((Value.base (v108)).add (((k111 : Int) : Int).toNat * Rep.sz S_api_UpkeepJob))) = v), (fun H rs v => [] = rs ∧ .pointer (some (((Value.base (v108)).add (((k111 : Int) : Int).toNat * Rep.sz S_api_UpkeepJob)).add 3)) = v), (fun H rs v => [] = rs ∧ .int .i64 (y232.Last) = v), (fun H rs v => [] = rs ∧ .pointer (some ((Value.base (v108)).add (((k111 : Int) : Int).toNat * Rep.sz S_api_UpkeepJob))) = v), (fun H rs v => [] = rs ∧ .pointer (some ((Value.base (v108)).add (((k111 : Int) : Int).toNat * Rep.sz S_api_UpkeepJob))) = v), (fun H rs v => [] = rs ∧ .pointer (some (((Value.base (v108)).add (((k111 : Int) : Int).toNat * Rep.sz S_api_UpkeepJob)).add 2)) = v), (fun H rs v => [] = rs ∧ .int .i64 (y232.First) = v), (fun H rs v => [] = rs ∧ .int .i64 (IntKind.i64.wrap (y232.First + 4)) = v), (fun H rs v => [] = rs ∧ .int .i64 (min y232.Last (IntKind.i64.wrap (y232.First + 4))) = v)]) [[], [], [], [], [], [], [], [], [], [], []] [[], [], [], [], [], [], [], [], [], [], []] [] [0, 1, 2, 3, 4, 5, 6, 7, 8, 9, 10] Facts.mixed (by kernel_rfl) rfl rfl rfl (by kernel_rfl) (phiT_mono ⟨eq_monoT _ _, eq_monoT _ _, eq_monoT _ _, eq_monoT _ _, eq_monoT _ _, eq_monoT _ _, eq_monoT _ _, eq_monoT _ _, eq_monoT _ _, eq_monoT _ _, eq_monoT _ _, trivial⟩) ⟨?_, ?_, ?_, ?_, ?_, ?_, ?_, ?_, ?_, ?_, ?_, trivial⟩ ?_
          · intro HX hX X Rest hR
            intro hU
            refine W_move rfl rfl rfl ?_
            exact W_end (OneT_end [] (Hp.le_refl _) ⟨rfl, rfl⟩)
          · intro HX hX X Rest hR
            intro hU
            refine W_move rfl rfl rfl ?_
            exact W_end (OneT_end [] (Hp.le_refl _) ⟨rfl, rfl⟩)
          · intro HX hX X Rest hR
            rintro _ _ ⟨rfl, rfl⟩
            intro hU
            refine W_nilCheck rfl rfl rfl ?_
            exact W_end (OneT_end [] (Hp.le_refl _) ⟨rfl, rfl⟩)
          · intro HX hX X Rest hR
            rintro _ _ ⟨rfl, rfl⟩
            intro hU
            refine W_field (o := 3) rfl rfl Proofs.Try.runUnderlying51 rfl Proofs.Try.sizeOf3 rfl rfl rfl ?_
            exact W_end (OneT_end [] (Hp.le_refl _) ⟨rfl, rfl⟩)
          · intro HX hX X Rest hR
            rintro _ _ ⟨rfl, rfl⟩
            intro hU
            refine W_load rfl rfl Proofs.Try.isAgg3 rfl (row_one (o := 3) (hR _ (List.mem_cons_self ..)) hg235 rfl) ?_
            exact W_end (OneT_end [] (Hp.le_refl _) ⟨rfl, rfl⟩)
          · intro HX hX X Rest hR
            intro hU
            refine W_move rfl rfl rfl ?_
            exact W_end (OneT_end [] (Hp.le_refl _) ⟨rfl, rfl⟩)
          · intro HX hX X Rest hR
            rintro _ _ ⟨rfl, rfl⟩
            intro hU
            refine W_nilCheck rfl rfl rfl ?_
            exact W_end (OneT_end [] (Hp.le_refl _) ⟨rfl, rfl⟩)
          · intro HX hX X Rest hR
            rintro _ _ ⟨rfl, rfl⟩
            intro hU
            refine W_field (o := 2) rfl rfl Proofs.Try.runUnderlying51 rfl Proofs.Try.sizeOf3 rfl rfl rfl ?_
            exact W_end (OneT_end [] (Hp.le_refl _) ⟨rfl, rfl⟩)
          · intro HX hX X Rest hR
            rintro _ _ ⟨rfl, rfl⟩
            intro hU
            refine W_load rfl rfl Proofs.Try.isAgg3 rfl (row_one (o := 2) (hR _ (List.mem_cons_self ..)) hg235 rfl) ?_
            exact W_end (OneT_end [] (Hp.le_refl _) ⟨rfl, rfl⟩)
          · intro HX hX X Rest hR
            rintro _ _ ⟨rfl, rfl⟩
            intro hU
            refine W_bin rfl rfl rfl rfl rfl ?_
            exact W_end (OneT_end [] (Hp.le_refl _) ⟨rfl, rfl⟩)
          · intro HX hX X Rest hR
            rintro _ _ ⟨rfl, rfl⟩
            rintro _ _ ⟨rfl, rfl⟩
            intro hU
            refine W_min rfl rfl rfl rfl ?_
            exact W_end (OneT_end [] (Hp.le_refl _) ⟨rfl, rfl⟩)
          intro H239 hle240
          rintro _ _ ⟨rfl, rfl⟩
          rintro _ _ ⟨rfl, rfl⟩
          rintro _ _ ⟨rfl, rfl⟩
          rintro _ _ ⟨rfl, rfl⟩
          rintro _ _ ⟨rfl, rfl⟩
          rintro _ _ ⟨rfl, rfl⟩
          rintro _ _ ⟨rfl, rfl⟩
          rintro _ _ ⟨rfl, rfl⟩
          rintro _ _ ⟨rfl, rfl⟩
          rintro _ _ ⟨rfl, rfl⟩
          rintro _ _ ⟨rfl, rfl⟩
          refine W_nilCheck rfl rfl rfl ?_
          refine W_field (o := 3) rfl rfl Proofs.Try.runUnderlying51 rfl Proofs.Try.sizeOf3 rfl rfl rfl ?_
          obtain ⟨hr241, he242, hg243⟩ := Rw.put (cs := [.int .i64 (min y232.Last (IntKind.i64.wrap (y232.First + 4)))]) (o := 3) (c := [.string (y232.Name), .int .i64 (y232.Long), .int .i64 (y232.First), .int .i64 (y232.Last), .int .i64 (y232.Weight)]) (out := [.string (y232.Name), .int .i64 (y232.Long), .int .i64 (y232.First), .int .i64 (min y232.Last (IntKind.i64.wrap (y232.First + 4))), .int .i64 (y232.Weight)]) (e2 := (S_api_UpkeepJob.mk y232.Name y232.Long y232.First (min y232.Last (IntKind.i64.wrap (y232.First + 4))) y232.Weight)) (hr197.mono hle240) he234 rfl hg235 rfl rfl rfl
          refine W_storeO2 (i := ((k111 : Int) : Int).toNat * Rep.sz S_api_UpkeepJob + 3) (cs := [.int .i64 (min y232.Last (IntKind.i64.wrap (y232.First + 4)))]) rfl Proofs.Try.sizeOf3 rfl (row_ad _ _ _) rfl rfl rfl (Rw.room (hr197.mono hle240) he234 rfl) rfl (all_cons rfl all_nil) (n' := (l196.set (((k111 : Int) : Int).toNat) (S_api_UpkeepJob.mk y232.Name y232.Long y232.First (min y232.Last (IntKind.i64.wrap (y232.First + 4))) y232.Weight)).length) List.length_set ?_
          generalize over xs195 (((k111 : Int) : Int).toNat * Rep.sz S_api_UpkeepJob + 3) [.int .i64 (min y232.Last (IntKind.i64.wrap (y232.First + 4)))] = xs244 at hr241 hg243 ⊢
          refine W_end ?_
          refine E_normal_block ?_
          exact E_keepJ (J231 _ _ _ ⟨(l196.set (((k111 : Int) : Int).toNat) (S_api_UpkeepJob.mk y232.Name y232.Long y232.First (min y232.Last (IntKind.i64.wrap (y232.First + 4))) y232.Weight)), xs244, hm, hr241, hle240, rfl, rfl⟩) (List.Perm.refl _) ⟨rfl, rfl, rfl, rfl, trivial⟩
        · have hm := ite_f' hb238 hm
          refine C_skip ?_
          refine E_normal_block ?_
          exact E_keepJ (J231 _ _ _ ⟨l196, xs195, hm, hr197, (Hp.le_refl _), rfl, rfl⟩) (List.Perm.refl _) ⟨rfl, rfl, rfl, rfl, trivial⟩
      · refine C_region ?_
        refine W_move rfl rfl rfl ?_
        refine W_nilCheck rfl rfl rfl ?_
        refine W_field (o := 2) rfl rfl Proofs.Try.runUnderlying51 rfl Proofs.Try.sizeOf3 rfl rfl rfl ?_
        refine W_load rfl rfl Proofs.Try.isAgg3 rfl (row_one (o := 2) (List.mem_cons_self ..) hg235 rfl) ?_
        refine W_call Proofs.Try.call19 rfl rfl rfl (fun w ht => by have h := m_gridhallref4_In_c (hm := (rfl : m_gridhallref4_In y232.First 0 60 = _))  ht; exact h) ?_
        rintro _ _ _ ⟨rfl, rfl, rfl⟩
        refine W_move rfl rfl rfl ?_
        cases hb245 : ((m_gridhallref4_In y232.First 0 60))
        · refine W_no rfl rfl rfl ?_
          refine W_no rfl rfl rfl ?_
          refine W_no rfl rfl rfl ?_
          refine W_no rfl rfl rfl ?_
          refine W_no rfl rfl rfl ?_
          refine W_pick rfl rfl rfl rfl ?_
          refine W_end ?_
          exact E_keepJ (J237 _ _ _ ⟨rfl, rfl, rfl⟩) (List.Perm.refl _) ⟨rfl, rfl, rfl, rfl, rfl, (by show some (Value.bool (false)) = some (Value.bool ((m_gridhallref4_In y232.First 0 60) && (m_gridhallref4_In y232.Last 0 60))); simp only [hb245, Bool.and_true, Bool.true_and, Bool.false_and, Bool.and_false, Bool.or_true, Bool.true_or, Bool.or_false, Bool.false_or, Bool.not_true, Bool.not_false]), trivial⟩
        · refine W_move rfl rfl rfl ?_
          refine W_nilCheck rfl rfl rfl ?_
          refine W_field (o := 3) rfl rfl Proofs.Try.runUnderlying51 rfl Proofs.Try.sizeOf3 rfl rfl rfl ?_
          refine W_load rfl rfl Proofs.Try.isAgg3 rfl (row_one (o := 3) (List.mem_cons_self ..) hg235 rfl) ?_
          refine W_call Proofs.Try.call19 rfl rfl rfl (fun w ht => by have h := m_gridhallref4_In_c (hm := (rfl : m_gridhallref4_In y232.Last 0 60 = _))  ht; exact h) ?_
          rintro _ _ _ ⟨rfl, rfl, rfl⟩
          refine W_pick rfl rfl rfl rfl ?_
          refine W_end ?_
          exact E_keepJ (J237 _ _ _ ⟨rfl, rfl, rfl⟩) (List.Perm.refl _) ⟨rfl, rfl, rfl, rfl, rfl, (by show some (Value.bool ((m_gridhallref4_In y232.Last 0 60))) = some (Value.bool ((m_gridhallref4_In y232.First 0 60) && (m_gridhallref4_In y232.Last 0 60))); simp only [hb245, Bool.and_true, Bool.true_and, Bool.false_and, Bool.and_false, Bool.or_true, Bool.true_or, Bool.or_false, Bool.false_or, Bool.not_true, Bool.not_false]), trivial⟩
  · obtain rfl := rngN_f hd208 hb210
    have hm : (some (S_api_UpkeepTask.mk l196 p0_t.Apart p0_t.Crews)) = some r := hm
    refine C_exit (E_exit_then ?_)
    refine E_exit_then ?_
    refine E_exit_hit ?_
    refine E_then ?_
    refine C_seq ?_
    refine C_region ?_
    refine W_loadAgg rfl rfl Proofs.Try.isAgg25 Proofs.Try.sizeOf25 rfl (own_all (List.mem_cons_of_mem _ (List.mem_cons_self ..))) rfl ?_
    refine W_perm (List.Perm.trans (List.Perm.cons _ (List.Perm.swap _ _ _)) (List.Perm.swap _ _ _)) ?_
    refine W_store (cs := [v108, v1, .int .i64 (p0_t.Crews)]) (out := [v108, v1, .int .i64 (p0_t.Crews)]) rfl Proofs.Try.sizeOf25 rfl rfl rfl rfl rfl (all_cons (Rw.one hr197) (all_cons (RdS.one1 (h1.mono hle199)) (all_cons rfl all_nil))) (over_all rfl) ?_
    refine W_end ?_
    refine E_then ?_
    refine C_ret ?_
    obtain rfl := Option.some.inj hm
    exact endC1 (Hp.le_refl _) rfl (ResV.agg rfl Proofs.Try.isAgg25 Proofs.Try.sizeOf25 (List.mem_cons_self ..) rfl) (List.Sublist.cons _ (List.Sublist.cons_cons _ (List.Sublist.cons _ (List.Sublist.refl _)))) (List.Perm.refl _) ⟨hle199, v108, xs195, v1, rfl, rfl, hr197, (h1.mono hle199)⟩

theorem m_netmodel_Name_c {B : Nat} {w0 w : World} {H : Hp} {M : List Res} {p0_s : ByteArray} {r : Bool} (hm : m_netmodel_Name p0_s = some r) (ht : St B w0 H (M) w) :
    Calls Proofs.Try.prog 25 [.string (p0_s)].toArray w (Ret B w0 fun H' M' v => H = H' ∧ M = M' ∧ .bool (r) = v) := by
  unfold m_netmodel_Name at hm
  refine enter Proofs.Try.func25 rfl rfl rfl ht ?_
  refine C_seq ?_
  refine C_region ?_
  refine W_assign rfl rfl rfl ?_
  refine W_end ?_
  refine E_then ?_
  refine C_seq ?_
  refine C_seq ?_
  refine C_region ?_
  refine W_move rfl rfl rfl ?_
  obtain ⟨hz101, hm⟩ := need_some hm
  refine W_convBytes rfl rfl Proofs.Try.runUnderlying9 Proofs.Try.runUnderlying76 Proofs.Try.runUnderlying5 rfl hz101 ?_
  intro v102 H103 hle104 h105
  refine W_lenR rfl rfl Proofs.Try.runUnderlying76 rfl h105 ?_
  refine W_move rfl rfl rfl ?_
  refine W_end ?_
  refine E_then ?_
  refine C_block ?_
  refine C_keep (L' := [(0, .string (p0_s)), (6, v102), (7, .int .i64 (((bytesL p0_s).length : Int))), (8, .int .i64 (((0 : Nat) : Int)))]) ⟨rfl, rfl, rfl, rfl, trivial⟩ (List.Perm.refl _) ?_
  refine C_loop (fun n H' M' L' => ∃ (k106 : Nat) (zs144' : List U8), (bytesL p0_s).drop k106 = zs144' ∧ zs144'.length = n ∧ forI (fun k y s139 n => m_netmodel_Name_b1 k y n) (fun _ => some ((decide (1 ≤ (p0_s.size : Int))) && (decide ((p0_s.size : Int) ≤ 8)))) k106 zs144' () = some r ∧ H103.le H' ∧ M = M' ∧ [(0, .string (p0_s)), (6, v102), (7, .int .i64 (((bytesL p0_s).length : Int))), (8, .int .i64 ((k106 : Int)))] = L') _ ⟨0, _, rfl, rfl, hm, (Hp.le_refl _), rfl, rfl⟩ ?_
  rintro _ H137 _ _ ⟨k106, zs144', hd146, rfl, hm, hle138, rfl, rfl⟩
  refine C_seq ?_
  refine C_region ?_
  refine W_bin rfl rfl rfl rfl rfl ?_
  refine W_end (E_then ?_)
  refine C_seq ?_
  refine C_cond (b := decide ((k106 : Int) < ((bytesL p0_s).length : Int))) rfl (fun hb148 => ?_) (fun hb148 => ?_)
  · obtain ⟨y143, zs144, rfl, hy145, hd147⟩ := rng_t hd146 hb148
    have hm : m_netmodel_Name_b1 k106 y143 (forI (fun k y s139 n => m_netmodel_Name_b1 k y n) (fun _ => some ((decide (1 ≤ (p0_s.size : Int))) && (decide ((p0_s.size : Int) ≤ 8)))) (k106 + 1) zs144) = some r := hm
    generalize hn141 : forI (fun k y s139 n => m_netmodel_Name_b1 k y n) (fun _ => some ((decide (1 ≤ (p0_s.size : Int))) && (decide ((p0_s.size : Int) ≤ 8)))) (k106 + 1) zs144 = nx140 at hm
    unfold m_netmodel_Name_b1 at hm
    refine C_skip (E_then ?_)
    refine C_seq ?_
    refine C_block ?_
    refine C_seq ?_
    refine C_region ?_
    refine W_move rfl rfl rfl ?_
    obtain ⟨_, rfl, hc149⟩ := (h105).elem hy145
    refine W_indexS rfl rfl Proofs.Try.runUnderlying76 Proofs.Try.sizeOf5 rfl (h105.mono hle138) rfl (Int.natCast_nonneg _) hy145 ?_
    refine W_load rfl rfl Proofs.Try.isAgg5 rfl (HCells.one (hc149.mono hle138) 0 rfl).at ?_
    refine W_assign rfl rfl rfl ?_
    refine W_assign rfl rfl rfl ?_
    refine W_end ?_
    refine E_then ?_
    refine C_seq_join (fun H' M' L' => H137 = H' ∧ M = M' ∧ [(0, .string (p0_s)), (6, v102), (7, .int .i64 (((bytesL p0_s).length : Int))), (8, .int .i64 ((k106 : Int))), (31, .bool (!(((decide (65 ≤ y143.n)) && (decide (y143.n ≤ 90))) || (((decide (0 < (k106 : Int))) && (decide (48 ≤ y143.n))) && (decide (y143.n ≤ 57))))))] = L') ?_ (fun J156 => ?_)
    · rintro _ _ _ ⟨rfl, rfl, rfl⟩
      refine C_cond (b := !(((decide (65 ≤ y143.n)) && (decide (y143.n ≤ 90))) || (((decide (0 < (k106 : Int))) && (decide (48 ≤ y143.n))) && (decide (y143.n ≤ 57))))) rfl (fun hb157 => ?_) (fun hb157 => ?_)
      · have hm := ite_t' hb157 hm
        refine C_seq ?_
        refine C_region ?_
        refine W_assign rfl rfl rfl ?_
        refine W_end ?_
        refine E_then ?_
        refine C_ret ?_
        refine E_ret_block ?_
        refine E_ret_then ?_
        refine E_ret_then ?_
        refine E_ret_block ?_
        refine E_ret_then ?_
        obtain rfl := Option.some.inj hm
        refine E_weak (Hp.le_trans hle104 hle138) ?_
        exact end1 rfl rfl ⟨rfl, rfl, rfl⟩
      · have hm := ite_f' hb157 hm
        refine C_skip ?_
        refine E_normal_block ?_
        refine E_then ?_
        refine C_region ?_
        refine W_bin rfl rfl rfl rfl rfl ?_
        refine W_move rfl rfl rfl ?_
        refine W_end ?_
        exact E_keepJ (E_back (Nat.lt_succ_self _) ⟨k106 + 1, zs144, hd147, rfl, (by rw [hn141]; exact hm), hle138, rfl, rfl⟩) (List.Perm.refl _) ⟨rfl, rfl, rfl, (congrArg (fun z => some (Value.int .i64 z)) (i64_succ hy145 ((h105.mono hle138)).lenMax)), trivial⟩
    · refine C_region ?_
      refine W_move rfl rfl rfl ?_
      refine W_bin rfl rfl rfl rfl rfl ?_
      refine W_move rfl rfl rfl ?_
      cases hb158 : (decide (65 ≤ y143.n))
      · refine W_no rfl rfl rfl ?_
        refine W_no rfl rfl rfl ?_
        refine W_pick rfl rfl rfl rfl ?_
        refine W_move rfl rfl rfl ?_
        refine W_move rfl rfl rfl ?_
        refine W_bin rfl rfl rfl rfl rfl ?_
        refine W_move rfl rfl rfl ?_
        cases hb159 : (decide (0 < (k106 : Int)))
        · refine W_no rfl rfl rfl ?_
          refine W_no rfl rfl rfl ?_
          refine W_pick rfl rfl rfl rfl ?_
          refine W_move rfl rfl rfl ?_
          refine W_no rfl rfl rfl ?_
          refine W_no rfl rfl rfl ?_
          refine W_pick rfl rfl rfl rfl ?_
          refine W_pick rfl rfl rfl rfl ?_
          refine W_un rfl rfl rfl rfl ?_
          refine W_end ?_
          exact E_keepJ (J156 _ _ _ ⟨rfl, rfl, rfl⟩) (List.Perm.refl _) ⟨rfl, rfl, rfl, rfl, (by show some (Value.bool (true)) = some (Value.bool (!(((decide (65 ≤ y143.n)) && (decide (y143.n ≤ 90))) || (((decide (0 < (k106 : Int))) && (decide (48 ≤ y143.n))) && (decide (y143.n ≤ 57)))))); simp only [hb158, hb159, Bool.and_true, Bool.true_and, Bool.false_and, Bool.and_false, Bool.or_true, Bool.true_or, Bool.or_false, Bool.false_or, Bool.not_true, Bool.not_false]), trivial⟩
        · refine W_move rfl rfl rfl ?_
          refine W_bin rfl rfl rfl rfl rfl ?_
          refine W_pick rfl rfl rfl rfl ?_
          refine W_move rfl rfl rfl ?_
          cases hb160 : (decide (48 ≤ y143.n))
          · refine W_no rfl rfl rfl ?_
            refine W_no rfl rfl rfl ?_
            refine W_pick rfl rfl rfl rfl ?_
            refine W_pick rfl rfl rfl rfl ?_
            refine W_un rfl rfl rfl rfl ?_
            refine W_end ?_
            exact E_keepJ (J156 _ _ _ ⟨rfl, rfl, rfl⟩) (List.Perm.refl _) ⟨rfl, rfl, rfl, rfl, (by show some (Value.bool (true)) = some (Value.bool (!(((decide (65 ≤ y143.n)) && (decide (y143.n ≤ 90))) || (((decide (0 < (k106 : Int))) && (decide (48 ≤ y143.n))) && (decide (y143.n ≤ 57)))))); simp only [hb158, hb159, hb160, Bool.and_true, Bool.true_and, Bool.false_and, Bool.and_false, Bool.or_true, Bool.true_or, Bool.or_false, Bool.false_or, Bool.not_true, Bool.not_false]), trivial⟩
          · refine W_move rfl rfl rfl ?_
            refine W_bin rfl rfl rfl rfl rfl ?_
            refine W_pick rfl rfl rfl rfl ?_
            refine W_pick rfl rfl rfl rfl ?_
            refine W_un rfl rfl rfl rfl ?_
            refine W_end ?_
            exact E_keepJ (J156 _ _ _ ⟨rfl, rfl, rfl⟩) (List.Perm.refl _) ⟨rfl, rfl, rfl, rfl, (by show some (Value.bool (!(decide (y143.n ≤ 57)))) = some (Value.bool (!(((decide (65 ≤ y143.n)) && (decide (y143.n ≤ 90))) || (((decide (0 < (k106 : Int))) && (decide (48 ≤ y143.n))) && (decide (y143.n ≤ 57)))))); simp only [hb158, hb159, hb160, Bool.and_true, Bool.true_and, Bool.false_and, Bool.and_false, Bool.or_true, Bool.true_or, Bool.or_false, Bool.false_or, Bool.not_true, Bool.not_false]), trivial⟩
      · refine W_move rfl rfl rfl ?_
        refine W_bin rfl rfl rfl rfl rfl ?_
        refine W_pick rfl rfl rfl rfl ?_
        refine W_move rfl rfl rfl ?_
        cases hb161 : (decide (y143.n ≤ 90))
        · refine W_move rfl rfl rfl ?_
          refine W_bin rfl rfl rfl rfl rfl ?_
          refine W_move rfl rfl rfl ?_
          cases hb162 : (decide (0 < (k106 : Int)))
          · refine W_no rfl rfl rfl ?_
            refine W_no rfl rfl rfl ?_
            refine W_pick rfl rfl rfl rfl ?_
            refine W_move rfl rfl rfl ?_
            refine W_no rfl rfl rfl ?_
            refine W_no rfl rfl rfl ?_
            refine W_pick rfl rfl rfl rfl ?_
            refine W_pick rfl rfl rfl rfl ?_
            refine W_un rfl rfl rfl rfl ?_
            refine W_end ?_
            exact E_keepJ (J156 _ _ _ ⟨rfl, rfl, rfl⟩) (List.Perm.refl _) ⟨rfl, rfl, rfl, rfl, (by show some (Value.bool (true)) = some (Value.bool (!(((decide (65 ≤ y143.n)) && (decide (y143.n ≤ 90))) || (((decide (0 < (k106 : Int))) && (decide (48 ≤ y143.n))) && (decide (y143.n ≤ 57)))))); simp only [hb158, hb161, hb162, Bool.and_true, Bool.true_and, Bool.false_and, Bool.and_false, Bool.or_true, Bool.true_or, Bool.or_false, Bool.false_or, Bool.not_true, Bool.not_false]), trivial⟩
          · refine W_move rfl rfl rfl ?_
            refine W_bin rfl rfl rfl rfl rfl ?_
            refine W_pick rfl rfl rfl rfl ?_
            refine W_move rfl rfl rfl ?_
            cases hb163 : (decide (48 ≤ y143.n))
            · refine W_no rfl rfl rfl ?_
              refine W_no rfl rfl rfl ?_
              refine W_pick rfl rfl rfl rfl ?_
              refine W_pick rfl rfl rfl rfl ?_
              refine W_un rfl rfl rfl rfl ?_
              refine W_end ?_
              exact E_keepJ (J156 _ _ _ ⟨rfl, rfl, rfl⟩) (List.Perm.refl _) ⟨rfl, rfl, rfl, rfl, (by show some (Value.bool (true)) = some (Value.bool (!(((decide (65 ≤ y143.n)) && (decide (y143.n ≤ 90))) || (((decide (0 < (k106 : Int))) && (decide (48 ≤ y143.n))) && (decide (y143.n ≤ 57)))))); simp only [hb158, hb161, hb162, hb163, Bool.and_true, Bool.true_and, Bool.false_and, Bool.and_false, Bool.or_true, Bool.true_or, Bool.or_false, Bool.false_or, Bool.not_true, Bool.not_false]), trivial⟩
            · refine W_move rfl rfl rfl ?_
              refine W_bin rfl rfl rfl rfl rfl ?_
              refine W_pick rfl rfl rfl rfl ?_
              refine W_pick rfl rfl rfl rfl ?_
              refine W_un rfl rfl rfl rfl ?_
              refine W_end ?_
              exact E_keepJ (J156 _ _ _ ⟨rfl, rfl, rfl⟩) (List.Perm.refl _) ⟨rfl, rfl, rfl, rfl, (by show some (Value.bool (!(decide (y143.n ≤ 57)))) = some (Value.bool (!(((decide (65 ≤ y143.n)) && (decide (y143.n ≤ 90))) || (((decide (0 < (k106 : Int))) && (decide (48 ≤ y143.n))) && (decide (y143.n ≤ 57)))))); simp only [hb158, hb161, hb162, hb163, Bool.and_true, Bool.true_and, Bool.false_and, Bool.and_false, Bool.or_true, Bool.true_or, Bool.or_false, Bool.false_or, Bool.not_true, Bool.not_false]), trivial⟩
        · refine W_no rfl rfl rfl ?_
          refine W_no rfl rfl rfl ?_
          refine W_no rfl rfl rfl ?_
          refine W_no rfl rfl rfl ?_
          refine W_no rfl rfl rfl ?_
          refine W_no rfl rfl rfl ?_
          refine W_no rfl rfl rfl ?_
          refine W_no rfl rfl rfl ?_
          refine W_no rfl rfl rfl ?_
          refine W_no rfl rfl rfl ?_
          refine W_pick rfl rfl rfl rfl ?_
          refine W_un rfl rfl rfl rfl ?_
          refine W_end ?_
          exact E_keepJ (J156 _ _ _ ⟨rfl, rfl, rfl⟩) (List.Perm.refl _) ⟨rfl, rfl, rfl, rfl, (by show some (Value.bool (false)) = some (Value.bool (!(((decide (65 ≤ y143.n)) && (decide (y143.n ≤ 90))) || (((decide (0 < (k106 : Int))) && (decide (48 ≤ y143.n))) && (decide (y143.n ≤ 57)))))); simp only [hb158, hb161, Bool.and_true, Bool.true_and, Bool.false_and, Bool.and_false, Bool.or_true, Bool.true_or, Bool.or_false, Bool.false_or, Bool.not_true, Bool.not_false]), trivial⟩
  · obtain rfl := rng_f hd146 hb148
    have hm : (some ((decide (1 ≤ (p0_s.size : Int))) && (decide ((p0_s.size : Int) ≤ 8)))) = some r := hm
    refine C_exit (E_exit_then ?_)
    refine E_exit_then ?_
    refine E_exit_hit ?_
    refine E_then ?_
    refine C_seq_join (fun H' M' L' => H137 = H' ∧ M = M' ∧ [(2, .bool ((decide (1 ≤ (p0_s.size : Int))) && (decide ((p0_s.size : Int) ≤ 8))))] = L') ?_ (fun J165 => ?_)
    · rintro _ _ _ ⟨rfl, rfl, rfl⟩
      refine C_ret ?_
      obtain rfl := Option.some.inj hm
      refine E_weak (Hp.le_trans hle104 hle138) ?_
      exact end1 rfl rfl ⟨rfl, rfl, rfl⟩
    · refine C_region ?_
      refine W_move rfl rfl rfl ?_
      refine W_lenStr rfl rfl Proofs.Try.runUnderlying9 rfl ?_
      refine W_bin rfl rfl rfl rfl rfl ?_
      refine W_move rfl rfl rfl ?_
      cases hb166 : (decide (1 ≤ (p0_s.size : Int)))
      · refine W_no rfl rfl rfl ?_
        refine W_no rfl rfl rfl ?_
        refine W_no rfl rfl rfl ?_
        refine W_pick rfl rfl rfl rfl ?_
        refine W_assign rfl rfl rfl ?_
        refine W_end ?_
        exact E_keepJ (J165 _ _ _ ⟨rfl, rfl, rfl⟩) (List.Perm.refl _) ⟨(by show some (Value.bool (false)) = some (Value.bool ((decide (1 ≤ (p0_s.size : Int))) && (decide ((p0_s.size : Int) ≤ 8)))); simp only [hb166, Bool.and_true, Bool.true_and, Bool.false_and, Bool.and_false, Bool.or_true, Bool.true_or, Bool.or_false, Bool.false_or, Bool.not_true, Bool.not_false]), trivial⟩
      · refine W_move rfl rfl rfl ?_
        refine W_lenStr rfl rfl Proofs.Try.runUnderlying9 rfl ?_
        refine W_bin rfl rfl rfl rfl rfl ?_
        refine W_pick rfl rfl rfl rfl ?_
        refine W_assign rfl rfl rfl ?_
        refine W_end ?_
        exact E_keepJ (J165 _ _ _ ⟨rfl, rfl, rfl⟩) (List.Perm.refl _) ⟨(by show some (Value.bool (decide ((p0_s.size : Int) ≤ 8))) = some (Value.bool ((decide (1 ≤ (p0_s.size : Int))) && (decide ((p0_s.size : Int) ≤ 8)))); simp only [hb166, Bool.and_true, Bool.true_and, Bool.false_and, Bool.and_false, Bool.or_true, Bool.true_or, Bool.or_false, Bool.false_or, Bool.not_true, Bool.not_false]), trivial⟩

theorem m_upkeep_Check_1_c {B : Nat} {w0 w : World} {H : Hp} {M : List Res} {p0_x : S_api_UpkeepJob} {p1_c1 : S_api_UpkeepJob} {b0 : Nat} {r : Bool} (hm : m_upkeep_Check_1 p0_x p1_c1 = r) (ht : St B w0 H (.obj b0 (.cells [.string (p1_c1.Name), .int .i64 (p1_c1.Long), .int .i64 (p1_c1.First), .int .i64 (p1_c1.Last), .int .i64 (p1_c1.Weight)].toArray 51 (0, 0)) :: M) w) :
    Calls Proofs.Try.prog 35 [.agg [.string (p0_x.Name), .int .i64 (p0_x.Long), .int .i64 (p0_x.First), .int .i64 (p0_x.Last), .int .i64 (p0_x.Weight)].toArray, .pointer (some ⟨b0, 0, none⟩)].toArray w (Ret B w0 fun H' M' v => H = H' ∧ .obj b0 (.cells [.string (p1_c1.Name), .int .i64 (p1_c1.Long), .int .i64 (p1_c1.First), .int .i64 (p1_c1.Last), .int .i64 (p1_c1.Weight)].toArray 51 (0, 0)) :: M = M' ∧ .bool (r) = v) := by
  unfold m_upkeep_Check_1 at hm
  refine enter Proofs.Try.func35 rfl rfl rfl ht ?_
  refine C_seq ?_
  refine C_region ?_
  refine W_box (cs := [.string (p0_x.Name), .int .i64 (p0_x.Long), .int .i64 (p0_x.First), .int .i64 (p0_x.Last), .int .i64 (p0_x.Weight)]) rfl rfl rfl rfl (fun b101 => ?_)
  refine W_assign rfl rfl rfl ?_
  refine W_end ?_
  refine E_then ?_
  refine C_seq ?_
  refine C_region ?_
  refine W_field (o := 0) rfl rfl Proofs.Try.runUnderlying51 rfl Proofs.Try.sizeOf9 rfl rfl rfl ?_
  refine W_load rfl rfl Proofs.Try.isAgg9 rfl (own_at (List.mem_cons_self ..) rfl) ?_
  refine W_field (o := 0) rfl rfl Proofs.Try.runUnderlying51 rfl Proofs.Try.sizeOf9 rfl rfl rfl ?_
  refine W_load rfl rfl Proofs.Try.isAgg9 rfl (own_at (List.mem_cons_of_mem _ (List.mem_cons_self ..)) rfl) ?_
  refine W_bin rfl rfl rfl rfl rfl ?_
  refine W_assign rfl rfl rfl ?_
  refine W_end ?_
  refine E_then ?_
  refine C_ret ?_
  obtain rfl := hm
  refine E_drop (List.Sublist.cons _ (List.Sublist.refl _)) ?_
  refine E_weak (Hp.le_refl _) ?_
  exact end1 rfl rfl ⟨rfl, rfl, rfl⟩

theorem m_slices_IndexFunc_api_UpkeepJob_api_UpkeepJob__upkeep_Check_1_c {B : Nat} {w0 w : World} {H : Hp} {M : List Res} {p0_s : (List S_api_UpkeepJob)} {p1_f_0 : S_api_UpkeepJob} {v0 : Value} {b0 : Nat} {r : Int} (hm : m_slices_IndexFunc_api_UpkeepJob_api_UpkeepJob__upkeep_Check_1 p0_s p1_f_0 = some r) (h0 : RdS H v0 p0_s) (ht : St B w0 H (.obj b0 (.cells [.string (p1_f_0.Name), .int .i64 (p1_f_0.Long), .int .i64 (p1_f_0.First), .int .i64 (p1_f_0.Last), .int .i64 (p1_f_0.Weight)].toArray 51 (0, 0)) :: M) w) :
    Calls Proofs.Try.prog 42 [v0, .func (.func 35) [].toArray [.pointer (some ⟨b0, 0, none⟩)].toArray].toArray w (Ret B w0 fun H' M' v => H = H' ∧ .obj b0 (.cells [.string (p1_f_0.Name), .int .i64 (p1_f_0.Long), .int .i64 (p1_f_0.First), .int .i64 (p1_f_0.Last), .int .i64 (p1_f_0.Weight)].toArray 51 (0, 0)) :: M = M' ∧ .int .i64 (r) = v) := by
  unfold m_slices_IndexFunc_api_UpkeepJob_api_UpkeepJob__upkeep_Check_1 at hm
  refine enter Proofs.Try.func42 rfl rfl rfl ht ?_
  refine C_seq ?_
  refine C_region ?_
  refine W_assign rfl rfl rfl ?_
  refine W_end ?_
  refine E_then ?_
  refine C_seq ?_
  refine C_seq ?_
  refine C_region ?_
  refine W_move rfl rfl rfl ?_
  refine W_lenR rfl rfl Proofs.Try.runUnderlying22 rfl h0 ?_
  refine W_move rfl rfl rfl ?_
  refine W_end ?_
  refine E_then ?_
  refine C_block ?_
  refine C_keep (L' := [(0, v0), (1, .func (.func 35) [].toArray [.pointer (some ⟨b0, 0, none⟩)].toArray), (7, .int .i64 ((p0_s.length : Int))), (8, .int .i64 (((0 : Nat) : Int)))]) ⟨rfl, rfl, rfl, rfl, trivial⟩ (List.Perm.refl _) ?_
  refine C_loop (fun n H' M' L' => ∃ (k101 : Nat) (zs119' : Nat), k101 + zs119' = ((p0_s.length : Int) : Int).toNat ∧ zs119' = n ∧ forN (fun k s114 n => m_slices_IndexFunc_api_UpkeepJob_api_UpkeepJob__upkeep_Check_1_b1 p0_s p1_f_0 k n) (fun _ => some ((-1))) zs119' k101 () = some r ∧ H.le H' ∧ .obj b0 (.cells [.string (p1_f_0.Name), .int .i64 (p1_f_0.Long), .int .i64 (p1_f_0.First), .int .i64 (p1_f_0.Last), .int .i64 (p1_f_0.Weight)].toArray 51 (0, 0)) :: M = M' ∧ [(0, v0), (1, .func (.func 35) [].toArray [.pointer (some ⟨b0, 0, none⟩)].toArray), (7, .int .i64 ((p0_s.length : Int))), (8, .int .i64 ((k101 : Int)))] = L') _ ⟨0, _, Nat.zero_add _, rfl, hm, (Hp.le_refl _), rfl, rfl⟩ ?_
  rintro _ H112 _ _ ⟨k101, zs119', hd121, rfl, hm, hle113, rfl, rfl⟩
  refine C_seq ?_
  refine C_region ?_
  refine W_bin rfl rfl rfl rfl rfl ?_
  refine W_end (E_then ?_)
  refine C_seq ?_
  refine C_cond (b := decide ((k101 : Int) < (p0_s.length : Int))) rfl (fun hb123 => ?_) (fun hb123 => ?_)
  · obtain ⟨zs119, rfl, hd122, hy120⟩ := rngN_t hd121 hb123
    have hm : m_slices_IndexFunc_api_UpkeepJob_api_UpkeepJob__upkeep_Check_1_b1 p0_s p1_f_0 k101 (forN (fun k s114 n => m_slices_IndexFunc_api_UpkeepJob_api_UpkeepJob__upkeep_Check_1_b1 p0_s p1_f_0 k n) (fun _ => some ((-1))) zs119 (k101 + 1)) = some r := hm
    generalize hn116 : forN (fun k s114 n => m_slices_IndexFunc_api_UpkeepJob_api_UpkeepJob__upkeep_Check_1_b1 p0_s p1_f_0 k n) (fun _ => some ((-1))) zs119 (k101 + 1) = nx115 at hm
    unfold m_slices_IndexFunc_api_UpkeepJob_api_UpkeepJob__upkeep_Check_1_b1 at hm
    refine C_skip (E_then ?_)
    refine C_seq ?_
    refine C_block ?_
    refine C_seq ?_
    refine C_region ?_
    refine W_move rfl rfl rfl ?_
    refine W_assign rfl rfl rfl ?_
    refine W_end ?_
    refine E_then ?_
    refine C_seq ?_
    refine C_region ?_
    refine W_move rfl rfl rfl ?_
    refine W_move rfl rfl rfl ?_
    refine W_move rfl rfl rfl ?_
    obtain ⟨y124, h125, he126, hm⟩ := idx_some hm
    obtain ⟨_, ⟨rfl⟩, hc127⟩ := (h0).elem he126
    refine W_indexS rfl rfl Proofs.Try.runUnderlying22 Proofs.Try.sizeOf51 rfl (h0.mono hle113) rfl h125 he126 ?_
    refine W_loadAgg rfl rfl Proofs.Try.isAgg51 Proofs.Try.sizeOf51 rfl (hc127.mono hle113).at rfl ?_
    refine W_callv Proofs.Try.call35 rfl rfl rfl rfl (fun w ht => by have h := m_upkeep_Check_1_c (hm := (rfl : m_upkeep_Check_1 y124 p1_f_0 = _))  ht; exact h) ?_
    rintro _ _ _ ⟨rfl, rfl, rfl⟩
    refine W_end ?_
    refine E_then ?_
    refine C_cond (b := (m_upkeep_Check_1 y124 p1_f_0)) rfl (fun hb128 => ?_) (fun hb128 => ?_)
    · have hm := ite_t' hb128 hm
      refine C_seq ?_
      refine C_region ?_
      refine W_move rfl rfl rfl ?_
      refine W_assign rfl rfl rfl ?_
      refine W_end ?_
      refine E_then ?_
      refine C_ret ?_
      refine E_ret_block ?_
      refine E_ret_then ?_
      refine E_ret_then ?_
      refine E_ret_block ?_
      refine E_ret_then ?_
      obtain rfl := Option.some.inj hm
      refine E_weak hle113 ?_
      exact end1 rfl rfl ⟨rfl, rfl, rfl⟩
    · have hm := ite_f' hb128 hm
      refine C_skip ?_
      refine E_normal_block ?_
      refine E_then ?_
      refine C_region ?_
      refine W_bin rfl rfl rfl rfl rfl ?_
      refine W_move rfl rfl rfl ?_
      refine W_end ?_
      exact E_keepJ (E_back (Nat.lt_succ_self _) ⟨k101 + 1, zs119, hd122, rfl, (by rw [hn116]; exact hm), hle113, rfl, rfl⟩) (List.Perm.refl _) ⟨rfl, rfl, rfl, (congrArg (fun z => some (Value.int .i64 z)) (i64_succN hy120 (toNat_max (len_max (h0).lenMax)))), trivial⟩
  · obtain rfl := rngN_f hd121 hb123
    have hm : (some ((-1))) = some r := hm
    refine C_exit (E_exit_then ?_)
    refine E_exit_then ?_
    refine E_exit_hit ?_
    refine E_then ?_
    refine C_seq ?_
    refine C_region ?_
    refine W_assign rfl rfl rfl ?_
    refine W_end ?_
    refine E_then ?_
    refine C_ret ?_
    obtain rfl := Option.some.inj hm
    refine E_weak hle113 ?_
    exact end1 rfl rfl ⟨rfl, rfl, rfl⟩

theorem m_slices_ContainsFunc_api_UpkeepJob_api_UpkeepJob__upkeep_Check_1_c {B : Nat} {w0 w : World} {H : Hp} {M : List Res} {p0_s : (List S_api_UpkeepJob)} {p1_f_0 : S_api_UpkeepJob} {v0 : Value} {b0 : Nat} {r : Bool} (hm : m_slices_ContainsFunc_api_UpkeepJob_api_UpkeepJob__upkeep_Check_1 p0_s p1_f_0 = some r) (h0 : RdS H v0 p0_s) (ht : St B w0 H (.obj b0 (.cells [.string (p1_f_0.Name), .int .i64 (p1_f_0.Long), .int .i64 (p1_f_0.First), .int .i64 (p1_f_0.Last), .int .i64 (p1_f_0.Weight)].toArray 51 (0, 0)) :: M) w) :
    Calls Proofs.Try.prog 34 [v0, .func (.func 35) [].toArray [.pointer (some ⟨b0, 0, none⟩)].toArray].toArray w (Ret B w0 fun H' M' v => H = H' ∧ .obj b0 (.cells [.string (p1_f_0.Name), .int .i64 (p1_f_0.Long), .int .i64 (p1_f_0.First), .int .i64 (p1_f_0.Last), .int .i64 (p1_f_0.Weight)].toArray 51 (0, 0)) :: M = M' ∧ .bool (r) = v) := by
  unfold m_slices_ContainsFunc_api_UpkeepJob_api_UpkeepJob__upkeep_Check_1 at hm
  refine enter Proofs.Try.func34 rfl rfl rfl ht ?_
  refine C_seq ?_
  refine C_region ?_
  refine W_assign rfl rfl rfl ?_
  refine W_end ?_
  refine E_then ?_
  refine C_seq ?_
  refine C_region ?_
  refine W_move rfl rfl rfl ?_
  refine W_move rfl rfl rfl ?_
  obtain ⟨r101, hc102, hm⟩ := bind_some hm
  refine W_call Proofs.Try.call42 rfl rfl rfl (fun w ht => by have h := m_slices_IndexFunc_api_UpkeepJob_api_UpkeepJob__upkeep_Check_1_c (hm := hc102) h0 ht; exact h) ?_
  rintro _ _ _ ⟨rfl, rfl, rfl⟩
  refine W_bin rfl rfl rfl rfl rfl ?_
  refine W_assign rfl rfl rfl ?_
  refine W_end ?_
  refine E_then ?_
  refine C_ret ?_
  obtain rfl := Option.some.inj hm
  refine E_weak (Hp.le_refl _) ?_
  exact end1 rfl rfl ⟨rfl, rfl, rfl⟩

theorem m_upkeep_Check_c {B : Nat} {w0 w : World} {H : Hp} {M : List Res} {p0_t : S_api_UpkeepTask} {v0 : Value} {v1 : Value} {r : Int} (hm : m_upkeep_Check p0_t = some r) (h0 : RdS H v0 p0_t.Jobs) (h1 : RdS H v1 p0_t.Apart) (ht : St B w0 H (M) w) :
    Calls Proofs.Try.prog 20 [.agg [v0, v1, .int .i64 (p0_t.Crews)].toArray].toArray w (Ret B w0 fun H' M' v => H = H' ∧ M = M' ∧ .int .i64 (r) = v) := by
  unfold m_upkeep_Check at hm
  refine enter Proofs.Try.func20 rfl rfl rfl ht ?_
  refine C_seq ?_
  refine C_region ?_
  refine W_box (cs := [v0, v1, .int .i64 (p0_t.Crews)]) rfl rfl rfl rfl (fun b101 => ?_)
  refine W_assign rfl rfl rfl ?_
  refine W_end ?_
  refine E_then ?_
  refine C_seq ?_
  refine C_block ?_
  refine C_seq_join (fun H' M' L' => H = H' ∧ .obj b101 (.cells [v0, v1, .int .i64 (p0_t.Crews)].toArray 25 (0, 0)) :: M = M' ∧ [(1, .pointer (some ⟨b101, 0, none⟩)), (9, .bool ((decide (6 < (p0_t.Jobs.length : Int))) || (decide (256 < (p0_t.Apart.length : Int)))))] = L') ?_ (fun J103 => ?_)
  · rintro _ _ _ ⟨rfl, rfl, rfl⟩
    refine C_cond (b := (decide (6 < (p0_t.Jobs.length : Int))) || (decide (256 < (p0_t.Apart.length : Int)))) rfl (fun hb104 => ?_) (fun hb104 => ?_)
    · have hm := ite_t' hb104 hm
      refine C_seq ?_
      refine C_region ?_
      refine W_assign rfl rfl rfl ?_
      refine W_end ?_
      refine E_then ?_
      refine C_ret ?_
      refine E_ret_block ?_
      refine E_ret_then ?_
      obtain rfl := Option.some.inj hm
      refine E_drop (List.Sublist.cons _ (List.Sublist.refl _)) ?_
      refine E_weak (Hp.le_refl _) ?_
      exact end1 rfl rfl ⟨rfl, rfl, rfl⟩
    · have hm := ite_f' hb104 hm
      refine C_seq_join (fun H' M' L' => H = H' ∧ .obj b101 (.cells [v0, v1, .int .i64 (p0_t.Crews)].toArray 25 (0, 0)) :: M = M' ∧ [(1, .pointer (some ⟨b101, 0, none⟩)), (20, .bool ((decide (p0_t.Crews < 1)) || (decide (6 < p0_t.Crews))))] = L') ?_ (fun J106 => ?_)
      · rintro _ _ _ ⟨rfl, rfl, rfl⟩
        refine C_cond (b := (decide (p0_t.Crews < 1)) || (decide (6 < p0_t.Crews))) rfl (fun hb107 => ?_) (fun hb107 => ?_)
        · have hm := ite_t' hb107 hm
          refine C_seq ?_
          refine C_region ?_
          refine W_assign rfl rfl rfl ?_
          refine W_end ?_
          refine E_then ?_
          refine C_ret ?_
          refine E_ret_block ?_
          refine E_ret_then ?_
          obtain rfl := Option.some.inj hm
          refine E_drop (List.Sublist.cons _ (List.Sublist.refl _)) ?_
          refine E_weak (Hp.le_refl _) ?_
          exact end1 rfl rfl ⟨rfl, rfl, rfl⟩
        · have hm := ite_f' hb107 hm
          refine C_skip ?_
          refine E_normal_block ?_
          refine E_then ?_
          refine C_seq ?_
          refine C_seq ?_
          refine C_region ?_
          refine W_field (o := 0) rfl rfl Proofs.Try.runUnderlying25 rfl Proofs.Try.sizeOf22 rfl rfl rfl ?_
          refine W_load rfl rfl Proofs.Try.isAgg22 rfl (own_at (List.mem_cons_self ..) rfl) ?_
          refine W_lenR rfl rfl Proofs.Try.runUnderlying22 rfl h0 ?_
          refine W_move rfl rfl rfl ?_
          refine W_end ?_
          refine E_then ?_
          refine C_block ?_
          refine C_keep (L' := [(1, .pointer (some ⟨b101, 0, none⟩)), (30, v0), (31, .int .i64 ((p0_t.Jobs.length : Int))), (32, .int .i64 (((0 : Nat) : Int)))]) ⟨rfl, rfl, rfl, rfl, trivial⟩ (List.Perm.refl _) ?_
          refine C_loop (fun n H' M' L' => ∃ (k108 : Nat) (zs172' : List S_api_UpkeepJob), (p0_t.Jobs).drop k108 = zs172' ∧ zs172'.length = n ∧ forI (fun k y s167 n => m_upkeep_Check_b1 p0_t k y n) (fun _ => forI (fun k y s286 n => m_upkeep_Check_b4 p0_t k y n) (fun _ => some 0) 0 p0_t.Apart ()) k108 zs172' () = some r ∧ H.le H' ∧ .obj b101 (.cells [v0, v1, .int .i64 (p0_t.Crews)].toArray 25 (0, 0)) :: M = M' ∧ [(1, .pointer (some ⟨b101, 0, none⟩)), (30, v0), (31, .int .i64 ((p0_t.Jobs.length : Int))), (32, .int .i64 ((k108 : Int)))] = L') _ ⟨0, _, rfl, rfl, hm, (Hp.le_refl _), rfl, rfl⟩ ?_
          rintro _ H165 _ _ ⟨k108, zs172', hd174, rfl, hm, hle166, rfl, rfl⟩
          refine C_seq ?_
          refine C_region ?_
          refine W_bin rfl rfl rfl rfl rfl ?_
          refine W_end (E_then ?_)
          refine C_seq ?_
          refine C_cond (b := decide ((k108 : Int) < (p0_t.Jobs.length : Int))) rfl (fun hb176 => ?_) (fun hb176 => ?_)
          · obtain ⟨y171, zs172, rfl, hy173, hd175⟩ := rng_t hd174 hb176
            have hm : m_upkeep_Check_b1 p0_t k108 y171 (forI (fun k y s167 n => m_upkeep_Check_b1 p0_t k y n) (fun _ => forI (fun k y s286 n => m_upkeep_Check_b4 p0_t k y n) (fun _ => some 0) 0 p0_t.Apart ()) (k108 + 1) zs172) = some r := hm
            generalize hn169 : forI (fun k y s167 n => m_upkeep_Check_b1 p0_t k y n) (fun _ => forI (fun k y s286 n => m_upkeep_Check_b4 p0_t k y n) (fun _ => some 0) 0 p0_t.Apart ()) (k108 + 1) zs172 = nx168 at hm
            unfold m_upkeep_Check_b1 at hm
            refine C_skip (E_then ?_)
            refine C_seq ?_
            refine C_block ?_
            refine C_seq ?_
            refine C_region ?_
            refine W_move rfl rfl rfl ?_
            obtain ⟨_, ⟨rfl⟩, hc177⟩ := (h0).elem hy173
            refine W_indexS rfl rfl Proofs.Try.runUnderlying22 Proofs.Try.sizeOf51 rfl (h0.mono hle166) rfl (Int.natCast_nonneg _) hy173 ?_
            refine W_loadAgg rfl rfl Proofs.Try.isAgg51 Proofs.Try.sizeOf51 rfl (hc177.mono hle166).at rfl ?_
            refine W_alloc (cs := [.string (⟨#[]⟩), .int .i64 (0), .int .i64 (0), .int .i64 (0), .int .i64 (0)]) rfl rfl Proofs.Try.zeroValue51 rfl (fun b178 => ?_)
            refine W_assign rfl rfl rfl ?_
            refine W_store (cs := [.string (y171.Name), .int .i64 (y171.Long), .int .i64 (y171.First), .int .i64 (y171.Last), .int .i64 (y171.Weight)]) (out := [.string (y171.Name), .int .i64 (y171.Long), .int .i64 (y171.First), .int .i64 (y171.Last), .int .i64 (y171.Weight)]) rfl Proofs.Try.sizeOf51 rfl rfl rfl rfl rfl (all_cons rfl (all_cons rfl (all_cons rfl (all_cons rfl (all_cons rfl all_nil))))) (over_all rfl) ?_
            refine W_end ?_
            refine E_then ?_
            refine C_block ?_
            refine C_seq ?_
            refine C_region ?_
            refine W_field (o := 0) rfl rfl Proofs.Try.runUnderlying51 rfl Proofs.Try.sizeOf9 rfl rfl rfl ?_
            refine W_load rfl rfl Proofs.Try.isAgg9 rfl (own_at (List.mem_cons_self ..) rfl) ?_
            obtain ⟨r179, hc180, hm⟩ := bind_some hm
            refine W_call Proofs.Try.call25 rfl rfl rfl (fun w ht => by have h := m_netmodel_Name_c (hm := hc180)  ht; exact h) ?_
            rintro _ _ _ ⟨rfl, rfl, rfl⟩
            refine W_un rfl rfl rfl rfl ?_
            refine W_assign rfl rfl rfl ?_
            refine W_end ?_
            refine E_then ?_
            refine C_cond (b := !r179) rfl (fun hb181 => ?_) (fun hb181 => ?_)
            · have hm := ite_t' hb181 hm
              refine C_seq ?_
              refine C_region ?_
              refine W_assign rfl rfl rfl ?_
              refine W_end ?_
              refine E_then ?_
              refine C_ret ?_
              refine E_ret_block ?_
              refine E_ret_block ?_
              refine E_ret_then ?_
              refine E_ret_then ?_
              refine E_ret_block ?_
              refine E_ret_then ?_
              obtain rfl := Option.some.inj hm
              refine E_drop (List.Sublist.cons _ (List.Sublist.cons _ (List.Sublist.refl _))) ?_
              refine E_weak hle166 ?_
              exact end1 rfl rfl ⟨rfl, rfl, rfl⟩
            · have hm := ite_f' hb181 hm
              refine C_seq ?_
              refine C_region ?_
              refine W_field (o := 0) rfl rfl Proofs.Try.runUnderlying25 rfl Proofs.Try.sizeOf22 rfl rfl rfl ?_
              refine W_load rfl rfl Proofs.Try.isAgg22 rfl (own_at (List.mem_cons_of_mem _ (List.mem_cons_self ..)) rfl) ?_
              refine W_move rfl rfl rfl ?_
              obtain ⟨hz182, hm⟩ := need_some hm
              refine W_sliceR (α := S_api_UpkeepJob) (l := 0) (h := ((k108 : Int) : Int).toNat) (xs := p0_t.Jobs) rfl rfl Proofs.Try.runUnderlying22 Proofs.Try.sizeOf51 rfl (h0.mono hle166) (by omega) (by omega) (.inl rfl) (fun cap hcap => by rw [if_pos rfl]; exact (.inl ⟨rfl, rfl⟩)) (fun m hmm => (.inr ⟨_, _, _, rfl, rfl, by omega, by omega, rfl⟩)) (.inl ⟨rfl, rfl⟩) ?_
              intro v183 h184 hc185
              refine W_makeFunc rfl rfl rfl rfl ?_
              obtain ⟨r186, hc187, hm⟩ := bind_some hm
              refine W_call Proofs.Try.call34 rfl rfl rfl (fun w ht => by have h := m_slices_ContainsFunc_api_UpkeepJob_api_UpkeepJob__upkeep_Check_1_c (hm := hc187) h184 ht; exact h) ?_
              rintro _ _ _ ⟨rfl, rfl, rfl⟩
              refine W_assign rfl rfl rfl ?_
              refine W_end ?_
              refine E_then ?_
              refine C_cond (b := r186) rfl (fun hb188 => ?_) (fun hb188 => ?_)
              · have hm := ite_t' hb188 hm
                refine C_seq ?_
                refine C_region ?_
                refine W_assign rfl rfl rfl ?_
                refine W_end ?_
                refine E_then ?_
                refine C_ret ?_
                refine E_ret_block ?_
                refine E_ret_block ?_
                refine E_ret_then ?_
                refine E_ret_then ?_
                refine E_ret_block ?_
                refine E_ret_then ?_
                obtain rfl := Option.some.inj hm
                refine E_drop (List.Sublist.cons _ (List.Sublist.cons _ (List.Sublist.refl _))) ?_
                refine E_weak hle166 ?_
                exact end1 rfl rfl ⟨rfl, rfl, rfl⟩
              · have hm := ite_f' hb188 hm
                refine C_seq_join (fun H' M' L' => H165 = H' ∧ .obj b101 (.cells [v0, v1, .int .i64 (p0_t.Crews)].toArray 25 (0, 0)) :: M = M' ∧ [(1, .pointer (some ⟨b101, 0, none⟩)), (30, v0), (31, .int .i64 ((p0_t.Jobs.length : Int))), (32, .int .i64 ((k108 : Int))), (49, .bool ((((((((decide (y171.Long < 1)) || (decide (60 < y171.Long))) || (decide (y171.First < 0))) || (decide (y171.Last < y171.First))) || (decide (60 < y171.Last))) || (decide ((IntKind.i64.wrap ((IntKind.i64.wrap (y171.First + 12)) - 1)) < y171.Last))) || (decide (y171.Weight < 0))) || (decide (1000 < y171.Weight))))] = L') ?_ (fun J196 => ?_)
                · rintro _ _ _ ⟨rfl, rfl, rfl⟩
                  refine C_cond (b := (((((((decide (y171.Long < 1)) || (decide (60 < y171.Long))) || (decide (y171.First < 0))) || (decide (y171.Last < y171.First))) || (decide (60 < y171.Last))) || (decide ((IntKind.i64.wrap ((IntKind.i64.wrap (y171.First + 12)) - 1)) < y171.Last))) || (decide (y171.Weight < 0))) || (decide (1000 < y171.Weight))) rfl (fun hb197 => ?_) (fun hb197 => ?_)
                  · have hm := ite_t' hb197 hm
                    refine C_seq ?_
                    refine C_region ?_
                    refine W_assign rfl rfl rfl ?_
                    refine W_end ?_
                    refine E_then ?_
                    refine C_ret ?_
                    refine E_ret_block ?_
                    refine E_ret_block ?_
                    refine E_ret_then ?_
                    refine E_ret_then ?_
                    refine E_ret_block ?_
                    refine E_ret_then ?_
                    obtain rfl := Option.some.inj hm
                    refine E_drop (List.Sublist.cons _ (List.Sublist.refl _)) ?_
                    refine E_weak hle166 ?_
                    exact end1 rfl rfl ⟨rfl, rfl, rfl⟩
                  · have hm := ite_f' hb197 hm
                    refine C_skip ?_
                    refine E_normal_block ?_
                    refine E_normal_block ?_
                    refine E_then ?_
                    refine C_region ?_
                    refine W_bin rfl rfl rfl rfl rfl ?_
                    refine W_move rfl rfl rfl ?_
                    refine W_end ?_
                    exact E_keepJ (E_back (Nat.lt_succ_self _) ⟨k108 + 1, zs172, hd175, rfl, (by rw [hn169]; exact hm), hle166, rfl, rfl⟩) (List.Perm.refl _) ⟨rfl, rfl, rfl, (congrArg (fun z => some (Value.int .i64 z)) (i64_succ hy173 ((h0.mono hle166)).lenMax)), trivial⟩
                · refine C_region ?_
                  refine W_field (o := 1) rfl rfl Proofs.Try.runUnderlying51 rfl Proofs.Try.sizeOf3 rfl rfl rfl ?_
                  refine W_load rfl rfl Proofs.Try.isAgg3 rfl (own_at (List.mem_cons_self ..) rfl) ?_
                  refine W_bin rfl rfl rfl rfl rfl ?_
                  refine W_move rfl rfl rfl ?_
                  cases hb198 : (decide (y171.Long < 1))
                  · refine W_field (o := 1) rfl rfl Proofs.Try.runUnderlying51 rfl Proofs.Try.sizeOf3 rfl rfl rfl ?_
                    refine W_load rfl rfl Proofs.Try.isAgg3 rfl (own_at (List.mem_cons_self ..) rfl) ?_
                    refine W_bin rfl rfl rfl rfl rfl ?_
                    refine W_pick rfl rfl rfl rfl ?_
                    refine W_move rfl rfl rfl ?_
                    cases hb199 : (decide (60 < y171.Long))
                    · refine W_field (o := 2) rfl rfl Proofs.Try.runUnderlying51 rfl Proofs.Try.sizeOf3 rfl rfl rfl ?_
                      refine W_load rfl rfl Proofs.Try.isAgg3 rfl (own_at (List.mem_cons_self ..) rfl) ?_
                      refine W_bin rfl rfl rfl rfl rfl ?_
                      refine W_pick rfl rfl rfl rfl ?_
                      refine W_move rfl rfl rfl ?_
                      cases hb200 : (decide (y171.First < 0))
                      · refine W_field (o := 2) rfl rfl Proofs.Try.runUnderlying51 rfl Proofs.Try.sizeOf3 rfl rfl rfl ?_
                        refine W_load rfl rfl Proofs.Try.isAgg3 rfl (own_at (List.mem_cons_self ..) rfl) ?_
                        refine W_field (o := 3) rfl rfl Proofs.Try.runUnderlying51 rfl Proofs.Try.sizeOf3 rfl rfl rfl ?_
                        refine W_load rfl rfl Proofs.Try.isAgg3 rfl (own_at (List.mem_cons_self ..) rfl) ?_
                        refine W_bin rfl rfl rfl rfl rfl ?_
                        refine W_pick rfl rfl rfl rfl ?_
                        refine W_move rfl rfl rfl ?_
                        cases hb201 : (decide (y171.Last < y171.First))
                        · refine W_field (o := 3) rfl rfl Proofs.Try.runUnderlying51 rfl Proofs.Try.sizeOf3 rfl rfl rfl ?_
                          refine W_load rfl rfl Proofs.Try.isAgg3 rfl (own_at (List.mem_cons_self ..) rfl) ?_
                          refine W_bin rfl rfl rfl rfl rfl ?_
                          refine W_pick rfl rfl rfl rfl ?_
                          refine W_move rfl rfl rfl ?_
                          cases hb202 : (decide (60 < y171.Last))
                          · refine W_field (o := 3) rfl rfl Proofs.Try.runUnderlying51 rfl Proofs.Try.sizeOf3 rfl rfl rfl ?_
                            refine W_load rfl rfl Proofs.Try.isAgg3 rfl (own_at (List.mem_cons_self ..) rfl) ?_
                            refine W_field (o := 2) rfl rfl Proofs.Try.runUnderlying51 rfl Proofs.Try.sizeOf3 rfl rfl rfl ?_
                            refine W_load rfl rfl Proofs.Try.isAgg3 rfl (own_at (List.mem_cons_self ..) rfl) ?_
                            refine W_bin rfl rfl rfl rfl rfl ?_
                            refine W_bin rfl rfl rfl rfl rfl ?_
                            refine W_bin rfl rfl rfl rfl rfl ?_
                            refine W_pick rfl rfl rfl rfl ?_
                            refine W_move rfl rfl rfl ?_
                            cases hb203 : (decide ((IntKind.i64.wrap ((IntKind.i64.wrap (y171.First + 12)) - 1)) < y171.Last))
                            · refine W_field (o := 4) rfl rfl Proofs.Try.runUnderlying51 rfl Proofs.Try.sizeOf3 rfl rfl rfl ?_
                              refine W_load rfl rfl Proofs.Try.isAgg3 rfl (own_at (List.mem_cons_self ..) rfl) ?_
                              refine W_bin rfl rfl rfl rfl rfl ?_
                              refine W_pick rfl rfl rfl rfl ?_
                              refine W_move rfl rfl rfl ?_
                              cases hb204 : (decide (y171.Weight < 0))
                              · refine W_field (o := 4) rfl rfl Proofs.Try.runUnderlying51 rfl Proofs.Try.sizeOf3 rfl rfl rfl ?_
                                refine W_load rfl rfl Proofs.Try.isAgg3 rfl (own_at (List.mem_cons_self ..) rfl) ?_
                                refine W_bin rfl rfl rfl rfl rfl ?_
                                refine W_pick rfl rfl rfl rfl ?_
                                refine W_assign rfl rfl rfl ?_
                                refine W_end ?_
                                refine E_drop (List.Sublist.cons _ (List.Sublist.refl _)) ?_
                                exact E_keepJ (J196 _ _ _ ⟨rfl, rfl, rfl⟩) (List.Perm.refl _) ⟨rfl, rfl, rfl, rfl, (by show some (Value.bool (decide (1000 < y171.Weight))) = some (Value.bool ((((((((decide (y171.Long < 1)) || (decide (60 < y171.Long))) || (decide (y171.First < 0))) || (decide (y171.Last < y171.First))) || (decide (60 < y171.Last))) || (decide ((IntKind.i64.wrap ((IntKind.i64.wrap (y171.First + 12)) - 1)) < y171.Last))) || (decide (y171.Weight < 0))) || (decide (1000 < y171.Weight)))); simp only [hb104, hb107, hb181, hb188, hb198, hb199, hb200, hb201, hb202, hb203, hb204, Bool.and_true, Bool.true_and, Bool.false_and, Bool.and_false, Bool.or_true, Bool.true_or, Bool.or_false, Bool.false_or, Bool.not_true, Bool.not_false]), trivial⟩
                              · refine W_no rfl rfl rfl ?_
                                refine W_no rfl rfl rfl ?_
                                refine W_no rfl rfl rfl ?_
                                refine W_pick rfl rfl rfl rfl ?_
                                refine W_assign rfl rfl rfl ?_
                                refine W_end ?_
                                refine E_drop (List.Sublist.cons _ (List.Sublist.refl _)) ?_
                                exact E_keepJ (J196 _ _ _ ⟨rfl, rfl, rfl⟩) (List.Perm.refl _) ⟨rfl, rfl, rfl, rfl, (by show some (Value.bool (true)) = some (Value.bool ((((((((decide (y171.Long < 1)) || (decide (60 < y171.Long))) || (decide (y171.First < 0))) || (decide (y171.Last < y171.First))) || (decide (60 < y171.Last))) || (decide ((IntKind.i64.wrap ((IntKind.i64.wrap (y171.First + 12)) - 1)) < y171.Last))) || (decide (y171.Weight < 0))) || (decide (1000 < y171.Weight)))); simp only [hb104, hb107, hb181, hb188, hb198, hb199, hb200, hb201, hb202, hb203, hb204, Bool.and_true, Bool.true_and, Bool.false_and, Bool.and_false, Bool.or_true, Bool.true_or, Bool.or_false, Bool.false_or, Bool.not_true, Bool.not_false]), trivial⟩
                            · refine W_no rfl rfl rfl ?_
                              refine W_no rfl rfl rfl ?_
                              refine W_no rfl rfl rfl ?_
                              refine W_pick rfl rfl rfl rfl ?_
                              refine W_move rfl rfl rfl ?_
                              refine W_no rfl rfl rfl ?_
                              refine W_no rfl rfl rfl ?_
                              refine W_no rfl rfl rfl ?_
                              refine W_pick rfl rfl rfl rfl ?_
                              refine W_assign rfl rfl rfl ?_
                              refine W_end ?_
                              refine E_drop (List.Sublist.cons _ (List.Sublist.refl _)) ?_
                              exact E_keepJ (J196 _ _ _ ⟨rfl, rfl, rfl⟩) (List.Perm.refl _) ⟨rfl, rfl, rfl, rfl, (by show some (Value.bool (true)) = some (Value.bool ((((((((decide (y171.Long < 1)) || (decide (60 < y171.Long))) || (decide (y171.First < 0))) || (decide (y171.Last < y171.First))) || (decide (60 < y171.Last))) || (decide ((IntKind.i64.wrap ((IntKind.i64.wrap (y171.First + 12)) - 1)) < y171.Last))) || (decide (y171.Weight < 0))) || (decide (1000 < y171.Weight)))); simp only [hb104, hb107, hb181, hb188, hb198, hb199, hb200, hb201, hb202, hb203, Bool.and_true, Bool.true_and, Bool.false_and, Bool.and_false, Bool.or_true, Bool.true_or, Bool.or_false, Bool.false_or, Bool.not_true, Bool.not_false]), trivial⟩
                          · refine W_no rfl rfl rfl ?_
                            refine W_no rfl rfl rfl ?_
                            refine W_no rfl rfl rfl ?_
                            refine W_no rfl rfl rfl ?_
                            refine W_no rfl rfl rfl ?_
                            refine W_no rfl rfl rfl ?_
                            refine W_no rfl rfl rfl ?_
                            refine W_pick rfl rfl rfl rfl ?_
                            refine W_move rfl rfl rfl ?_
                            refine W_no rfl rfl rfl ?_
                            refine W_no rfl rfl rfl ?_
                            refine W_no rfl rfl rfl ?_
                            refine W_pick rfl rfl rfl rfl ?_
                            refine W_move rfl rfl rfl ?_
                            refine W_no rfl rfl rfl ?_
                            refine W_no rfl rfl rfl ?_
                            refine W_no rfl rfl rfl ?_
                            refine W_pick rfl rfl rfl rfl ?_
                            refine W_assign rfl rfl rfl ?_
                            refine W_end ?_
                            refine E_drop (List.Sublist.cons _ (List.Sublist.refl _)) ?_
                            exact E_keepJ (J196 _ _ _ ⟨rfl, rfl, rfl⟩) (List.Perm.refl _) ⟨rfl, rfl, rfl, rfl, (by show some (Value.bool (true)) = some (Value.bool ((((((((decide (y171.Long < 1)) || (decide (60 < y171.Long))) || (decide (y171.First < 0))) || (decide (y171.Last < y171.First))) || (decide (60 < y171.Last))) || (decide ((IntKind.i64.wrap ((IntKind.i64.wrap (y171.First + 12)) - 1)) < y171.Last))) || (decide (y171.Weight < 0))) || (decide (1000 < y171.Weight)))); simp only [hb104, hb107, hb181, hb188, hb198, hb199, hb200, hb201, hb202, Bool.and_true, Bool.true_and, Bool.false_and, Bool.and_false, Bool.or_true, Bool.true_or, Bool.or_false, Bool.false_or, Bool.not_true, Bool.not_false]), trivial⟩
                        · refine W_no rfl rfl rfl ?_
                          refine W_no rfl rfl rfl ?_
                          refine W_no rfl rfl rfl ?_
                          refine W_pick rfl rfl rfl rfl ?_
                          refine W_move rfl rfl rfl ?_
                          refine W_no rfl rfl rfl ?_
                          refine W_no rfl rfl rfl ?_
                          refine W_no rfl rfl rfl ?_
                          refine W_no rfl rfl rfl ?_
                          refine W_no rfl rfl rfl ?_
                          refine W_no rfl rfl rfl ?_
                          refine W_no rfl rfl rfl ?_
                          refine W_pick rfl rfl rfl rfl ?_
                          refine W_move rfl rfl rfl ?_
                          refine W_no rfl rfl rfl ?_
                          refine W_no rfl rfl rfl ?_
                          refine W_no rfl rfl rfl ?_
                          refine W_pick rfl rfl rfl rfl ?_
                          refine W_move rfl rfl rfl ?_
                          refine W_no rfl rfl rfl ?_
                          refine W_no rfl rfl rfl ?_
                          refine W_no rfl rfl rfl ?_
                          refine W_pick rfl rfl rfl rfl ?_
                          refine W_assign rfl rfl rfl ?_
                          refine W_end ?_
                          refine E_drop (List.Sublist.cons _ (List.Sublist.refl _)) ?_
                          exact E_keepJ (J196 _ _ _ ⟨rfl, rfl, rfl⟩) (List.Perm.refl _) ⟨rfl, rfl, rfl, rfl, (by show some (Value.bool (true)) = some (Value.bool ((((((((decide (y171.Long < 1)) || (decide (60 < y171.Long))) || (decide (y171.First < 0))) || (decide (y171.Last < y171.First))) || (decide (60 < y171.Last))) || (decide ((IntKind.i64.wrap ((IntKind.i64.wrap (y171.First + 12)) - 1)) < y171.Last))) || (decide (y171.Weight < 0))) || (decide (1000 < y171.Weight)))); simp only [hb104, hb107, hb181, hb188, hb198, hb199, hb200, hb201, Bool.and_true, Bool.true_and, Bool.false_and, Bool.and_false, Bool.or_true, Bool.true_or, Bool.or_false, Bool.false_or, Bool.not_true, Bool.not_false]), trivial⟩
                      · refine W_no rfl rfl rfl ?_
                        refine W_no rfl rfl rfl ?_
                        refine W_no rfl rfl rfl ?_
                        refine W_no rfl rfl rfl ?_
                        refine W_no rfl rfl rfl ?_
                        refine W_pick rfl rfl rfl rfl ?_
                        refine W_move rfl rfl rfl ?_
                        refine W_no rfl rfl rfl ?_
                        refine W_no rfl rfl rfl ?_
                        refine W_no rfl rfl rfl ?_
                        refine W_pick rfl rfl rfl rfl ?_
                        refine W_move rfl rfl rfl ?_
                        refine W_no rfl rfl rfl ?_
                        refine W_no rfl rfl rfl ?_
                        refine W_no rfl rfl rfl ?_
                        refine W_no rfl rfl rfl ?_
                        refine W_no rfl rfl rfl ?_
                        refine W_no rfl rfl rfl ?_
                        refine W_no rfl rfl rfl ?_
                        refine W_pick rfl rfl rfl rfl ?_
                        refine W_move rfl rfl rfl ?_
                        refine W_no rfl rfl rfl ?_
                        refine W_no rfl rfl rfl ?_
                        refine W_no rfl rfl rfl ?_
                        refine W_pick rfl rfl rfl rfl ?_
                        refine W_move rfl rfl rfl ?_
                        refine W_no rfl rfl rfl ?_
                        refine W_no rfl rfl rfl ?_
                        refine W_no rfl rfl rfl ?_
                        refine W_pick rfl rfl rfl rfl ?_
                        refine W_assign rfl rfl rfl ?_
                        refine W_end ?_
                        refine E_drop (List.Sublist.cons _ (List.Sublist.refl _)) ?_
                        exact E_keepJ (J196 _ _ _ ⟨rfl, rfl, rfl⟩) (List.Perm.refl _) ⟨rfl, rfl, rfl, rfl, (by show some (Value.bool (true)) = some (Value.bool ((((((((decide (y171.Long < 1)) || (decide (60 < y171.Long))) || (decide (y171.First < 0))) || (decide (y171.Last < y171.First))) || (decide (60 < y171.Last))) || (decide ((IntKind.i64.wrap ((IntKind.i64.wrap (y171.First + 12)) - 1)) < y171.Last))) || (decide (y171.Weight < 0))) || (decide (1000 < y171.Weight)))); simp only [hb104, hb107, hb181, hb188, hb198, hb199, hb200, Bool.and_true, Bool.true_and, Bool.false_and, Bool.and_false, Bool.or_true, Bool.true_or, Bool.or_false, Bool.false_or, Bool.not_true, Bool.not_false]), trivial⟩
                    · refine W_no rfl rfl rfl ?_
                      refine W_no rfl rfl rfl ?_
                      refine W_no rfl rfl rfl ?_
                      refine W_pick rfl rfl rfl rfl ?_
                      refine W_move rfl rfl rfl ?_
                      refine W_no rfl rfl rfl ?_
                      refine W_no rfl rfl rfl ?_
                      refine W_no rfl rfl rfl ?_
                      refine W_no rfl rfl rfl ?_
                      refine W_no rfl rfl rfl ?_
                      refine W_pick rfl rfl rfl rfl ?_
                      refine W_move rfl rfl rfl ?_
                      refine W_no rfl rfl rfl ?_
                      refine W_no rfl rfl rfl ?_
                      refine W_no rfl rfl rfl ?_
                      refine W_pick rfl rfl rfl rfl ?_
                      refine W_move rfl rfl rfl ?_
                      refine W_no rfl rfl rfl ?_
                      refine W_no rfl rfl rfl ?_
                      refine W_no rfl rfl rfl ?_
                      refine W_no rfl rfl rfl ?_
                      refine W_no rfl rfl rfl ?_
                      refine W_no rfl rfl rfl ?_
                      refine W_no rfl rfl rfl ?_
                      refine W_pick rfl rfl rfl rfl ?_
                      refine W_move rfl rfl rfl ?_
                      refine W_no rfl rfl rfl ?_
                      refine W_no rfl rfl rfl ?_
                      refine W_no rfl rfl rfl ?_
                      refine W_pick rfl rfl rfl rfl ?_
                      refine W_move rfl rfl rfl ?_
                      refine W_no rfl rfl rfl ?_
                      refine W_no rfl rfl rfl ?_
                      refine W_no rfl rfl rfl ?_
                      refine W_pick rfl rfl rfl rfl ?_
                      refine W_assign rfl rfl rfl ?_
                      refine W_end ?_
                      refine E_drop (List.Sublist.cons _ (List.Sublist.refl _)) ?_
                      exact E_keepJ (J196 _ _ _ ⟨rfl, rfl, rfl⟩) (List.Perm.refl _) ⟨rfl, rfl, rfl, rfl, (by show some (Value.bool (true)) = some (Value.bool ((((((((decide (y171.Long < 1)) || (decide (60 < y171.Long))) || (decide (y171.First < 0))) || (decide (y171.Last < y171.First))) || (decide (60 < y171.Last))) || (decide ((IntKind.i64.wrap ((IntKind.i64.wrap (y171.First + 12)) - 1)) < y171.Last))) || (decide (y171.Weight < 0))) || (decide (1000 < y171.Weight)))); simp only [hb104, hb107, hb181, hb188, hb198, hb199, Bool.and_true, Bool.true_and, Bool.false_and, Bool.and_false, Bool.or_true, Bool.true_or, Bool.or_false, Bool.false_or, Bool.not_true, Bool.not_false]), trivial⟩
                  · refine W_no rfl rfl rfl ?_
                    refine W_no rfl rfl rfl ?_
                    refine W_no rfl rfl rfl ?_
                    refine W_pick rfl rfl rfl rfl ?_
                    refine W_move rfl rfl rfl ?_
                    refine W_no rfl rfl rfl ?_
                    refine W_no rfl rfl rfl ?_
                    refine W_no rfl rfl rfl ?_
                    refine W_pick rfl rfl rfl rfl ?_
                    refine W_move rfl rfl rfl ?_
                    refine W_no rfl rfl rfl ?_
                    refine W_no rfl rfl rfl ?_
                    refine W_no rfl rfl rfl ?_
                    refine W_no rfl rfl rfl ?_
                    refine W_no rfl rfl rfl ?_
                    refine W_pick rfl rfl rfl rfl ?_
                    refine W_move rfl rfl rfl ?_
                    refine W_no rfl rfl rfl ?_
                    refine W_no rfl rfl rfl ?_
                    refine W_no rfl rfl rfl ?_
                    refine W_pick rfl rfl rfl rfl ?_
                    refine W_move rfl rfl rfl ?_
                    refine W_no rfl rfl rfl ?_
                    refine W_no rfl rfl rfl ?_
                    refine W_no rfl rfl rfl ?_
                    refine W_no rfl rfl rfl ?_
                    refine W_no rfl rfl rfl ?_
                    refine W_no rfl rfl rfl ?_
                    refine W_no rfl rfl rfl ?_
                    refine W_pick rfl rfl rfl rfl ?_
                    refine W_move rfl rfl rfl ?_
                    refine W_no rfl rfl rfl ?_
                    refine W_no rfl rfl rfl ?_
                    refine W_no rfl rfl rfl ?_
                    refine W_pick rfl rfl rfl rfl ?_
                    refine W_move rfl rfl rfl ?_
                    refine W_no rfl rfl rfl ?_
                    refine W_no rfl rfl rfl ?_
                    refine W_no rfl rfl rfl ?_
                    refine W_pick rfl rfl rfl rfl ?_
                    refine W_assign rfl rfl rfl ?_
                    refine W_end ?_
                    refine E_drop (List.Sublist.cons _ (List.Sublist.refl _)) ?_
                    exact E_keepJ (J196 _ _ _ ⟨rfl, rfl, rfl⟩) (List.Perm.refl _) ⟨rfl, rfl, rfl, rfl, (by show some (Value.bool (true)) = some (Value.bool ((((((((decide (y171.Long < 1)) || (decide (60 < y171.Long))) || (decide (y171.First < 0))) || (decide (y171.Last < y171.First))) || (decide (60 < y171.Last))) || (decide ((IntKind.i64.wrap ((IntKind.i64.wrap (y171.First + 12)) - 1)) < y171.Last))) || (decide (y171.Weight < 0))) || (decide (1000 < y171.Weight)))); simp only [hb104, hb107, hb181, hb188, hb198, Bool.and_true, Bool.true_and, Bool.false_and, Bool.and_false, Bool.or_true, Bool.true_or, Bool.or_false, Bool.false_or, Bool.not_true, Bool.not_false]), trivial⟩
          · obtain rfl := rng_f hd174 hb176
            have hm : (forI (fun k y s286 n => m_upkeep_Check_b4 p0_t k y n) (fun _ => some 0) 0 p0_t.Apart ()) = some r := hm
            refine C_exit (E_exit_then ?_)
            refine E_exit_then ?_
            refine E_exit_hit ?_
            refine E_then ?_
            refine C_seq ?_
            refine C_seq ?_
            refine C_region ?_
            refine W_field (o := 1) rfl rfl Proofs.Try.runUnderlying25 rfl Proofs.Try.sizeOf23 rfl rfl rfl ?_
            refine W_load rfl rfl Proofs.Try.isAgg23 rfl (own_at (List.mem_cons_self ..) rfl) ?_
            refine W_lenR rfl rfl Proofs.Try.runUnderlying23 rfl (h1.mono hle166) ?_
            refine W_move rfl rfl rfl ?_
            refine W_end ?_
            refine E_then ?_
            refine C_block ?_
            refine C_keep (L' := [(1, .pointer (some ⟨b101, 0, none⟩)), (96, v1), (97, .int .i64 ((p0_t.Apart.length : Int))), (98, .int .i64 (((0 : Nat) : Int)))]) ⟨rfl, rfl, rfl, rfl, trivial⟩ (List.Perm.refl _) ?_
            refine C_loop (fun n H' M' L' => ∃ (k205 : Nat) (zs291' : List S_A2_Int), (p0_t.Apart).drop k205 = zs291' ∧ zs291'.length = n ∧ forI (fun k y s286 n => m_upkeep_Check_b4 p0_t k y n) (fun _ => some 0) k205 zs291' () = some r ∧ H165.le H' ∧ .obj b101 (.cells [v0, v1, .int .i64 (p0_t.Crews)].toArray 25 (0, 0)) :: M = M' ∧ [(1, .pointer (some ⟨b101, 0, none⟩)), (96, v1), (97, .int .i64 ((p0_t.Apart.length : Int))), (98, .int .i64 ((k205 : Int)))] = L') _ ⟨0, _, rfl, rfl, hm, (Hp.le_refl _), rfl, rfl⟩ ?_
            rintro _ H284 _ _ ⟨k205, zs291', hd293, rfl, hm, hle285, rfl, rfl⟩
            refine C_seq ?_
            refine C_region ?_
            refine W_bin rfl rfl rfl rfl rfl ?_
            refine W_end (E_then ?_)
            refine C_seq ?_
            refine C_cond (b := decide ((k205 : Int) < (p0_t.Apart.length : Int))) rfl (fun hb295 => ?_) (fun hb295 => ?_)
            · obtain ⟨y290, zs291, rfl, hy292, hd294⟩ := rng_t hd293 hb295
              have hm : m_upkeep_Check_b4 p0_t k205 y290 (forI (fun k y s286 n => m_upkeep_Check_b4 p0_t k y n) (fun _ => some 0) (k205 + 1) zs291) = some r := hm
              generalize hn288 : forI (fun k y s286 n => m_upkeep_Check_b4 p0_t k y n) (fun _ => some 0) (k205 + 1) zs291 = nx287 at hm
              unfold m_upkeep_Check_b4 at hm
              refine C_skip (E_then ?_)
              refine C_seq ?_
              refine C_block ?_
              refine C_seq ?_
              refine C_region ?_
              obtain ⟨_, ⟨rfl⟩, hc296⟩ := (h1).elem hy292
              refine W_indexS rfl rfl Proofs.Try.runUnderlying23 Proofs.Try.sizeOf59 rfl ((h1.mono hle166).mono hle285) rfl (Int.natCast_nonneg _) hy292 ?_
              refine W_loadAgg rfl rfl Proofs.Try.isAgg59 Proofs.Try.sizeOf59 rfl ((hc296.mono hle166).mono hle285).at rfl ?_
              refine W_alloc (cs := [.int .i64 (0), .int .i64 (0)]) rfl rfl Proofs.Try.zeroValue59 rfl (fun b297 => ?_)
              refine W_store (cs := [.int .i64 (y290.a0), .int .i64 (y290.a1)]) (out := [.int .i64 (y290.a0), .int .i64 (y290.a1)]) rfl Proofs.Try.sizeOf59 rfl rfl rfl rfl rfl (all_cons rfl (all_cons rfl all_nil)) (over_all rfl) ?_
              refine W_end ?_
              refine E_then ?_
              refine C_seq ?_
              refine C_seq ?_
              refine C_region ?_
              refine W_loadAgg rfl rfl Proofs.Try.isAgg59 Proofs.Try.sizeOf59 rfl (own_all (List.mem_cons_self ..)) rfl ?_
              refine W_move rfl rfl rfl ?_
              refine W_end ?_
              refine E_then ?_
              refine C_block ?_
              refine C_keep (L' := [(1, .pointer (some ⟨b101, 0, none⟩)), (6, .pointer (some ⟨b297, 0, none⟩)), (96, v1), (97, .int .i64 ((p0_t.Apart.length : Int))), (98, .int .i64 ((k205 : Int))), (102, .agg [.int .i64 (y290.a0), .int .i64 (y290.a1)].toArray), (103, .int .i64 (((0 : Nat) : Int)))]) ⟨rfl, rfl, rfl, rfl, rfl, rfl, rfl, trivial⟩ (List.Perm.refl _) ?_
              refine C_loop (fun n H' M' L' => ∃ (k298 : Nat) (zs320' : Nat), k298 + zs320' = (2 : Int).toNat ∧ zs320' = n ∧ forN (fun k s315 n => m_upkeep_Check_b5 p0_t y290 k n) (fun _ => if decide (y290.a0 = y290.a1) then (some 3) else (nx287 ())) zs320' k298 () = some r ∧ H284.le H' ∧ .obj b297 (.cells [.int .i64 (y290.a0), .int .i64 (y290.a1)].toArray 59 (0, 0)) :: .obj b101 (.cells [v0, v1, .int .i64 (p0_t.Crews)].toArray 25 (0, 0)) :: M = M' ∧ [(1, .pointer (some ⟨b101, 0, none⟩)), (6, .pointer (some ⟨b297, 0, none⟩)), (96, v1), (97, .int .i64 ((p0_t.Apart.length : Int))), (98, .int .i64 ((k205 : Int))), (102, .agg [.int .i64 (y290.a0), .int .i64 (y290.a1)].toArray), (103, .int .i64 ((k298 : Int)))] = L') _ ⟨0, _, Nat.zero_add _, rfl, hm, (Hp.le_refl _), rfl, rfl⟩ ?_
              rintro _ H313 _ _ ⟨k298, zs320', hd322, rfl, hm, hle314, rfl, rfl⟩
              refine C_seq ?_
              refine C_region ?_
              refine W_bin rfl rfl rfl rfl rfl ?_
              refine W_end (E_then ?_)
              refine C_seq ?_
              refine C_cond (b := decide ((k298 : Int) < 2)) rfl (fun hb324 => ?_) (fun hb324 => ?_)
              · obtain ⟨zs320, rfl, hd323, hy321⟩ := rngN_t hd322 hb324
                have hm : m_upkeep_Check_b5 p0_t y290 k298 (forN (fun k s315 n => m_upkeep_Check_b5 p0_t y290 k n) (fun _ => if decide (y290.a0 = y290.a1) then (some 3) else (nx287 ())) zs320 (k298 + 1)) = some r := hm
                generalize hn317 : forN (fun k s315 n => m_upkeep_Check_b5 p0_t y290 k n) (fun _ => if decide (y290.a0 = y290.a1) then (some 3) else (nx287 ())) zs320 (k298 + 1) = nx316 at hm
                unfold m_upkeep_Check_b5 at hm
                refine C_skip (E_then ?_)
                refine C_seq ?_
                refine C_block ?_
                refine C_seq ?_
                refine C_region ?_
                obtain ⟨y325, h326, he327, hm⟩ := idx_some hm
                refine W_indexV rfl rfl Proofs.Try.runUnderlying59 Proofs.Try.isAgg3 Proofs.Try.sizeOf3 rfl rfl h326 (List.getElem?_eq_some_iff.1 he327).1 (cells_map (f := (Value.int .i64)) (l := [y290.a0, y290.a1]) he327) ?_
                refine W_assign rfl rfl rfl ?_
                refine W_end ?_
                refine E_then ?_
                refine C_seq_join (fun H' M' L' => H313 = H' ∧ .obj b297 (.cells [.int .i64 (y290.a0), .int .i64 (y290.a1)].toArray 59 (0, 0)) :: .obj b101 (.cells [v0, v1, .int .i64 (p0_t.Crews)].toArray 25 (0, 0)) :: M = M' ∧ [(1, .pointer (some ⟨b101, 0, none⟩)), (6, .pointer (some ⟨b297, 0, none⟩)), (96, v1), (97, .int .i64 ((p0_t.Apart.length : Int))), (98, .int .i64 ((k205 : Int))), (102, .agg [.int .i64 (y290.a0), .int .i64 (y290.a1)].toArray), (103, .int .i64 ((k298 : Int))), (114, .bool ((decide (y325 < 0)) || (decide ((p0_t.Jobs.length : Int) ≤ y325))))] = L') ?_ (fun J329 => ?_)
                · rintro _ _ _ ⟨rfl, rfl, rfl⟩
                  refine C_cond (b := (decide (y325 < 0)) || (decide ((p0_t.Jobs.length : Int) ≤ y325))) rfl (fun hb330 => ?_) (fun hb330 => ?_)
                  · have hm := ite_t' hb330 hm
                    refine C_seq ?_
                    refine C_region ?_
                    refine W_assign rfl rfl rfl ?_
                    refine W_end ?_
                    refine E_then ?_
                    refine C_ret ?_
                    refine E_ret_block ?_
                    refine E_ret_then ?_
                    refine E_ret_then ?_
                    refine E_ret_block ?_
                    refine E_ret_then ?_
                    refine E_ret_block ?_
                    refine E_ret_then ?_
                    refine E_ret_then ?_
                    refine E_ret_block ?_
                    refine E_ret_then ?_
                    obtain rfl := Option.some.inj hm
                    refine E_drop (List.Sublist.cons _ (List.Sublist.cons _ (List.Sublist.refl _))) ?_
                    refine E_weak (Hp.le_trans (Hp.le_trans hle166 hle285) hle314) ?_
                    exact end1 rfl rfl ⟨rfl, rfl, rfl⟩
                  · have hm := ite_f' hb330 hm
                    refine C_skip ?_
                    refine E_normal_block ?_
                    refine E_then ?_
                    refine C_region ?_
                    refine W_bin rfl rfl rfl rfl rfl ?_
                    refine W_move rfl rfl rfl ?_
                    refine W_end ?_
                    exact E_keepJ (E_back (Nat.lt_succ_self _) ⟨k298 + 1, zs320, hd323, rfl, (by rw [hn317]; exact hm), hle314, rfl, rfl⟩) (List.Perm.refl _) ⟨rfl, rfl, rfl, rfl, rfl, rfl, (congrArg (fun z => some (Value.int .i64 z)) (i64_succN hy321 (toNat_max (by decide)))), trivial⟩
                · refine C_region ?_
                  refine W_move rfl rfl rfl ?_
                  refine W_bin rfl rfl rfl rfl rfl ?_
                  refine W_move rfl rfl rfl ?_
                  cases hb331 : (decide (y325 < 0))
                  · refine W_move rfl rfl rfl ?_
                    refine W_field (o := 0) rfl rfl Proofs.Try.runUnderlying25 rfl Proofs.Try.sizeOf22 rfl rfl rfl ?_
                    refine W_load rfl rfl Proofs.Try.isAgg22 rfl (own_at (List.mem_cons_of_mem _ (List.mem_cons_self ..)) rfl) ?_
                    refine W_lenR rfl rfl Proofs.Try.runUnderlying22 rfl (((h0.mono hle166).mono hle285).mono hle314) ?_
                    refine W_bin rfl rfl rfl rfl rfl ?_
                    refine W_pick rfl rfl rfl rfl ?_
                    refine W_end ?_
                    exact E_keepJ (J329 _ _ _ ⟨rfl, rfl, rfl⟩) (List.Perm.refl _) ⟨rfl, rfl, rfl, rfl, rfl, rfl, rfl, (by show some (Value.bool (decide ((p0_t.Jobs.length : Int) ≤ y325))) = some (Value.bool ((decide (y325 < 0)) || (decide ((p0_t.Jobs.length : Int) ≤ y325)))); simp only [hb104, hb107, hb331, Bool.and_true, Bool.true_and, Bool.false_and, Bool.and_false, Bool.or_true, Bool.true_or, Bool.or_false, Bool.false_or, Bool.not_true, Bool.not_false]), trivial⟩
                  · refine W_no rfl rfl rfl ?_
                    refine W_no rfl rfl rfl ?_
                    refine W_no rfl rfl rfl ?_
                    refine W_no rfl rfl rfl ?_
                    refine W_no rfl rfl rfl ?_
                    refine W_pick rfl rfl rfl rfl ?_
                    refine W_end ?_
                    exact E_keepJ (J329 _ _ _ ⟨rfl, rfl, rfl⟩) (List.Perm.refl _) ⟨rfl, rfl, rfl, rfl, rfl, rfl, rfl, (by show some (Value.bool (true)) = some (Value.bool ((decide (y325 < 0)) || (decide ((p0_t.Jobs.length : Int) ≤ y325)))); simp only [hb104, hb107, hb331, Bool.and_true, Bool.true_and, Bool.false_and, Bool.and_false, Bool.or_true, Bool.true_or, Bool.or_false, Bool.false_or, Bool.not_true, Bool.not_false]), trivial⟩
              · obtain rfl := rngN_f hd322 hb324
                have hm : (if decide (y290.a0 = y290.a1) then (some 3) else (nx287 ())) = some r := hm
                refine C_exit (E_exit_then ?_)
                refine E_exit_then ?_
                refine E_exit_hit ?_
                refine E_then ?_
                refine C_seq ?_
                refine C_region ?_
                refine W_indexAd rfl rfl Proofs.Try.runUnderlying59 Proofs.Try.sizeOf3 rfl rfl (by decide) (by decide) ?_
                refine W_load rfl rfl Proofs.Try.isAgg3 rfl (own_at (List.mem_cons_self ..) rfl) ?_
                refine W_indexAd rfl rfl Proofs.Try.runUnderlying59 Proofs.Try.sizeOf3 rfl rfl (by decide) (by decide) ?_
                refine W_load rfl rfl Proofs.Try.isAgg3 rfl (own_at (List.mem_cons_self ..) rfl) ?_
                refine W_bin rfl rfl rfl rfl rfl ?_
                refine W_end ?_
                refine E_then ?_
                refine C_cond (b := decide (y290.a0 = y290.a1)) rfl (fun hb332 => ?_) (fun hb332 => ?_)
                · have hm := ite_t' hb332 hm
                  refine C_seq ?_
                  refine C_region ?_
                  refine W_assign rfl rfl rfl ?_
                  refine W_end ?_
                  refine E_then ?_
                  refine C_ret ?_
                  refine E_ret_block ?_
                  refine E_ret_then ?_
                  refine E_ret_then ?_
                  refine E_ret_block ?_
                  refine E_ret_then ?_
                  obtain rfl := Option.some.inj hm
                  refine E_drop (List.Sublist.cons _ (List.Sublist.cons _ (List.Sublist.refl _))) ?_
                  refine E_weak (Hp.le_trans (Hp.le_trans hle166 hle285) hle314) ?_
                  exact end1 rfl rfl ⟨rfl, rfl, rfl⟩
                · have hm := ite_f' hb332 hm
                  refine C_skip ?_
                  refine E_normal_block ?_
                  refine E_then ?_
                  refine C_region ?_
                  refine W_bin rfl rfl rfl rfl rfl ?_
                  refine W_move rfl rfl rfl ?_
                  refine W_end ?_
                  refine E_drop (List.Sublist.cons _ (List.Sublist.refl _)) ?_
                  exact E_keepJ (E_back (Nat.lt_succ_self _) ⟨k205 + 1, zs291, hd294, rfl, (by rw [hn288]; exact hm), (Hp.le_trans hle285 hle314), rfl, rfl⟩) (List.Perm.refl _) ⟨rfl, rfl, rfl, (congrArg (fun z => some (Value.int .i64 z)) (i64_succ hy292 (((h1.mono hle166).mono hle285)).lenMax)), trivial⟩
            · obtain rfl := rng_f hd293 hb295
              have hm : (some 0) = some r := hm
              refine C_exit (E_exit_then ?_)
              refine E_exit_then ?_
              refine E_exit_hit ?_
              refine E_then ?_
              refine C_seq ?_
              refine C_region ?_
              refine W_assign rfl rfl rfl ?_
              refine W_end ?_
              refine E_then ?_
              refine C_ret ?_
              obtain rfl := Option.some.inj hm
              refine E_drop (List.Sublist.cons _ (List.Sublist.refl _)) ?_
              refine E_weak (Hp.le_trans hle166 hle285) ?_
              exact end1 rfl rfl ⟨rfl, rfl, rfl⟩
      · refine C_region ?_
        refine W_field (o := 2) rfl rfl Proofs.Try.runUnderlying25 rfl Proofs.Try.sizeOf3 rfl rfl rfl ?_
        refine W_load rfl rfl Proofs.Try.isAgg3 rfl (own_at (List.mem_cons_self ..) rfl) ?_
        refine W_bin rfl rfl rfl rfl rfl ?_
        refine W_move rfl rfl rfl ?_
        cases hb333 : (decide (p0_t.Crews < 1))
        · refine W_field (o := 2) rfl rfl Proofs.Try.runUnderlying25 rfl Proofs.Try.sizeOf3 rfl rfl rfl ?_
          refine W_load rfl rfl Proofs.Try.isAgg3 rfl (own_at (List.mem_cons_self ..) rfl) ?_
          refine W_bin rfl rfl rfl rfl rfl ?_
          refine W_pick rfl rfl rfl rfl ?_
          refine W_assign rfl rfl rfl ?_
          refine W_end ?_
          exact E_keepJ (J106 _ _ _ ⟨rfl, rfl, rfl⟩) (List.Perm.refl _) ⟨rfl, (by show some (Value.bool (decide (6 < p0_t.Crews))) = some (Value.bool ((decide (p0_t.Crews < 1)) || (decide (6 < p0_t.Crews)))); simp only [hb104, hb333, Bool.and_true, Bool.true_and, Bool.false_and, Bool.and_false, Bool.or_true, Bool.true_or, Bool.or_false, Bool.false_or, Bool.not_true, Bool.not_false]), trivial⟩
        · refine W_no rfl rfl rfl ?_
          refine W_no rfl rfl rfl ?_
          refine W_no rfl rfl rfl ?_
          refine W_pick rfl rfl rfl rfl ?_
          refine W_assign rfl rfl rfl ?_
          refine W_end ?_
          exact E_keepJ (J106 _ _ _ ⟨rfl, rfl, rfl⟩) (List.Perm.refl _) ⟨rfl, (by show some (Value.bool (true)) = some (Value.bool ((decide (p0_t.Crews < 1)) || (decide (6 < p0_t.Crews)))); simp only [hb104, hb333, Bool.and_true, Bool.true_and, Bool.false_and, Bool.and_false, Bool.or_true, Bool.true_or, Bool.or_false, Bool.false_or, Bool.not_true, Bool.not_false]), trivial⟩
  · refine C_region ?_
    refine W_field (o := 0) rfl rfl Proofs.Try.runUnderlying25 rfl Proofs.Try.sizeOf22 rfl rfl rfl ?_
    refine W_load rfl rfl Proofs.Try.isAgg22 rfl (own_at (List.mem_cons_self ..) rfl) ?_
    refine W_lenR rfl rfl Proofs.Try.runUnderlying22 rfl h0 ?_
    refine W_bin rfl rfl rfl rfl rfl ?_
    refine W_move rfl rfl rfl ?_
    cases hb334 : (decide (6 < (p0_t.Jobs.length : Int)))
    · refine W_field (o := 1) rfl rfl Proofs.Try.runUnderlying25 rfl Proofs.Try.sizeOf23 rfl rfl rfl ?_
      refine W_load rfl rfl Proofs.Try.isAgg23 rfl (own_at (List.mem_cons_self ..) rfl) ?_
      refine W_lenR rfl rfl Proofs.Try.runUnderlying23 rfl h1 ?_
      refine W_bin rfl rfl rfl rfl rfl ?_
      refine W_pick rfl rfl rfl rfl ?_
      refine W_assign rfl rfl rfl ?_
      refine W_end ?_
      exact E_keepJ (J103 _ _ _ ⟨rfl, rfl, rfl⟩) (List.Perm.refl _) ⟨rfl, (by show some (Value.bool (decide (256 < (p0_t.Apart.length : Int)))) = some (Value.bool ((decide (6 < (p0_t.Jobs.length : Int))) || (decide (256 < (p0_t.Apart.length : Int))))); simp only [hb334, Bool.and_true, Bool.true_and, Bool.false_and, Bool.and_false, Bool.or_true, Bool.true_or, Bool.or_false, Bool.false_or, Bool.not_true, Bool.not_false]), trivial⟩
    · refine W_no rfl rfl rfl ?_
      refine W_no rfl rfl rfl ?_
      refine W_no rfl rfl rfl ?_
      refine W_no rfl rfl rfl ?_
      refine W_pick rfl rfl rfl rfl ?_
      refine W_assign rfl rfl rfl ?_
      refine W_end ?_
      exact E_keepJ (J103 _ _ _ ⟨rfl, rfl, rfl⟩) (List.Perm.refl _) ⟨rfl, (by show some (Value.bool (true)) = some (Value.bool ((decide (6 < (p0_t.Jobs.length : Int))) || (decide (256 < (p0_t.Apart.length : Int))))); simp only [hb334, Bool.and_true, Bool.true_and, Bool.false_and, Bool.and_false, Bool.or_true, Bool.true_or, Bool.or_false, Bool.false_or, Bool.not_true, Bool.not_false]), trivial⟩

theorem clone36_c {B : Nat} {w0 w : World} {H : Hp} {M : List Res} {s : List Int} {v0 : Value} (h0 : RdS H v0 s) (hz : s.length * 8 ≤ 140737488355328) (ht : St B w0 H M w) :
    Calls Proofs.Try.prog 36 [v0].toArray w (Ret B w0 fun H' M' v => H = H' ∧ ∃ (v' : Value) (xs' : List Value), .row v' 3 (Rep.sz Int) s.length xs' :: M = M' ∧ v' = v ∧ RwF v' xs' s) := by
  refine enter Proofs.Try.func36 rfl rfl rfl ht ?_
  obtain ⟨o, n, c, rfl⟩ := h0.shape
  refine C_seq ?_
  refine C_region ?_
  refine W_assign rfl rfl rfl ?_
  refine W_end (E_then ?_)
  refine C_seq ?_
  refine C_seq ?_
  refine C_region ?_
  refine W_move rfl rfl rfl ?_
  refine W_eqNil rfl rfl Proofs.Try.runUnderlying27 rfl rfl ?_
  refine W_end (E_then ?_)
  cases o with
  | none =>
    refine C_cond (b := true) rfl (fun _ => ?_) (fun hb => Bool.noConfusion hb)
    obtain rfl := h0.isNil
    refine C_seq ?_
    refine C_region ?_
    refine W_assign rfl rfl rfl ?_
    refine W_end (E_then ?_)
    refine C_ret (E_ret_then ?_)
    refine E_nilRow 3 (Rep.sz Int) ?_
    exact end1 rfl rfl ⟨rfl, .slice none 0 0, [], rfl, rfl, (Rw.nil (H := H)).toF⟩
  | some a =>
    refine C_cond (b := false) rfl (fun hb => Bool.noConfusion hb) (fun _ => ?_)
    refine C_skip (E_then ?_)
    refine C_seq ?_
    refine C_region ?_
    refine W_build0 Int rfl rfl Proofs.Try.runUnderlying27 Proofs.Try.sizeOf3 ?_
    intro v1 xs1 h1
    refine W_move rfl rfl rfl ?_
    refine W_appendO (α := Int) (l := []) (ys := s) (bytes := 8) rfl rfl Proofs.Try.underlying27 ⟨_, rfl, rfl, rfl, rfl⟩ rfl rfl rfl rfl rfl h1 h0 (by simpa using hz) ?_
    intro v2 xs2 h2
    refine W_assign rfl rfl rfl ?_
    refine W_end (E_then ?_)
    refine C_ret ?_
    exact end1 rfl rfl ⟨rfl, v2, xs2, rfl, rfl, h2.toF⟩

theorem m_slices_Index_2_int_2_int_c {B : Nat} {w0 w : World} {H : Hp} {M : List Res} {p0_s : (List S_A2_Int)} {p1_v : S_A2_Int} {v0 : Value} {r : Int} (hm : m_slices_Index_2_int_2_int p0_s p1_v = some r) (h0 : RdS H v0 p0_s) (ht : St B w0 H (M) w) :
    Calls Proofs.Try.prog 43 [v0, .agg [.int .i64 (p1_v.a0), .int .i64 (p1_v.a1)].toArray].toArray w (Ret B w0 fun H' M' v => H = H' ∧ M = M' ∧ .int .i64 (r) = v) := by
  unfold m_slices_Index_2_int_2_int at hm
  refine enter Proofs.Try.func43 rfl rfl rfl ht ?_
  refine C_seq ?_
  refine C_region ?_
  refine W_box (cs := [.int .i64 (p1_v.a0), .int .i64 (p1_v.a1)]) rfl rfl rfl rfl (fun b101 => ?_)
  refine W_assign rfl rfl rfl ?_
  refine W_end ?_
  refine E_then ?_
  refine C_seq ?_
  refine C_seq ?_
  refine C_region ?_
  refine W_move rfl rfl rfl ?_
  refine W_lenR rfl rfl Proofs.Try.runUnderlying23 rfl h0 ?_
  refine W_move rfl rfl rfl ?_
  refine W_end ?_
  refine E_then ?_
  refine C_block ?_
  refine C_keep (L' := [(0, v0), (3, .pointer (some ⟨b101, 0, none⟩)), (7, .int .i64 ((p0_s.length : Int))), (8, .int .i64 (((0 : Nat) : Int)))]) ⟨rfl, rfl, rfl, rfl, trivial⟩ (List.Perm.refl _) ?_
  refine C_loop (fun n H' M' L' => ∃ (k102 : Nat) (zs128' : Nat), k102 + zs128' = ((p0_s.length : Int) : Int).toNat ∧ zs128' = n ∧ forN (fun k s123 n => m_slices_Index_2_int_2_int_b1 p0_s p1_v k n) (fun _ => some ((-1))) zs128' k102 () = some r ∧ H.le H' ∧ .obj b101 (.cells [.int .i64 (p1_v.a0), .int .i64 (p1_v.a1)].toArray 59 (0, 0)) :: M = M' ∧ [(0, v0), (3, .pointer (some ⟨b101, 0, none⟩)), (7, .int .i64 ((p0_s.length : Int))), (8, .int .i64 ((k102 : Int)))] = L') _ ⟨0, _, Nat.zero_add _, rfl, hm, (Hp.le_refl _), rfl, rfl⟩ ?_
  rintro _ H121 _ _ ⟨k102, zs128', hd130, rfl, hm, hle122, rfl, rfl⟩
  refine C_seq ?_
  refine C_region ?_
  refine W_bin rfl rfl rfl rfl rfl ?_
  refine W_end (E_then ?_)
  refine C_seq ?_
  refine C_cond (b := decide ((k102 : Int) < (p0_s.length : Int))) rfl (fun hb132 => ?_) (fun hb132 => ?_)
  · obtain ⟨zs128, rfl, hd131, hy129⟩ := rngN_t hd130 hb132
    have hm : m_slices_Index_2_int_2_int_b1 p0_s p1_v k102 (forN (fun k s123 n => m_slices_Index_2_int_2_int_b1 p0_s p1_v k n) (fun _ => some ((-1))) zs128 (k102 + 1)) = some r := hm
    generalize hn125 : forN (fun k s123 n => m_slices_Index_2_int_2_int_b1 p0_s p1_v k n) (fun _ => some ((-1))) zs128 (k102 + 1) = nx124 at hm
    unfold m_slices_Index_2_int_2_int_b1 at hm
    refine C_skip (E_then ?_)
    refine C_seq ?_
    refine C_block ?_
    refine C_seq ?_
    refine C_region ?_
    refine W_move rfl rfl rfl ?_
    refine W_assign rfl rfl rfl ?_
    refine W_end ?_
    refine E_then ?_
    refine C_seq ?_
    obtain ⟨y133, h134, he135, hm⟩ := idx_some hm
    obtain ⟨_, ⟨rfl⟩, hc136⟩ := (h0).elem he135
    refine C_region_tok0 5 (phiT [(fun H rs v => [] = rs ∧ .agg [.int .i64 (p1_v.a0), .int .i64 (p1_v.a1)].toArray = v), (fun H rs v => [] = rs ∧ v0 = v), (fun H rs v => [] = rs ∧ .int .i64 ((k102 : Int)) = v), (fun H rs v => [] = rs ∧ .pointer (some ((Value.base (v0)).add (((k102 : Int) : Int).toNat * 2))) = v), (fun H rs v => [] = rs ∧ .agg [.int .i64 (y133.a0), .int .i64 (y133.a1)].toArray = v)]) [[], [], [], [], []] [[], [], [], [], []] [] [0, 1, 2, 3, 4] Facts.mixed (by kernel_rfl) rfl rfl rfl (by kernel_rfl) (phiT_mono ⟨eq_monoT _ _, eq_monoT _ _, eq_monoT _ _, eq_monoT _ _, eq_monoT _ _, trivial⟩) ⟨?_, ?_, ?_, ?_, ?_, trivial⟩ ?_
    · intro HX hX X Rest hR
      intro hU
      refine W_loadAgg rfl rfl Proofs.Try.isAgg59 Proofs.Try.sizeOf59 rfl (own_all (hR _ (List.mem_cons_self ..))) rfl ?_
      exact W_end (OneT_end [] (Hp.le_refl _) ⟨rfl, rfl⟩)
    · intro HX hX X Rest hR
      intro hU
      refine W_move rfl rfl rfl ?_
      exact W_end (OneT_end [] (Hp.le_refl _) ⟨rfl, rfl⟩)
    · intro HX hX X Rest hR
      intro hU
      refine W_move rfl rfl rfl ?_
      exact W_end (OneT_end [] (Hp.le_refl _) ⟨rfl, rfl⟩)
    · intro HX hX X Rest hR
      rintro _ _ ⟨rfl, rfl⟩
      rintro _ _ ⟨rfl, rfl⟩
      intro hU
      refine W_indexS rfl rfl Proofs.Try.runUnderlying23 Proofs.Try.sizeOf59 rfl ((h0.mono hle122).mono hX) rfl h134 he135 ?_
      exact W_end (OneT_end [] (Hp.le_refl _) ⟨rfl, rfl⟩)
    · intro HX hX X Rest hR
      rintro _ _ ⟨rfl, rfl⟩
      intro hU
      refine W_loadAgg rfl rfl Proofs.Try.isAgg59 Proofs.Try.sizeOf59 rfl ((hc136.mono hle122).mono hX).at rfl ?_
      exact W_end (OneT_end [] (Hp.le_refl _) ⟨rfl, rfl⟩)
    intro H137 hle138
    rintro _ _ ⟨rfl, rfl⟩
    rintro _ _ ⟨rfl, rfl⟩
    rintro _ _ ⟨rfl, rfl⟩
    rintro _ _ ⟨rfl, rfl⟩
    rintro _ _ ⟨rfl, rfl⟩
    refine W_eqAgg (b := decide (p1_v.a0 = y133.a0) && (decide (p1_v.a1 = y133.a1) && true)) rfl rfl (by kernel_rfl) rfl rfl (fun w => run_equal_array (bs := [decide (p1_v.a0 = y133.a0), decide (p1_v.a1 = y133.a1)]) Proofs.Try.runUnderlying59 Proofs.Try.sizeOf3 rfl ⟨(fldEq_int Proofs.Try.isAgg3 Proofs.Try.runUnderlying3 rfl rfl), (fldEq_int Proofs.Try.isAgg3 Proofs.Try.runUnderlying3 rfl rfl), trivial⟩) ?_
    refine W_end ?_
    refine E_then ?_
    refine C_cond (b := decide (p1_v.a0 = y133.a0) && (decide (p1_v.a1 = y133.a1) && true)) rfl (fun hb139 => ?_) (fun hb139 => ?_)
    · have hm := ite_t' hb139 hm
      refine C_seq ?_
      refine C_region ?_
      refine W_move rfl rfl rfl ?_
      refine W_assign rfl rfl rfl ?_
      refine W_end ?_
      refine E_then ?_
      refine C_ret ?_
      refine E_ret_block ?_
      refine E_ret_then ?_
      refine E_ret_then ?_
      refine E_ret_block ?_
      refine E_ret_then ?_
      obtain rfl := Option.some.inj hm
      refine E_drop (List.Sublist.cons _ (List.Sublist.refl _)) ?_
      refine E_weak (Hp.le_trans hle122 hle138) ?_
      exact end1 rfl rfl ⟨rfl, rfl, rfl⟩
    · have hm := ite_f' hb139 hm
      refine C_skip ?_
      refine E_normal_block ?_
      refine E_then ?_
      refine C_region ?_
      refine W_bin rfl rfl rfl rfl rfl ?_
      refine W_move rfl rfl rfl ?_
      refine W_end ?_
      exact E_keepJ (E_back (Nat.lt_succ_self _) ⟨k102 + 1, zs128, hd131, rfl, (by rw [hn125]; exact hm), (Hp.le_trans hle122 hle138), rfl, rfl⟩) (List.Perm.refl _) ⟨rfl, rfl, rfl, (congrArg (fun z => some (Value.int .i64 z)) (i64_succN hy129 (toNat_max (len_max (h0).lenMax)))), trivial⟩
  · obtain rfl := rngN_f hd130 hb132
    have hm : (some ((-1))) = some r := hm
    refine C_exit (E_exit_then ?_)
    refine E_exit_then ?_
    refine E_exit_hit ?_
    refine E_then ?_
    refine C_seq ?_
    refine C_region ?_
    refine W_assign rfl rfl rfl ?_
    refine W_end ?_
    refine E_then ?_
    refine C_ret ?_
    obtain rfl := Option.some.inj hm
    refine E_drop (List.Sublist.cons _ (List.Sublist.refl _)) ?_
    refine E_weak hle122 ?_
    exact end1 rfl rfl ⟨rfl, rfl, rfl⟩

theorem m_slices_Contains_2_int_2_int_c {B : Nat} {w0 w : World} {H : Hp} {M : List Res} {p0_s : (List S_A2_Int)} {p1_v : S_A2_Int} {v0 : Value} {r : Bool} (hm : m_slices_Contains_2_int_2_int p0_s p1_v = some r) (h0 : RdS H v0 p0_s) (ht : St B w0 H (M) w) :
    Calls Proofs.Try.prog 41 [v0, .agg [.int .i64 (p1_v.a0), .int .i64 (p1_v.a1)].toArray].toArray w (Ret B w0 fun H' M' v => H = H' ∧ M = M' ∧ .bool (r) = v) := by
  unfold m_slices_Contains_2_int_2_int at hm
  refine enter Proofs.Try.func41 rfl rfl rfl ht ?_
  refine C_seq ?_
  refine C_region ?_
  refine W_box (cs := [.int .i64 (p1_v.a0), .int .i64 (p1_v.a1)]) rfl rfl rfl rfl (fun b101 => ?_)
  refine W_assign rfl rfl rfl ?_
  refine W_end ?_
  refine E_then ?_
  refine C_seq ?_
  refine C_region ?_
  refine W_move rfl rfl rfl ?_
  refine W_loadAgg rfl rfl Proofs.Try.isAgg59 Proofs.Try.sizeOf59 rfl (own_all (List.mem_cons_self ..)) rfl ?_
  obtain ⟨r102, hc103, hm⟩ := bind_some hm
  refine W_call Proofs.Try.call43 rfl rfl rfl (fun w ht => by have h := m_slices_Index_2_int_2_int_c (hm := hc103) h0 ht; exact h) ?_
  rintro _ _ _ ⟨rfl, rfl, rfl⟩
  refine W_bin rfl rfl rfl rfl rfl ?_
  refine W_assign rfl rfl rfl ?_
  refine W_end ?_
  refine E_then ?_
  refine C_ret ?_
  obtain rfl := Option.some.inj hm
  refine E_drop (List.Sublist.cons _ (List.Sublist.refl _)) ?_
  refine E_weak (Hp.le_refl _) ?_
  exact end1 rfl rfl ⟨rfl, rfl, rfl⟩

theorem m_upkeep_wrong_c {B : Nat} {w0 w : World} {H : Hp} {M : List Res} {p0_t : S_api_UpkeepTask} {p1_l : (List Int)} {p2_i : Int} {v0 : Value} {v1 : Value} {v2 : Value} {r : Int} (hm : m_upkeep_wrong p0_t p1_l p2_i = some r) (h0 : RdS H v0 p0_t.Jobs) (h1 : RdS H v1 p0_t.Apart) (h2 : RdS H v2 p1_l) (ht : St B w0 H (M) w) :
    Calls Proofs.Try.prog 33 [.agg [v0, v1, .int .i64 (p0_t.Crews)].toArray, v2, .int .i64 (p2_i)].toArray w (Ret B w0 fun H' M' v => H = H' ∧ M = M' ∧ .int .i64 (r) = v) := by
  unfold m_upkeep_wrong at hm
  refine enter Proofs.Try.func33 rfl rfl rfl ht ?_
  refine C_seq ?_
  refine C_region ?_
  refine W_box (cs := [v0, v1, .int .i64 (p0_t.Crews)]) rfl rfl rfl rfl (fun b101 => ?_)
  refine W_assign rfl rfl rfl ?_
  refine W_end ?_
  refine E_then ?_
  refine C_seq ?_
  obtain ⟨y102, h103, he104, hm⟩ := idx_some hm
  obtain ⟨_, rfl, hc105⟩ := (h2).elem he104
  obtain ⟨y106, h107, he108, hm⟩ := idx_some hm
  obtain ⟨_, ⟨rfl⟩, hc109⟩ := (h0).elem he108
  refine C_region_tok0 10 (phiT [(fun H rs v => [] = rs ∧ v2 = v), (fun H rs v => [] = rs ∧ .int .i64 (p2_i) = v), (fun H rs v => [] = rs ∧ .pointer (some ((Value.base (v2)).add ((p2_i : Int).toNat * 1))) = v), (fun H rs v => [] = rs ∧ .int .i64 (y102) = v), (fun H rs v => [] = rs ∧ .pointer (some ⟨b101, 0, none⟩) = v), (fun H rs v => [] = rs ∧ v0 = v), (fun H rs v => [] = rs ∧ .int .i64 (p2_i) = v), (fun H rs v => [] = rs ∧ .pointer (some ((Value.base (v0)).add ((p2_i : Int).toNat * 5))) = v), (fun H rs v => [] = rs ∧ .pointer (some (((Value.base (v0)).add ((p2_i : Int).toNat * 5)).add 1)) = v), (fun H rs v => [] = rs ∧ .int .i64 (y106.Long) = v)]) [[], [], [], [], [], [], [], [], [], []] [[], [], [], [], [], [], [], [], [], []] [] [0, 1, 2, 3, 4, 5, 6, 7, 8, 9] Facts.mixed (by kernel_rfl) rfl rfl rfl (by kernel_rfl) (phiT_mono ⟨eq_monoT _ _, eq_monoT _ _, eq_monoT _ _, eq_monoT _ _, eq_monoT _ _, eq_monoT _ _, eq_monoT _ _, eq_monoT _ _, eq_monoT _ _, eq_monoT _ _, trivial⟩) ⟨?_, ?_, ?_, ?_, ?_, ?_, ?_, ?_, ?_, ?_, trivial⟩ ?_
  · intro HX hX X Rest hR
    intro hU
    refine W_move rfl rfl rfl ?_
    exact W_end (OneT_end [] (Hp.le_refl _) ⟨rfl, rfl⟩)
  · intro HX hX X Rest hR
    intro hU
    refine W_move rfl rfl rfl ?_
    exact W_end (OneT_end [] (Hp.le_refl _) ⟨rfl, rfl⟩)
  · intro HX hX X Rest hR
    rintro _ _ ⟨rfl, rfl⟩
    rintro _ _ ⟨rfl, rfl⟩
    intro hU
    refine W_indexS rfl rfl Proofs.Try.runUnderlying27 Proofs.Try.sizeOf3 rfl (h2.mono hX) rfl h103 he104 ?_
    exact W_end (OneT_end [] (Hp.le_refl _) ⟨rfl, rfl⟩)
  · intro HX hX X Rest hR
    rintro _ _ ⟨rfl, rfl⟩
    intro hU
    refine W_load rfl rfl Proofs.Try.isAgg3 rfl (HCells.one (hc105.mono hX) 0 rfl).at ?_
    exact W_end (OneT_end [] (Hp.le_refl _) ⟨rfl, rfl⟩)
  · intro HX hX X Rest hR
    intro hU
    refine W_field (o := 0) rfl rfl Proofs.Try.runUnderlying25 rfl Proofs.Try.sizeOf22 rfl rfl rfl ?_
    exact W_end (OneT_end [] (Hp.le_refl _) ⟨rfl, rfl⟩)
  · intro HX hX X Rest hR
    rintro _ _ ⟨rfl, rfl⟩
    intro hU
    refine W_load rfl rfl Proofs.Try.isAgg22 rfl (own_at (hR _ (List.mem_cons_self ..)) rfl) ?_
    exact W_end (OneT_end [] (Hp.le_refl _) ⟨rfl, rfl⟩)
  · intro HX hX X Rest hR
    intro hU
    refine W_move rfl rfl rfl ?_
    exact W_end (OneT_end [] (Hp.le_refl _) ⟨rfl, rfl⟩)
  · intro HX hX X Rest hR
    rintro _ _ ⟨rfl, rfl⟩
    rintro _ _ ⟨rfl, rfl⟩
    intro hU
    refine W_indexS rfl rfl Proofs.Try.runUnderlying22 Proofs.Try.sizeOf51 rfl (h0.mono hX) rfl h107 he108 ?_
    exact W_end (OneT_end [] (Hp.le_refl _) ⟨rfl, rfl⟩)
  · intro HX hX X Rest hR
    rintro _ _ ⟨rfl, rfl⟩
    intro hU
    refine W_field (o := 1) rfl rfl Proofs.Try.runUnderlying51 rfl Proofs.Try.sizeOf3 rfl rfl rfl ?_
    exact W_end (OneT_end [] (Hp.le_refl _) ⟨rfl, rfl⟩)
  · intro HX hX X Rest hR
    rintro _ _ ⟨rfl, rfl⟩
    intro hU
    refine W_load rfl rfl Proofs.Try.isAgg3 rfl (HCells.one (hc109.mono hX) 1 rfl).at ?_
    exact W_end (OneT_end [] (Hp.le_refl _) ⟨rfl, rfl⟩)
  intro H110 hle111
  rintro _ _ ⟨rfl, rfl⟩
  rintro _ _ ⟨rfl, rfl⟩
  rintro _ _ ⟨rfl, rfl⟩
  rintro _ _ ⟨rfl, rfl⟩
  rintro _ _ ⟨rfl, rfl⟩
  rintro _ _ ⟨rfl, rfl⟩
  rintro _ _ ⟨rfl, rfl⟩
  rintro _ _ ⟨rfl, rfl⟩
  rintro _ _ ⟨rfl, rfl⟩
  rintro _ _ ⟨rfl, rfl⟩
  refine W_bin rfl rfl rfl rfl rfl ?_
  refine W_assign rfl rfl rfl ?_
  refine W_end ?_
  refine E_then ?_
  refine C_seq ?_
  refine C_region ?_
  refine W_allocArr (α := Int) (z := .agg ((List.replicate 120 (0 : Int)).map (Value.int .i64)).toArray) (cs := (List.replicate 120 (0 : Int)).map (Value.int .i64)) (l := List.replicate 120 (0 : Int)) (n := 120) rfl rfl (fun _ => by kernel_rfl) (by kernel_rfl) (RdC.ints _) (by kernel_rfl) rfl ?_
  intro v112 hr113
  have hl114 : (List.replicate 120 (0 : Int)).length = 120 := by first | rfl | (simp only [List.length_set, List.length_replicate, *])
  refine W_end ?_
  refine E_then ?_
  refine C_seq ?_
  refine C_seq ?_
  refine C_region ?_
  refine W_move rfl rfl rfl ?_
  refine W_move rfl rfl rfl ?_
  refine W_end ?_
  refine E_then ?_
  refine C_block ?_
  obtain ⟨hq460, hm⟩ := need_some hm
  refine C_keep (L' := [(1, v2), (2, .int .i64 (p2_i)), (3, .pointer (some ⟨b101, 0, none⟩)), (7, .int .i64 (IntKind.i64.wrap (y102 + y106.Long))), (8, .pointer (some (Value.base v112))), (25, .int .i64 (p2_i)), (26, .int .i64 (((0 : Nat) : Int)))]) ⟨rfl, rfl, rfl, rfl, rfl, rfl, rfl, trivial⟩ (List.Perm.refl _) ?_
  refine C_loop (fun n H' M' L' => ∃ (k115 : Nat) (zs462' : Nat), ∃ l451 : List Int, ∃ xs450 : List Value, k115 + zs462' = (p2_i : Int).toNat ∧ zs462' = n ∧ forN (fun k s456 n => m_upkeep_wrong_b5 p0_t p1_l p2_i y102 y106 k s456 n) (fun s456 => idx p1_l p2_i fun y628 => loopF (fun s657 n => m_upkeep_wrong_b8 p0_t y102 y106 s456 s657 n) FUEL y628) zs462' k115 l451 = some r ∧ Rw H' v112 xs450 l451 ∧ l451.length = 120 ∧ H110.le H' ∧ .row v112 81 (Rep.sz Int) l451.length xs450 :: .obj b101 (.cells [v0, v1, .int .i64 (p0_t.Crews)].toArray 25 (0, 0)) :: M = M' ∧ [(1, v2), (2, .int .i64 (p2_i)), (3, .pointer (some ⟨b101, 0, none⟩)), (7, .int .i64 (IntKind.i64.wrap (y102 + y106.Long))), (8, .pointer (some (Value.base v112))), (25, .int .i64 (p2_i)), (26, .int .i64 ((k115 : Int)))] = L') _ ⟨0, _, (List.replicate 120 (0 : Int)), ((List.replicate 120 (0 : Int)).map (Value.int .i64)), Nat.zero_add _, rfl, hm, hr113, hl114, (Hp.le_refl _), rfl, rfl⟩ ?_
  rintro _ H454 _ _ ⟨k115, zs462', l451, xs450, hd464, rfl, hm, hr452, hl453, hle455, rfl, rfl⟩
  refine C_seq ?_
  refine C_region ?_
  refine W_bin rfl rfl rfl rfl rfl ?_
  refine W_end (E_then ?_)
  refine C_seq ?_
  refine C_cond (b := decide ((k115 : Int) < p2_i)) rfl (fun hb466 => ?_) (fun hb466 => ?_)
  · obtain ⟨zs462, rfl, hd465, hy463⟩ := rngN_t hd464 hb466
    have hm : m_upkeep_wrong_b5 p0_t p1_l p2_i y102 y106 k115 l451 (forN (fun k s456 n => m_upkeep_wrong_b5 p0_t p1_l p2_i y102 y106 k s456 n) (fun s456 => idx p1_l p2_i fun y628 => loopF (fun s657 n => m_upkeep_wrong_b8 p0_t y102 y106 s456 s657 n) FUEL y628) zs462 (k115 + 1)) = some r := hm
    generalize hn458 : forN (fun k s456 n => m_upkeep_wrong_b5 p0_t p1_l p2_i y102 y106 k s456 n) (fun s456 => idx p1_l p2_i fun y628 => loopF (fun s657 n => m_upkeep_wrong_b8 p0_t y102 y106 s456 s657 n) FUEL y628) zs462 (k115 + 1) = nx457 at hm
    unfold m_upkeep_wrong_b5 at hm
    refine C_skip (E_then ?_)
    refine C_seq ?_
    refine C_block ?_
    refine C_seq ?_
    refine C_region ?_
    refine W_move rfl rfl rfl ?_
    refine W_assign rfl rfl rfl ?_
    refine W_end ?_
    refine E_then ?_
    refine C_seq ?_
    obtain ⟨y467, h468, he469, hm⟩ := idx_some hm
    obtain ⟨_, rfl, hc470⟩ := (h2).elem he469
    obtain ⟨y471, h472, he473, hm⟩ := idx_some hm
    obtain ⟨_, rfl, hc474⟩ := (h2).elem he473
    obtain ⟨y475, h476, he477, hm⟩ := idx_some hm
    obtain ⟨_, rfl, hc478⟩ := (h2).elem he477
    obtain ⟨y479, h480, he481, hm⟩ := idx_some hm
    obtain ⟨_, ⟨rfl⟩, hc482⟩ := (h0).elem he481
    refine C_region_tok0 23 (phiT [(fun H rs v => [] = rs ∧ v2 = v), (fun H rs v => [] = rs ∧ .int .i64 ((k115 : Int)) = v), (fun H rs v => [] = rs ∧ .pointer (some ((Value.base (v2)).add (((k115 : Int) : Int).toNat * 1))) = v), (fun H rs v => [] = rs ∧ .int .i64 (y467) = v), (fun H rs v => [] = rs ∧ v2 = v), (fun H rs v => [] = rs ∧ .int .i64 (p2_i) = v), (fun H rs v => [] = rs ∧ .pointer (some ((Value.base (v2)).add ((p2_i : Int).toNat * 1))) = v), (fun H rs v => [] = rs ∧ .int .i64 (y471) = v), (fun H rs v => [] = rs ∧ .int .i64 (max y467 y471) = v), (fun H rs v => [] = rs ∧ v2 = v), (fun H rs v => [] = rs ∧ .int .i64 ((k115 : Int)) = v), (fun H rs v => [] = rs ∧ .pointer (some ((Value.base (v2)).add (((k115 : Int) : Int).toNat * 1))) = v), (fun H rs v => [] = rs ∧ .int .i64 (y475) = v), (fun H rs v => [] = rs ∧ .pointer (some ⟨b101, 0, none⟩) = v), (fun H rs v => [] = rs ∧ v0 = v), (fun H rs v => [] = rs ∧ .int .i64 ((k115 : Int)) = v), (fun H rs v => [] = rs ∧ .pointer (some ((Value.base (v0)).add (((k115 : Int) : Int).toNat * 5))) = v), (fun H rs v => [] = rs ∧ .pointer (some (((Value.base (v0)).add (((k115 : Int) : Int).toNat * 5)).add 1)) = v), (fun H rs v => [] = rs ∧ .int .i64 (y479.Long) = v), (fun H rs v => [] = rs ∧ .int .i64 (IntKind.i64.wrap (y475 + y479.Long)) = v), (fun H rs v => [] = rs ∧ .int .i64 (IntKind.i64.wrap (y102 + y106.Long)) = v), (fun H rs v => [] = rs ∧ .int .i64 (min (IntKind.i64.wrap (y475 + y479.Long)) (IntKind.i64.wrap (y102 + y106.Long))) = v), (fun H rs v => [] = rs ∧ .int .i64 (max y467 y471) = v)]) [[], [], [], [], [], [], [], [], [], [], [], [], [], [], [], [], [], [], [], [], [], [], []] [[], [], [], [], [], [], [], [], [], [], [], [], [], [], [], [], [], [], [], [], [], [], []] [] [0, 1, 2, 3, 4, 5, 6, 7, 8, 9, 10, 11, 12, 13, 14, 15, 16, 17, 18, 19, 20, 21, 22] Facts.mixed (by kernel_rfl) rfl rfl rfl (by kernel_rfl) (phiT_mono ⟨eq_monoT _ _, eq_monoT _ _, eq_monoT _ _, eq_monoT _ _, eq_monoT _ _, eq_monoT _ _, eq_monoT _ _, eq_monoT _ _, eq_monoT _ _, eq_monoT _ _, eq_monoT _ _, eq_monoT _ _, eq_monoT _ _, eq_monoT _ _, eq_monoT _ _, eq_monoT _ _, eq_monoT _ _, eq_monoT _ _, eq_monoT _ _, eq_monoT _ _, eq_monoT _ _, eq_monoT _ _, eq_monoT _ _, trivial⟩) ⟨?_, ?_, ?_, ?_, ?_, ?_, ?_, ?_, ?_, ?_, ?_, ?_, ?_, ?_, ?_, ?_, ?_, ?_, ?_, ?_, ?_, ?_, ?_, trivial⟩ ?_
    · intro HX hX X Rest hR
      intro hU
      refine W_move rfl rfl rfl ?_
      exact W_end (OneT_end [] (Hp.le_refl _) ⟨rfl, rfl⟩)
    · intro HX hX X Rest hR
      intro hU
      refine W_move rfl rfl rfl ?_
      exact W_end (OneT_end [] (Hp.le_refl _) ⟨rfl, rfl⟩)
    · intro HX hX X Rest hR
      rintro _ _ ⟨rfl, rfl⟩
      rintro _ _ ⟨rfl, rfl⟩
      intro hU
      refine W_indexS rfl rfl Proofs.Try.runUnderlying27 Proofs.Try.sizeOf3 rfl (((h2.mono hle111).mono hle455).mono hX) rfl h468 he469 ?_
      exact W_end (OneT_end [] (Hp.le_refl _) ⟨rfl, rfl⟩)
    · intro HX hX X Rest hR
      rintro _ _ ⟨rfl, rfl⟩
      intro hU
      refine W_load rfl rfl Proofs.Try.isAgg3 rfl (HCells.one (((hc470.mono hle111).mono hle455).mono hX) 0 rfl).at ?_
      exact W_end (OneT_end [] (Hp.le_refl _) ⟨rfl, rfl⟩)
    · intro HX hX X Rest hR
      intro hU
      refine W_move rfl rfl rfl ?_
      exact W_end (OneT_end [] (Hp.le_refl _) ⟨rfl, rfl⟩)
    · intro HX hX X Rest hR
      intro hU
      refine W_move rfl rfl rfl ?_
      exact W_end (OneT_end [] (Hp.le_refl _) ⟨rfl, rfl⟩)
    · intro HX hX X Rest hR
      rintro _ _ ⟨rfl, rfl⟩
      rintro _ _ ⟨rfl, rfl⟩
      intro hU
      refine W_indexS rfl rfl Proofs.Try.runUnderlying27 Proofs.Try.sizeOf3 rfl (((h2.mono hle111).mono hle455).mono hX) rfl h472 he473 ?_
      exact W_end (OneT_end [] (Hp.le_refl _) ⟨rfl, rfl⟩)
    · intro HX hX X Rest hR
      rintro _ _ ⟨rfl, rfl⟩
      intro hU
      refine W_load rfl rfl Proofs.Try.isAgg3 rfl (HCells.one (((hc474.mono hle111).mono hle455).mono hX) 0 rfl).at ?_
      exact W_end (OneT_end [] (Hp.le_refl _) ⟨rfl, rfl⟩)
    · intro HX hX X Rest hR
      rintro _ _ ⟨rfl, rfl⟩
      rintro _ _ ⟨rfl, rfl⟩
      intro hU
      refine W_max rfl rfl rfl rfl ?_
      exact W_end (OneT_end [] (Hp.le_refl _) ⟨rfl, rfl⟩)
    · intro HX hX X Rest hR
      intro hU
      refine W_move rfl rfl rfl ?_
      exact W_end (OneT_end [] (Hp.le_refl _) ⟨rfl, rfl⟩)
    · intro HX hX X Rest hR
      intro hU
      refine W_move rfl rfl rfl ?_
      exact W_end (OneT_end [] (Hp.le_refl _) ⟨rfl, rfl⟩)
    · intro HX hX X Rest hR
      rintro _ _ ⟨rfl, rfl⟩
      rintro _ _ ⟨rfl, rfl⟩
      intro hU
      refine W_indexS rfl rfl Proofs.Try.runUnderlying27 Proofs.Try.sizeOf3 rfl (((h2.mono hle111).mono hle455).mono hX) rfl h476 he477 ?_
      exact W_end (OneT_end [] (Hp.le_refl _) ⟨rfl, rfl⟩)
    · intro HX hX X Rest hR
      rintro _ _ ⟨rfl, rfl⟩
      intro hU
      refine W_load rfl rfl Proofs.Try.isAgg3 rfl (HCells.one (((hc478.mono hle111).mono hle455).mono hX) 0 rfl).at ?_
      exact W_end (OneT_end [] (Hp.le_refl _) ⟨rfl, rfl⟩)
    · intro HX hX X Rest hR
      intro hU
      refine W_field (o := 0) rfl rfl Proofs.Try.runUnderlying25 rfl Proofs.Try.sizeOf22 rfl rfl rfl ?_
      exact W_end (OneT_end [] (Hp.le_refl _) ⟨rfl, rfl⟩)
    · intro HX hX X Rest hR
      rintro _ _ ⟨rfl, rfl⟩
      intro hU
      refine W_load rfl rfl Proofs.Try.isAgg22 rfl (own_at (hR _ (List.mem_cons_of_mem _ (List.mem_cons_self ..))) rfl) ?_
      exact W_end (OneT_end [] (Hp.le_refl _) ⟨rfl, rfl⟩)
    · intro HX hX X Rest hR
      intro hU
      refine W_move rfl rfl rfl ?_
      exact W_end (OneT_end [] (Hp.le_refl _) ⟨rfl, rfl⟩)
    · intro HX hX X Rest hR
      rintro _ _ ⟨rfl, rfl⟩
      rintro _ _ ⟨rfl, rfl⟩
      intro hU
      refine W_indexS rfl rfl Proofs.Try.runUnderlying22 Proofs.Try.sizeOf51 rfl (((h0.mono hle111).mono hle455).mono hX) rfl h480 he481 ?_
      exact W_end (OneT_end [] (Hp.le_refl _) ⟨rfl, rfl⟩)
    · intro HX hX X Rest hR
      rintro _ _ ⟨rfl, rfl⟩
      intro hU
      refine W_field (o := 1) rfl rfl Proofs.Try.runUnderlying51 rfl Proofs.Try.sizeOf3 rfl rfl rfl ?_
      exact W_end (OneT_end [] (Hp.le_refl _) ⟨rfl, rfl⟩)
    · intro HX hX X Rest hR
      rintro _ _ ⟨rfl, rfl⟩
      intro hU
      refine W_load rfl rfl Proofs.Try.isAgg3 rfl (HCells.one (((hc482.mono hle111).mono hle455).mono hX) 1 rfl).at ?_
      exact W_end (OneT_end [] (Hp.le_refl _) ⟨rfl, rfl⟩)
    · intro HX hX X Rest hR
      rintro _ _ ⟨rfl, rfl⟩
      rintro _ _ ⟨rfl, rfl⟩
      intro hU
      refine W_bin rfl rfl rfl rfl rfl ?_
      exact W_end (OneT_end [] (Hp.le_refl _) ⟨rfl, rfl⟩)
    · intro HX hX X Rest hR
      intro hU
      refine W_move rfl rfl rfl ?_
      exact W_end (OneT_end [] (Hp.le_refl _) ⟨rfl, rfl⟩)
    · intro HX hX X Rest hR
      rintro _ _ ⟨rfl, rfl⟩
      rintro _ _ ⟨rfl, rfl⟩
      intro hU
      refine W_min rfl rfl rfl rfl ?_
      exact W_end (OneT_end [] (Hp.le_refl _) ⟨rfl, rfl⟩)
    · intro HX hX X Rest hR
      rintro _ _ ⟨rfl, rfl⟩
      rintro _ _ ⟨rfl, rfl⟩
      rintro _ _ ⟨rfl, rfl⟩
      rintro _ _ ⟨rfl, rfl⟩
      rintro _ _ ⟨rfl, rfl⟩
      rintro _ _ ⟨rfl, rfl⟩
      rintro _ _ ⟨rfl, rfl⟩
      rintro _ _ ⟨rfl, rfl⟩
      rintro _ _ ⟨rfl, rfl⟩
      rintro _ _ ⟨rfl, rfl⟩
      intro hU
      refine W_assign rfl rfl rfl ?_
      exact W_end (OneT_end [] (Hp.le_refl _) ⟨rfl, rfl⟩)
    intro H483 hle484
    rintro _ _ ⟨rfl, rfl⟩
    rintro _ _ ⟨rfl, rfl⟩
    rintro _ _ ⟨rfl, rfl⟩
    rintro _ _ ⟨rfl, rfl⟩
    rintro _ _ ⟨rfl, rfl⟩
    rintro _ _ ⟨rfl, rfl⟩
    rintro _ _ ⟨rfl, rfl⟩
    rintro _ _ ⟨rfl, rfl⟩
    rintro _ _ ⟨rfl, rfl⟩
    rintro _ _ ⟨rfl, rfl⟩
    rintro _ _ ⟨rfl, rfl⟩
    rintro _ _ ⟨rfl, rfl⟩
    rintro _ _ ⟨rfl, rfl⟩
    rintro _ _ ⟨rfl, rfl⟩
    rintro _ _ ⟨rfl, rfl⟩
    rintro _ _ ⟨rfl, rfl⟩
    rintro _ _ ⟨rfl, rfl⟩
    rintro _ _ ⟨rfl, rfl⟩
    rintro _ _ ⟨rfl, rfl⟩
    rintro _ _ ⟨rfl, rfl⟩
    rintro _ _ ⟨rfl, rfl⟩
    rintro _ _ ⟨rfl, rfl⟩
    rintro _ _ ⟨rfl, rfl⟩
    refine W_assign rfl rfl rfl ?_
    refine W_end ?_
    refine E_then ?_
    refine C_seq ?_
    refine C_seq ?_
    refine C_region ?_
    refine W_move rfl rfl rfl ?_
    refine W_move rfl rfl rfl ?_
    refine W_bin rfl rfl rfl rfl rfl ?_
    refine W_move rfl rfl rfl ?_
    cases hb485 : (decide ((max y467 y471) < (min (IntKind.i64.wrap (y475 + y479.Long)) (IntKind.i64.wrap (y102 + y106.Long)))))
    · have hm := ite_f' hb485 hm
      refine W_no rfl rfl rfl ?_
      refine W_no rfl rfl rfl ?_
      refine W_no rfl rfl rfl ?_
      refine W_no rfl rfl rfl ?_
      refine W_no rfl rfl rfl ?_
      refine W_no rfl rfl rfl ?_
      refine W_no rfl rfl rfl ?_
      refine W_no rfl rfl rfl ?_
      refine W_no rfl rfl rfl ?_
      refine W_no rfl rfl rfl ?_
      refine W_no rfl rfl rfl ?_
      refine W_no rfl rfl rfl ?_
      refine W_no rfl rfl rfl ?_
      refine W_no rfl rfl rfl ?_
      refine W_pick rfl rfl rfl rfl ?_
      refine W_end ?_
      refine E_then ?_
      refine C_cond (b := false) rfl (fun hb => Bool.noConfusion hb) (fun _ => ?_)
      refine C_skip ?_
      refine E_then ?_
      refine C_seq ?_
      refine C_region ?_
      refine W_move rfl rfl rfl ?_
      refine W_assign rfl rfl rfl ?_
      refine W_end ?_
      refine E_then ?_
      refine C_block ?_
      refine C_keep (L' := [(1, v2), (2, .int .i64 (p2_i)), (3, .pointer (some ⟨b101, 0, none⟩)), (7, .int .i64 (IntKind.i64.wrap (y102 + y106.Long))), (8, .pointer (some (Value.base v112))), (11, .int .i64 (min (IntKind.i64.wrap (y475 + y479.Long)) (IntKind.i64.wrap (y102 + y106.Long)))), (12, .int .i64 (max y467 y471)), (25, .int .i64 (p2_i)), (26, .int .i64 ((k115 : Int)))]) ⟨rfl, rfl, rfl, rfl, rfl, rfl, rfl, rfl, rfl, trivial⟩ (List.Perm.refl _) ?_
      refine C_loop (fun n H' M' L' => ∃ n524 : Int, ∃ l526 : List Int, ∃ xs525 : List Value, loopF (fun s531 n => m_upkeep_wrong_b6 y102 y106 nx457 y475 y479 s531.1 s531.2 n) n (n524, l526) = some r ∧ Rw H' v112 xs525 l526 ∧ l526.length = 120 ∧ H483.le H' ∧ .row v112 81 (Rep.sz Int) l526.length xs525 :: .obj b101 (.cells [v0, v1, .int .i64 (p0_t.Crews)].toArray 25 (0, 0)) :: M = M' ∧ [(1, v2), (2, .int .i64 (p2_i)), (3, .pointer (some ⟨b101, 0, none⟩)), (7, .int .i64 (IntKind.i64.wrap (y102 + y106.Long))), (8, .pointer (some (Value.base v112))), (11, .int .i64 (min (IntKind.i64.wrap (y475 + y479.Long)) (IntKind.i64.wrap (y102 + y106.Long)))), (12, .int .i64 (n524)), (25, .int .i64 (p2_i)), (26, .int .i64 ((k115 : Int)))] = L') FUEL ⟨max y467 y471, l451, xs450, hm, (hr452.mono hle484), hl453, (Hp.le_refl _), rfl, rfl⟩ ?_
      rintro n534 H529 _ _ ⟨n524, l526, xs525, hm, hr527, hl528, hle530, rfl, rfl⟩
      cases n534 with
      | zero => cases hm
      | succ n534 =>
        have hm : m_upkeep_wrong_b6 y102 y106 nx457 y475 y479 n524 l526 (loopF (fun s531 n => m_upkeep_wrong_b6 y102 y106 nx457 y475 y479 s531.1 s531.2 n) n534) = some r := hm
        generalize hn533 : loopF (fun s531 n => m_upkeep_wrong_b6 y102 y106 nx457 y475 y479 s531.1 s531.2 n) n534 = nx532 at hm
        unfold m_upkeep_wrong_b6 at hm
        refine C_seq ?_
        refine C_seq ?_
        refine C_region ?_
        refine W_move rfl rfl rfl ?_
        refine W_move rfl rfl rfl ?_
        refine W_bin rfl rfl rfl rfl rfl ?_
        refine W_end ?_
        refine E_then ?_
        refine C_cond (b := decide (n524 < (min (IntKind.i64.wrap (y475 + y479.Long)) (IntKind.i64.wrap (y102 + y106.Long))))) rfl (fun hb540 => ?_) (fun hb540 => ?_)
        · have hm := ite_t' hb540 hm
          refine C_skip ?_
          refine E_then ?_
          refine C_seq ?_
          refine C_block ?_
          refine C_region ?_
          refine W_move rfl rfl rfl ?_
          obtain ⟨y541, h542, he543, hm⟩ := idx_some hm
          refine W_indexArr (List.mem_cons_self ..) rfl rfl Proofs.Try.runUnderlying81 Proofs.Try.sizeOf3 hl528 rfl rfl h542 (List.getElem?_eq_some_iff.1 he543).1 ?_
          obtain ⟨_, rfl, hg544⟩ := (hr527).elem he543
          refine W_load rfl rfl Proofs.Try.isAgg3 rfl (row_one0 (List.mem_cons_self ..) hg544 rfl) ?_
          refine W_bin rfl rfl rfl rfl rfl ?_
          obtain ⟨y545, h546, he547, hm⟩ := idx_some hm
          refine W_indexArr (List.mem_cons_self ..) rfl rfl Proofs.Try.runUnderlying81 Proofs.Try.sizeOf3 hl528 rfl rfl h546 (List.getElem?_eq_some_iff.1 he547).1 ?_
          obtain ⟨_, rfl, hg548⟩ := (hr527).elem he547
          obtain ⟨hr549, he550, hg551⟩ := Rw.put (cs := [.int .i64 (IntKind.i64.wrap (y541 + 1))]) (o := 0) (c := [.int .i64 (y545)]) (out := [.int .i64 (IntKind.i64.wrap (y541 + 1))]) (e2 := (IntKind.i64.wrap (y541 + 1))) hr527 he547 rfl hg548 rfl rfl rfl
          refine W_storeO2 (i := (n524 : Int).toNat * Rep.sz Int + 0) (cs := [.int .i64 (IntKind.i64.wrap (y541 + 1))]) rfl Proofs.Try.sizeOf3 rfl (row_ad0 _ _) rfl rfl rfl (Rw.room hr527 he547 rfl) rfl (all_cons rfl all_nil) (n' := (l526.set ((n524 : Int).toNat) (IntKind.i64.wrap (y541 + 1))).length) List.length_set ?_
          generalize over xs525 ((n524 : Int).toNat * Rep.sz Int + 0) [.int .i64 (IntKind.i64.wrap (y541 + 1))] = xs552 at hr549 hg551 ⊢
          have hl553 : (l526.set ((n524 : Int).toNat) (IntKind.i64.wrap (y541 + 1))).length = 120 := by rw [List.length_set]; exact hl528
          refine W_end ?_
          refine E_normal_block ?_
          refine E_then ?_
          refine C_region ?_
          refine W_move rfl rfl rfl ?_
          refine W_bin rfl rfl rfl rfl rfl ?_
          refine W_assign rfl rfl rfl ?_
          refine W_end ?_
          exact E_keepJ (E_back (Nat.lt_succ_self _) ⟨IntKind.i64.wrap (n524 + 1), (l526.set ((n524 : Int).toNat) (IntKind.i64.wrap (y541 + 1))), xs552, (by rw [hn533]; exact hm), hr549, hl553, hle530, rfl, rfl⟩) (List.Perm.refl _) ⟨rfl, rfl, rfl, rfl, rfl, rfl, rfl, rfl, rfl, trivial⟩
        · have hm := ite_f' hb540 hm
          refine C_exit ?_
          refine E_exit_then ?_
          refine E_exit_then ?_
          refine E_exit_hit ?_
          refine E_normal_block ?_
          refine E_then ?_
          refine C_region ?_
          refine W_bin rfl rfl rfl rfl rfl ?_
          refine W_move rfl rfl rfl ?_
          refine W_end ?_
          exact E_keepJ (E_back (Nat.lt_succ_self _) ⟨k115 + 1, zs462, l526, xs525, hd465, rfl, (by rw [hn458]; exact hm), hr527, hl528, (Hp.le_trans (Hp.le_trans hle455 hle484) hle530), rfl, rfl⟩) (List.Perm.refl _) ⟨rfl, rfl, rfl, rfl, rfl, rfl, (congrArg (fun z => some (Value.int .i64 z)) (i64_succN hy463 (toNat_max hq460))), trivial⟩
    · have hm := ite_t' hb485 hm
      refine W_field (o := 1) rfl rfl Proofs.Try.runUnderlying25 rfl Proofs.Try.sizeOf23 rfl rfl rfl ?_
      refine W_load rfl rfl Proofs.Try.isAgg23 rfl (own_at (List.mem_cons_of_mem _ (List.mem_cons_self ..)) rfl) ?_
      refine W_move rfl rfl rfl ?_
      refine W_move rfl rfl rfl ?_
      refine W_buildArr (css := [[.int .i64 (p2_i)], [.int .i64 ((k115 : Int))]]) (zs := [.int .i64 (0), .int .i64 (0)]) (out := [.int .i64 (p2_i), .int .i64 ((k115 : Int))]) (places := [(0, 1), (1, 1)]) rfl rfl rfl ⟨rfl, rfl, trivial⟩ Proofs.Try.zeroValue59 rfl Proofs.Try.runUnderlying59 Proofs.Try.sizeOf3 rfl rfl ?_
      obtain ⟨r554, hc555, hm⟩ := bind_some hm
      refine W_call Proofs.Try.call41 rfl rfl rfl (fun w ht => by have h := m_slices_Contains_2_int_2_int_c (hm := hc555) (((h1.mono hle111).mono hle455).mono hle484) ht; exact h) ?_
      rintro _ _ _ ⟨rfl, rfl, rfl⟩
      refine W_move rfl rfl rfl ?_
      cases hb556 : (r554)
      · have hm := ite_f' hb556 hm
        refine W_field (o := 1) rfl rfl Proofs.Try.runUnderlying25 rfl Proofs.Try.sizeOf23 rfl rfl rfl ?_
        refine W_load rfl rfl Proofs.Try.isAgg23 rfl (own_at (List.mem_cons_of_mem _ (List.mem_cons_self ..)) rfl) ?_
        refine W_move rfl rfl rfl ?_
        refine W_move rfl rfl rfl ?_
        refine W_buildArr (css := [[.int .i64 ((k115 : Int))], [.int .i64 (p2_i)]]) (zs := [.int .i64 (0), .int .i64 (0)]) (out := [.int .i64 ((k115 : Int)), .int .i64 (p2_i)]) (places := [(0, 1), (1, 1)]) rfl rfl rfl ⟨rfl, rfl, trivial⟩ Proofs.Try.zeroValue59 rfl Proofs.Try.runUnderlying59 Proofs.Try.sizeOf3 rfl rfl ?_
        obtain ⟨r557, hc558, hm⟩ := bind_some hm
        refine W_call Proofs.Try.call41 rfl rfl rfl (fun w ht => by have h := m_slices_Contains_2_int_2_int_c (hm := hc558) (((h1.mono hle111).mono hle455).mono hle484) ht; exact h) ?_
        rintro _ _ _ ⟨rfl, rfl, rfl⟩
        refine W_pick rfl rfl rfl rfl ?_
        refine W_pick rfl rfl rfl rfl ?_
        refine W_end ?_
        refine E_then ?_
        refine C_cond (b := r557) rfl (fun hb559 => ?_) (fun hb559 => ?_)
        · have hm := ite_t' hb559 hm
          refine C_seq ?_
          refine C_region ?_
          refine W_assign rfl rfl rfl ?_
          refine W_end ?_
          refine E_then ?_
          refine C_ret ?_
          refine E_ret_then ?_
          refine E_ret_block ?_
          refine E_ret_then ?_
          refine E_ret_then ?_
          refine E_ret_block ?_
          refine E_ret_then ?_
          obtain rfl := Option.some.inj hm
          refine E_drop (List.Sublist.cons _ (List.Sublist.cons _ (List.Sublist.refl _))) ?_
          refine E_weak (Hp.le_trans (Hp.le_trans hle111 hle455) hle484) ?_
          exact end1 rfl rfl ⟨rfl, rfl, rfl⟩
        · have hm := ite_f' hb559 hm
          refine C_skip ?_
          refine E_then ?_
          refine C_seq ?_
          refine C_region ?_
          refine W_move rfl rfl rfl ?_
          refine W_assign rfl rfl rfl ?_
          refine W_end ?_
          refine E_then ?_
          refine C_block ?_
          refine C_keep (L' := [(1, v2), (2, .int .i64 (p2_i)), (3, .pointer (some ⟨b101, 0, none⟩)), (7, .int .i64 (IntKind.i64.wrap (y102 + y106.Long))), (8, .pointer (some (Value.base v112))), (11, .int .i64 (min (IntKind.i64.wrap (y475 + y479.Long)) (IntKind.i64.wrap (y102 + y106.Long)))), (12, .int .i64 (max y467 y471)), (25, .int .i64 (p2_i)), (26, .int .i64 ((k115 : Int)))]) ⟨rfl, rfl, rfl, rfl, rfl, rfl, rfl, rfl, rfl, trivial⟩ (List.Perm.refl _) ?_
          refine C_loop (fun n H' M' L' => ∃ n598 : Int, ∃ l600 : List Int, ∃ xs599 : List Value, loopF (fun s605 n => m_upkeep_wrong_b7 y102 y106 nx457 y475 y479 s605.1 s605.2 n) n (n598, l600) = some r ∧ Rw H' v112 xs599 l600 ∧ l600.length = 120 ∧ H483.le H' ∧ .row v112 81 (Rep.sz Int) l600.length xs599 :: .obj b101 (.cells [v0, v1, .int .i64 (p0_t.Crews)].toArray 25 (0, 0)) :: M = M' ∧ [(1, v2), (2, .int .i64 (p2_i)), (3, .pointer (some ⟨b101, 0, none⟩)), (7, .int .i64 (IntKind.i64.wrap (y102 + y106.Long))), (8, .pointer (some (Value.base v112))), (11, .int .i64 (min (IntKind.i64.wrap (y475 + y479.Long)) (IntKind.i64.wrap (y102 + y106.Long)))), (12, .int .i64 (n598)), (25, .int .i64 (p2_i)), (26, .int .i64 ((k115 : Int)))] = L') FUEL ⟨max y467 y471, l451, xs450, hm, (hr452.mono hle484), hl453, (Hp.le_refl _), rfl, rfl⟩ ?_
          rintro n608 H603 _ _ ⟨n598, l600, xs599, hm, hr601, hl602, hle604, rfl, rfl⟩
          cases n608 with
          | zero => cases hm
          | succ n608 =>
            have hm : m_upkeep_wrong_b7 y102 y106 nx457 y475 y479 n598 l600 (loopF (fun s605 n => m_upkeep_wrong_b7 y102 y106 nx457 y475 y479 s605.1 s605.2 n) n608) = some r := hm
            generalize hn607 : loopF (fun s605 n => m_upkeep_wrong_b7 y102 y106 nx457 y475 y479 s605.1 s605.2 n) n608 = nx606 at hm
            unfold m_upkeep_wrong_b7 at hm
            refine C_seq ?_
            refine C_seq ?_
            refine C_region ?_
            refine W_move rfl rfl rfl ?_
            refine W_move rfl rfl rfl ?_
            refine W_bin rfl rfl rfl rfl rfl ?_
            refine W_end ?_
            refine E_then ?_
            refine C_cond (b := decide (n598 < (min (IntKind.i64.wrap (y475 + y479.Long)) (IntKind.i64.wrap (y102 + y106.Long))))) rfl (fun hb614 => ?_) (fun hb614 => ?_)
            · have hm := ite_t' hb614 hm
              refine C_skip ?_
              refine E_then ?_
              refine C_seq ?_
              refine C_block ?_
              refine C_region ?_
              refine W_move rfl rfl rfl ?_
              obtain ⟨y615, h616, he617, hm⟩ := idx_some hm
              refine W_indexArr (List.mem_cons_self ..) rfl rfl Proofs.Try.runUnderlying81 Proofs.Try.sizeOf3 hl602 rfl rfl h616 (List.getElem?_eq_some_iff.1 he617).1 ?_
              obtain ⟨_, rfl, hg618⟩ := (hr601).elem he617
              refine W_load rfl rfl Proofs.Try.isAgg3 rfl (row_one0 (List.mem_cons_self ..) hg618 rfl) ?_
              refine W_bin rfl rfl rfl rfl rfl ?_
              obtain ⟨y619, h620, he621, hm⟩ := idx_some hm
              refine W_indexArr (List.mem_cons_self ..) rfl rfl Proofs.Try.runUnderlying81 Proofs.Try.sizeOf3 hl602 rfl rfl h620 (List.getElem?_eq_some_iff.1 he621).1 ?_
              obtain ⟨_, rfl, hg622⟩ := (hr601).elem he621
              obtain ⟨hr623, he624, hg625⟩ := Rw.put (cs := [.int .i64 (IntKind.i64.wrap (y615 + 1))]) (o := 0) (c := [.int .i64 (y619)]) (out := [.int .i64 (IntKind.i64.wrap (y615 + 1))]) (e2 := (IntKind.i64.wrap (y615 + 1))) hr601 he621 rfl hg622 rfl rfl rfl
              refine W_storeO2 (i := (n598 : Int).toNat * Rep.sz Int + 0) (cs := [.int .i64 (IntKind.i64.wrap (y615 + 1))]) rfl Proofs.Try.sizeOf3 rfl (row_ad0 _ _) rfl rfl rfl (Rw.room hr601 he621 rfl) rfl (all_cons rfl all_nil) (n' := (l600.set ((n598 : Int).toNat) (IntKind.i64.wrap (y615 + 1))).length) List.length_set ?_
              generalize over xs599 ((n598 : Int).toNat * Rep.sz Int + 0) [.int .i64 (IntKind.i64.wrap (y615 + 1))] = xs626 at hr623 hg625 ⊢
              have hl627 : (l600.set ((n598 : Int).toNat) (IntKind.i64.wrap (y615 + 1))).length = 120 := by rw [List.length_set]; exact hl602
              refine W_end ?_
              refine E_normal_block ?_
              refine E_then ?_
              refine C_region ?_
              refine W_move rfl rfl rfl ?_
              refine W_bin rfl rfl rfl rfl rfl ?_
              refine W_assign rfl rfl rfl ?_
              refine W_end ?_
              exact E_keepJ (E_back (Nat.lt_succ_self _) ⟨IntKind.i64.wrap (n598 + 1), (l600.set ((n598 : Int).toNat) (IntKind.i64.wrap (y615 + 1))), xs626, (by rw [hn607]; exact hm), hr623, hl627, hle604, rfl, rfl⟩) (List.Perm.refl _) ⟨rfl, rfl, rfl, rfl, rfl, rfl, rfl, rfl, rfl, trivial⟩
            · have hm := ite_f' hb614 hm
              refine C_exit ?_
              refine E_exit_then ?_
              refine E_exit_then ?_
              refine E_exit_hit ?_
              refine E_normal_block ?_
              refine E_then ?_
              refine C_region ?_
              refine W_bin rfl rfl rfl rfl rfl ?_
              refine W_move rfl rfl rfl ?_
              refine W_end ?_
              exact E_keepJ (E_back (Nat.lt_succ_self _) ⟨k115 + 1, zs462, l600, xs599, hd465, rfl, (by rw [hn458]; exact hm), hr601, hl602, (Hp.le_trans (Hp.le_trans hle455 hle484) hle604), rfl, rfl⟩) (List.Perm.refl _) ⟨rfl, rfl, rfl, rfl, rfl, rfl, (congrArg (fun z => some (Value.int .i64 z)) (i64_succN hy463 (toNat_max hq460))), trivial⟩
      · have hm := ite_t' hb556 hm
        refine W_no rfl rfl rfl ?_
        refine W_no rfl rfl rfl ?_
        refine W_no rfl rfl rfl ?_
        refine W_no rfl rfl rfl ?_
        refine W_no rfl rfl rfl ?_
        refine W_no rfl rfl rfl ?_
        refine W_pick rfl rfl rfl rfl ?_
        refine W_pick rfl rfl rfl rfl ?_
        refine W_end ?_
        refine E_then ?_
        refine C_cond (b := true) rfl (fun _ => ?_) (fun hb => Bool.noConfusion hb)
        refine C_seq ?_
        refine C_region ?_
        refine W_assign rfl rfl rfl ?_
        refine W_end ?_
        refine E_then ?_
        refine C_ret ?_
        refine E_ret_then ?_
        refine E_ret_block ?_
        refine E_ret_then ?_
        refine E_ret_then ?_
        refine E_ret_block ?_
        refine E_ret_then ?_
        obtain rfl := Option.some.inj hm
        refine E_drop (List.Sublist.cons _ (List.Sublist.cons _ (List.Sublist.refl _))) ?_
        refine E_weak (Hp.le_trans (Hp.le_trans hle111 hle455) hle484) ?_
        exact end1 rfl rfl ⟨rfl, rfl, rfl⟩
  · obtain rfl := rngN_f hd464 hb466
    have hm : (idx p1_l p2_i fun y628 => loopF (fun s657 n => m_upkeep_wrong_b8 p0_t y102 y106 l451 s657 n) FUEL y628) = some r := hm
    refine C_exit (E_exit_then ?_)
    refine E_exit_then ?_
    refine E_exit_hit ?_
    refine E_then ?_
    refine C_seq ?_
    refine C_seq ?_
    refine C_region ?_
    refine W_move rfl rfl rfl ?_
    refine W_move rfl rfl rfl ?_
    obtain ⟨y628, h629, he630, hm⟩ := idx_some hm
    obtain ⟨_, rfl, hc631⟩ := (h2).elem he630
    refine W_indexS rfl rfl Proofs.Try.runUnderlying27 Proofs.Try.sizeOf3 rfl ((h2.mono hle111).mono hle455) rfl h629 he630 ?_
    refine W_load rfl rfl Proofs.Try.isAgg3 rfl (HCells.one ((hc631.mono hle111).mono hle455) 0 rfl).at ?_
    refine W_assign rfl rfl rfl ?_
    refine W_end ?_
    refine E_then ?_
    refine C_block ?_
    refine C_keep (L' := [(3, .pointer (some ⟨b101, 0, none⟩)), (7, .int .i64 (IntKind.i64.wrap (y102 + y106.Long))), (8, .pointer (some (Value.base v112))), (13, .int .i64 (y628))]) ⟨rfl, rfl, rfl, rfl, trivial⟩ (List.Perm.refl _) ?_
    refine C_loop (fun n H' M' L' => ∃ n654 : Int, loopF (fun s657 n => m_upkeep_wrong_b8 p0_t y102 y106 l451 s657 n) n n654 = some r ∧ H454.le H' ∧ .row v112 81 (Rep.sz Int) l451.length xs450 :: .obj b101 (.cells [v0, v1, .int .i64 (p0_t.Crews)].toArray 25 (0, 0)) :: M = M' ∧ [(3, .pointer (some ⟨b101, 0, none⟩)), (7, .int .i64 (IntKind.i64.wrap (y102 + y106.Long))), (8, .pointer (some (Value.base v112))), (13, .int .i64 (n654))] = L') FUEL ⟨y628, hm, (Hp.le_refl _), rfl, rfl⟩ ?_
    rintro n660 H655 _ _ ⟨n654, hm, hle656, rfl, rfl⟩
    cases n660 with
    | zero => cases hm
    | succ n660 =>
      have hm : m_upkeep_wrong_b8 p0_t y102 y106 l451 n654 (loopF (fun s657 n => m_upkeep_wrong_b8 p0_t y102 y106 l451 s657 n) n660) = some r := hm
      generalize hn659 : loopF (fun s657 n => m_upkeep_wrong_b8 p0_t y102 y106 l451 s657 n) n660 = nx658 at hm
      unfold m_upkeep_wrong_b8 at hm
      refine C_seq ?_
      refine C_seq ?_
      refine C_region ?_
      refine W_move rfl rfl rfl ?_
      refine W_move rfl rfl rfl ?_
      refine W_bin rfl rfl rfl rfl rfl ?_
      refine W_end ?_
      refine E_then ?_
      refine C_cond (b := decide (n654 < (IntKind.i64.wrap (y102 + y106.Long)))) rfl (fun hb666 => ?_) (fun hb666 => ?_)
      · have hm := ite_t' hb666 hm
        refine C_skip ?_
        refine E_then ?_
        refine C_seq ?_
        refine C_block ?_
        refine C_seq ?_
        obtain ⟨y667, h668, he669, hm⟩ := idx_some hm
        obtain ⟨_, rfl, hg670⟩ := (hr452).elem he669
        refine C_region_tok0 6 (phiT [(fun H rs v => [] = rs ∧ .int .i64 (n654) = v), (fun H rs v => [] = rs ∧ .pointer (some ((Value.base (v112)).add ((n654 : Int).toNat * Rep.sz Int))) = v), (fun H rs v => [] = rs ∧ .int .i64 (y667) = v), (fun H rs v => [] = rs ∧ .int .i64 (IntKind.i64.wrap (y667 + 1)) = v), (fun H rs v => [] = rs ∧ .pointer (some ⟨b101, 2, none⟩) = v), (fun H rs v => [] = rs ∧ .int .i64 (p0_t.Crews) = v)]) [[], [], [], [], [], []] [[], [], [], [], [], []] [] [0, 1, 2, 3, 4, 5] Facts.mixed (by kernel_rfl) rfl rfl rfl (by kernel_rfl) (phiT_mono ⟨eq_monoT _ _, eq_monoT _ _, eq_monoT _ _, eq_monoT _ _, eq_monoT _ _, eq_monoT _ _, trivial⟩) ⟨?_, ?_, ?_, ?_, ?_, ?_, trivial⟩ ?_
        · intro HX hX X Rest hR
          intro hU
          refine W_move rfl rfl rfl ?_
          exact W_end (OneT_end [] (Hp.le_refl _) ⟨rfl, rfl⟩)
        · intro HX hX X Rest hR
          rintro _ _ ⟨rfl, rfl⟩
          intro hU
          refine W_indexArr (hR _ (List.mem_cons_self ..)) rfl rfl Proofs.Try.runUnderlying81 Proofs.Try.sizeOf3 hl453 rfl rfl h668 (List.getElem?_eq_some_iff.1 he669).1 ?_
          exact W_end (OneT_end [] (Hp.le_refl _) ⟨rfl, rfl⟩)
        · intro HX hX X Rest hR
          rintro _ _ ⟨rfl, rfl⟩
          intro hU
          refine W_load rfl rfl Proofs.Try.isAgg3 rfl (row_one0 (hR _ (List.mem_cons_self ..)) hg670 rfl) ?_
          exact W_end (OneT_end [] (Hp.le_refl _) ⟨rfl, rfl⟩)
        · intro HX hX X Rest hR
          rintro _ _ ⟨rfl, rfl⟩
          intro hU
          refine W_bin rfl rfl rfl rfl rfl ?_
          exact W_end (OneT_end [] (Hp.le_refl _) ⟨rfl, rfl⟩)
        · intro HX hX X Rest hR
          intro hU
          refine W_field (o := 2) rfl rfl Proofs.Try.runUnderlying25 rfl Proofs.Try.sizeOf3 rfl rfl rfl ?_
          exact W_end (OneT_end [] (Hp.le_refl _) ⟨rfl, rfl⟩)
        · intro HX hX X Rest hR
          rintro _ _ ⟨rfl, rfl⟩
          intro hU
          refine W_load rfl rfl Proofs.Try.isAgg3 rfl (own_at (hR _ (List.mem_cons_of_mem _ (List.mem_cons_self ..))) rfl) ?_
          exact W_end (OneT_end [] (Hp.le_refl _) ⟨rfl, rfl⟩)
        intro H671 hle672
        rintro _ _ ⟨rfl, rfl⟩
        rintro _ _ ⟨rfl, rfl⟩
        rintro _ _ ⟨rfl, rfl⟩
        rintro _ _ ⟨rfl, rfl⟩
        rintro _ _ ⟨rfl, rfl⟩
        rintro _ _ ⟨rfl, rfl⟩
        refine W_bin rfl rfl rfl rfl rfl ?_
        refine W_end ?_
        refine E_then ?_
        refine C_cond (b := decide (p0_t.Crews < (IntKind.i64.wrap (y667 + 1)))) rfl (fun hb673 => ?_) (fun hb673 => ?_)
        · have hm := ite_t' hb673 hm
          refine C_seq ?_
          refine C_region ?_
          refine W_assign rfl rfl rfl ?_
          refine W_end ?_
          refine E_then ?_
          refine C_ret ?_
          refine E_ret_block ?_
          refine E_ret_then ?_
          refine E_ret_then ?_
          refine E_ret_block ?_
          refine E_ret_then ?_
          obtain rfl := Option.some.inj hm
          refine E_drop (List.Sublist.cons _ (List.Sublist.cons _ (List.Sublist.refl _))) ?_
          refine E_weak (Hp.le_trans (Hp.le_trans (Hp.le_trans hle111 hle455) hle656) hle672) ?_
          exact end1 rfl rfl ⟨rfl, rfl, rfl⟩
        · have hm := ite_f' hb673 hm
          refine C_skip ?_
          refine E_normal_block ?_
          refine E_then ?_
          refine C_region ?_
          refine W_move rfl rfl rfl ?_
          refine W_bin rfl rfl rfl rfl rfl ?_
          refine W_assign rfl rfl rfl ?_
          refine W_end ?_
          exact E_keepJ (E_back (Nat.lt_succ_self _) ⟨IntKind.i64.wrap (n654 + 1), (by rw [hn659]; exact hm), (Hp.le_trans hle656 hle672), rfl, rfl⟩) (List.Perm.refl _) ⟨rfl, rfl, rfl, rfl, trivial⟩
      · have hm := ite_f' hb666 hm
        refine C_exit ?_
        refine E_exit_then ?_
        refine E_exit_then ?_
        refine E_exit_hit ?_
        refine E_then ?_
        refine C_seq ?_
        refine C_region ?_
        refine W_assign rfl rfl rfl ?_
        refine W_end ?_
        refine E_then ?_
        refine C_ret ?_
        obtain rfl := Option.some.inj hm
        refine E_drop (List.Sublist.cons _ (List.Sublist.cons _ (List.Sublist.refl _))) ?_
        refine E_weak (Hp.le_trans (Hp.le_trans hle111 hle455) hle656) ?_
        exact end1 rfl rfl ⟨rfl, rfl, rfl⟩

theorem m_upkeep_search_try_step_c {self : S_upkeep_search → (List Int) → Int → Option (S_upkeep_search)} (ih : ∀ {B : Nat} {w0 w : World} {H : Hp} {M : List Res} {p0_s : S_upkeep_search} {p1_l : (List Int)} {cost : Int} {b0 : Nat} {v0 : Value} {v1 : Value} {v2 : Value} {v3 : Value} {r : S_upkeep_search} (hm : self p0_s p1_l cost = some r) (h0 : RdS H v0 p0_s.t.Jobs) (h1 : RdS H v1 p0_s.t.Apart) (h2 : RdS H v2 p0_s.best) (hne0 : NilE v2 p0_s.best) (h3 : RdS H v3 p1_l) (ht : St B w0 H (.obj b0 (.cells [v0, v1, .int .i64 (p0_s.t.Crews), v2, .int .i64 (p0_s.cost)].toArray 57 (0, 0)) :: M) w),
    Calls Proofs.Try.prog 21 [.pointer (some ⟨b0, 0, none⟩), v3, .int .i64 (cost)].toArray w (Ret B w0 fun H' M' v => H.le H' ∧ ∃ qv0 : Value, ∃ qv1 : Value, ∃ qv2 : Value, .obj b0 (.cells [qv0, qv1, .int .i64 (r.t.Crews), qv2, .int .i64 (r.cost)].toArray 57 (0, 0)) :: M = M' ∧ .tuple #[] = v ∧ RdS H' qv0 r.t.Jobs ∧ RdS H' qv1 r.t.Apart ∧ RdS H' qv2 r.best ∧ NilE qv2 r.best)) {B : Nat} {w0 w : World} {H : Hp} {M : List Res} {p0_s : S_upkeep_search} {p1_l : (List Int)} {cost : Int} {b0 : Nat} {v0 : Value} {v1 : Value} {v2 : Value} {v3 : Value} {r : S_upkeep_search} (hm : m_upkeep_search_try_step self p0_s p1_l cost = some r) (h0 : RdS H v0 p0_s.t.Jobs) (h1 : RdS H v1 p0_s.t.Apart) (h2 : RdS H v2 p0_s.best) (hne0 : NilE v2 p0_s.best) (h3 : RdS H v3 p1_l) (ht : St B w0 H (.obj b0 (.cells [v0, v1, .int .i64 (p0_s.t.Crews), v2, .int .i64 (p0_s.cost)].toArray 57 (0, 0)) :: M) w) :
    Calls Proofs.Try.prog 21 [.pointer (some ⟨b0, 0, none⟩), v3, .int .i64 (cost)].toArray w (Ret B w0 fun H' M' v => H.le H' ∧ ∃ qv0 : Value, ∃ qv1 : Value, ∃ qv2 : Value, .obj b0 (.cells [qv0, qv1, .int .i64 (r.t.Crews), qv2, .int .i64 (r.cost)].toArray 57 (0, 0)) :: M = M' ∧ .tuple #[] = v ∧ RdS H' qv0 r.t.Jobs ∧ RdS H' qv1 r.t.Apart ∧ RdS H' qv2 r.best ∧ NilE qv2 r.best) := by
  unfold m_upkeep_search_try_step at hm
  refine enter Proofs.Try.func21 rfl rfl rfl ht ?_
  refine C_seq ?_
  refine C_region ?_
  refine W_move rfl rfl rfl ?_
  refine W_lenR rfl rfl Proofs.Try.runUnderlying27 rfl h3 ?_
  refine W_assign rfl rfl rfl ?_
  refine W_end ?_
  refine E_then ?_
  refine C_seq ?_
  refine C_seq_join (fun H' M' L' => H = H' ∧ .obj b0 (.cells [v0, v1, .int .i64 (p0_s.t.Crews), v2, .int .i64 (p0_s.cost)].toArray 57 (0, 0)) :: M = M' ∧ [(0, .pointer (some ⟨b0, 0, none⟩)), (1, v3), (2, .int .i64 (cost)), (6, .int .i64 ((p1_l.length : Int))), (24, .bool ((!p0_s.best.isEmpty) && (decide (p0_s.cost ≤ cost))))] = L') ?_ (fun J102 => ?_)
  · rintro _ _ _ ⟨rfl, rfl, rfl⟩
    refine C_cond (b := (!p0_s.best.isEmpty) && (decide (p0_s.cost ≤ cost))) rfl (fun hb103 => ?_) (fun hb103 => ?_)
    · have hm := ite_t' hb103 hm
      refine C_ret ?_
      refine E_ret_then ?_
      obtain rfl := Option.some.inj hm
      exact end0 rfl ⟨(Hp.le_refl _), v0, v1, v2, rfl, rfl, h0, h1, h2, hne0⟩
    · have hm := ite_f' hb103 hm
      refine C_skip ?_
      refine E_then ?_
      refine C_seq ?_
      refine C_seq ?_
      refine C_region ?_
      refine W_move rfl rfl rfl ?_
      refine W_move rfl rfl rfl ?_
      refine W_nilCheck rfl rfl rfl ?_
      refine W_field (o := 0) rfl rfl Proofs.Try.runUnderlying57 rfl Proofs.Try.sizeOf25 rfl rfl rfl ?_
      refine W_field (o := 0) rfl rfl Proofs.Try.runUnderlying25 rfl Proofs.Try.sizeOf22 rfl rfl rfl ?_
      refine W_load rfl rfl Proofs.Try.isAgg22 rfl (own_at (List.mem_cons_self ..) rfl) ?_
      refine W_lenR rfl rfl Proofs.Try.runUnderlying22 rfl h0 ?_
      refine W_bin rfl rfl rfl rfl rfl ?_
      refine W_end ?_
      refine E_then ?_
      refine C_cond (b := decide ((p1_l.length : Int) = (p0_s.t.Jobs.length : Int))) rfl (fun hb104 => ?_) (fun hb104 => ?_)
      · have hm := ite_t' hb104 hm
        refine C_seq ?_
        refine C_region ?_
        refine W_move rfl rfl rfl ?_
        refine W_move rfl rfl rfl ?_
        refine W_move rfl rfl rfl ?_
        obtain ⟨hz105, hm⟩ := need_some hm
        refine W_call Proofs.Try.call36 rfl rfl rfl (fun w ht => by have h := clone36_c (s := p1_l) h3 hz105 ht; exact h) ?_
        rintro _ _ _ ⟨rfl, v106, xs107, rfl, rfl, hr108⟩
        have hr108 := hr108 H
        refine W_move rfl rfl rfl ?_
        refine W_nilCheck rfl rfl rfl ?_
        refine W_field (o := 3) rfl rfl Proofs.Try.runUnderlying57 rfl Proofs.Try.sizeOf27 rfl rfl rfl ?_
        refine W_freeze (hr108).rd rfl (fun H109 hle110 h111 => ?_)
        obtain ⟨hq112, hm⟩ := need_some hm
        have hne113 := NilE.ofS h111 hq112
        refine W_store (cs := [v106]) (out := [v0, v1, .int .i64 (p0_s.t.Crews), v106, .int .i64 (p0_s.cost)]) rfl Proofs.Try.sizeOf27 rfl rfl (RdS.cells h111) rfl rfl (all_cons (RdS.one1 h111) all_nil) rfl ?_
        refine W_nilCheck rfl rfl rfl ?_
        refine W_field (o := 4) rfl rfl Proofs.Try.runUnderlying57 rfl Proofs.Try.sizeOf3 rfl rfl rfl ?_
        refine W_store (cs := [.int .i64 (cost)]) (out := [v0, v1, .int .i64 (p0_s.t.Crews), v106, .int .i64 (cost)]) rfl Proofs.Try.sizeOf3 rfl rfl rfl rfl rfl (all_cons rfl all_nil) rfl ?_
        refine W_end ?_
        refine E_then ?_
        refine C_ret ?_
        refine E_ret_then ?_
        obtain rfl := Option.some.inj hm
        exact end0 rfl ⟨hle110, v0, v1, v106, rfl, rfl, (h0.mono hle110), (h1.mono hle110), h111, hne113⟩
      · have hm := ite_f' hb104 hm
        refine C_skip ?_
        refine E_then ?_
        refine C_seq ?_
        refine C_region ?_
        refine W_move rfl rfl rfl ?_
        refine W_nilCheck rfl rfl rfl ?_
        refine W_field (o := 0) rfl rfl Proofs.Try.runUnderlying57 rfl Proofs.Try.sizeOf25 rfl rfl rfl ?_
        refine W_field (o := 0) rfl rfl Proofs.Try.runUnderlying25 rfl Proofs.Try.sizeOf22 rfl rfl rfl ?_
        refine W_load rfl rfl Proofs.Try.isAgg22 rfl (own_at (List.mem_cons_self ..) rfl) ?_
        refine W_move rfl rfl rfl ?_
        obtain ⟨y114, h115, he116, hm⟩ := idx_some hm
        obtain ⟨_, ⟨rfl⟩, hc117⟩ := (h0).elem he116
        refine W_indexS rfl rfl Proofs.Try.runUnderlying22 Proofs.Try.sizeOf51 rfl h0 rfl h115 he116 ?_
        refine W_loadAgg rfl rfl Proofs.Try.isAgg51 Proofs.Try.sizeOf51 rfl hc117.at rfl ?_
        refine W_alloc (cs := [.string (⟨#[]⟩), .int .i64 (0), .int .i64 (0), .int .i64 (0), .int .i64 (0)]) rfl rfl Proofs.Try.zeroValue51 rfl (fun b118 => ?_)
        refine W_store (cs := [.string (y114.Name), .int .i64 (y114.Long), .int .i64 (y114.First), .int .i64 (y114.Last), .int .i64 (y114.Weight)]) (out := [.string (y114.Name), .int .i64 (y114.Long), .int .i64 (y114.First), .int .i64 (y114.Last), .int .i64 (y114.Weight)]) rfl Proofs.Try.sizeOf51 rfl rfl rfl rfl rfl (all_cons rfl (all_cons rfl (all_cons rfl (all_cons rfl (all_cons rfl all_nil))))) (over_all rfl) ?_
        refine W_end ?_
        refine E_then ?_
        refine C_seq ?_
        refine C_region ?_
        refine W_field (o := 2) rfl rfl Proofs.Try.runUnderlying51 rfl Proofs.Try.sizeOf3 rfl rfl rfl ?_
        refine W_load rfl rfl Proofs.Try.isAgg3 rfl (own_at (List.mem_cons_self ..) rfl) ?_
        refine W_assign rfl rfl rfl ?_
        refine W_end ?_
        refine E_then ?_
        refine C_block ?_
        refine C_keep (L' := [(0, .pointer (some ⟨b0, 0, none⟩)), (1, v3), (2, .int .i64 (cost)), (6, .int .i64 ((p1_l.length : Int))), (7, .pointer (some ⟨b118, 0, none⟩)), (8, .int .i64 (y114.First))]) ⟨rfl, rfl, rfl, rfl, rfl, rfl, trivial⟩ (List.Perm.refl _) ?_
        refine C_loop (fun n H' M' L' => ∃ n317 : Int, ∃ l319 : (List S_api_UpkeepJob), ∃ l322 : (List S_A2_Int), ∃ n324 : Int, ∃ l326 : (List Int), ∃ n329 : Int, ∃ v318 : Value, ∃ v321 : Value, ∃ v325 : Value, loopF (fun s332 n => m_upkeep_search_try_b3 self p1_l cost y114 s332.1 s332.2.1 s332.2.2.1 s332.2.2.2.1 s332.2.2.2.2.1 s332.2.2.2.2.2 n) n (n317, l319, l322, n324, l326, n329) = some r ∧ RdS H' v318 l319 ∧ RdS H' v321 l322 ∧ RdS H' v325 l326 ∧ NilE v325 l326 ∧ H.le H' ∧ .obj b118 (.cells [.string (y114.Name), .int .i64 (y114.Long), .int .i64 (y114.First), .int .i64 (y114.Last), .int .i64 (y114.Weight)].toArray 51 (0, 0)) :: .obj b0 (.cells [v318, v321, .int .i64 (n324), v325, .int .i64 (n329)].toArray 57 (0, 0)) :: M = M' ∧ [(0, .pointer (some ⟨b0, 0, none⟩)), (1, v3), (2, .int .i64 (cost)), (6, .int .i64 ((p1_l.length : Int))), (7, .pointer (some ⟨b118, 0, none⟩)), (8, .int .i64 (n317))] = L') FUEL ⟨y114.First, p0_s.t.Jobs, p0_s.t.Apart, p0_s.t.Crews, p0_s.best, p0_s.cost, v0, v1, v2, hm, h0, h1, h2, hne0, (Hp.le_refl _), rfl, rfl⟩ ?_
        rintro n335 H330 _ _ ⟨n317, l319, l322, n324, l326, n329, v318, v321, v325, hm, h320, h323, h327, hne328, hle331, rfl, rfl⟩
        cases n335 with
        | zero => cases hm
        | succ n335 =>
          have hm : m_upkeep_search_try_b3 self p1_l cost y114 n317 l319 l322 n324 l326 n329 (loopF (fun s332 n => m_upkeep_search_try_b3 self p1_l cost y114 s332.1 s332.2.1 s332.2.2.1 s332.2.2.2.1 s332.2.2.2.2.1 s332.2.2.2.2.2 n) n335) = some r := hm
          generalize hn334 : loopF (fun s332 n => m_upkeep_search_try_b3 self p1_l cost y114 s332.1 s332.2.1 s332.2.2.1 s332.2.2.2.1 s332.2.2.2.2.1 s332.2.2.2.2.2 n) n335 = nx333 at hm
          unfold m_upkeep_search_try_b3 at hm
          refine C_seq ?_
          refine C_seq ?_
          refine C_region ?_
          refine W_move rfl rfl rfl ?_
          refine W_field (o := 3) rfl rfl Proofs.Try.runUnderlying51 rfl Proofs.Try.sizeOf3 rfl rfl rfl ?_
          refine W_load rfl rfl Proofs.Try.isAgg3 rfl (own_at (List.mem_cons_self ..) rfl) ?_
          refine W_bin rfl rfl rfl rfl rfl ?_
          refine W_end ?_
          refine E_then ?_
          refine C_cond (b := decide (n317 ≤ y114.Last)) rfl (fun hb341 => ?_) (fun hb341 => ?_)
          · have hm := ite_t' hb341 hm
            refine C_skip ?_
            refine E_then ?_
            refine C_seq_join (fun H' M' L' => ∃ l377 : (List S_api_UpkeepJob), ∃ l380 : (List S_A2_Int), ∃ n382 : Int, ∃ l384 : (List Int), ∃ n387 : Int, ∃ v376 : Value, ∃ v379 : Value, ∃ v383 : Value, m_upkeep_search_try_b4 n317 nx333 l377 l380 n382 l384 n387 = some r ∧ RdS H' v376 l377 ∧ RdS H' v379 l380 ∧ RdS H' v383 l384 ∧ NilE v383 l384 ∧ H330.le H' ∧ .obj b118 (.cells [.string (y114.Name), .int .i64 (y114.Long), .int .i64 (y114.First), .int .i64 (y114.Last), .int .i64 (y114.Weight)].toArray 51 (0, 0)) :: .obj b0 (.cells [v376, v379, .int .i64 (n382), v383, .int .i64 (n387)].toArray 57 (0, 0)) :: M = M' ∧ [(0, .pointer (some ⟨b0, 0, none⟩)), (1, v3), (2, .int .i64 (cost)), (6, .int .i64 ((p1_l.length : Int))), (7, .pointer (some ⟨b118, 0, none⟩)), (8, .int .i64 (n317))] = L') ?_ (fun J390 => ?_)
            · rintro H388 _ _ ⟨l377, l380, n382, l384, n387, v376, v379, v383, hm, h378, h381, h385, hne386, hle389, rfl, rfl⟩
              unfold m_upkeep_search_try_b4 at hm
              refine C_region ?_
              refine W_move rfl rfl rfl ?_
              refine W_bin rfl rfl rfl rfl rfl ?_
              refine W_assign rfl rfl rfl ?_
              refine W_end ?_
              exact E_keepJ (E_back (Nat.lt_succ_self _) ⟨IntKind.i64.wrap (n317 + 1), l377, l380, n382, l384, n387, v376, v379, v383, (by rw [hn334]; exact hm), h378, h381, h385, hne386, (Hp.le_trans hle331 hle389), rfl, rfl⟩) (List.Perm.refl _) ⟨rfl, rfl, rfl, rfl, rfl, rfl, trivial⟩
            · refine C_block ?_
              refine C_seq ?_
              refine C_region ?_
              refine W_move rfl rfl rfl ?_
              refine W_move rfl rfl rfl ?_
              refine W_move rfl rfl rfl ?_
              obtain ⟨hz391, hm⟩ := need_some hm
              refine W_sliceR (α := Int) (l := 0) (h := ((p1_l.length : Int) : Int).toNat) (xs := p1_l) rfl rfl Proofs.Try.runUnderlying27 Proofs.Try.sizeOf3 rfl (h3.mono hle331) (by omega) (by omega) (.inr ⟨_, rfl⟩) (fun cap hcap => by rw [if_neg (by simp)]; exact (.inr ⟨_, _, _, rfl, rfl, by omega, by omega, rfl⟩)) (fun m hmm => (.inr ⟨_, _, _, rfl, rfl, by omega, by omega, rfl⟩)) (.inl ⟨rfl, rfl⟩) ?_
              intro v392 h393 hc394
              have hf395 : Value.cap' v392 = (slc p1_l 0 (((p1_l.length : Int) : Int).toNat)).length := ((hc394 (by simp)).trans (by simp only [slc_len]; omega))
              refine W_move rfl rfl rfl ?_
              refine W_buildSlice (α := Int) (css := [[.int .i64 (n317)]]) (zs := [.int .i64 (0)]) (out := [.int .i64 (n317)]) (ys := [n317]) rfl rfl rfl ⟨rfl, trivial⟩ Proofs.Try.runUnderlying27 Proofs.Try.sizeOf3 rfl Proofs.Try.zeroValue3 (by kernel_rfl) rfl rfl rfl rfl ⟨[.int .i64 (n317)], [], rfl, rfl, rfl⟩ rfl ?_
              intro b396 v397 H398 hv399 hle400 h401
              have hc402 : Value.cap' v397 = ([n317]).length := by rw [hv399]; rfl
              obtain ⟨hz403, hm⟩ := need_some hm
              refine W_appendF (α := Int) (l := slc p1_l 0 (((p1_l.length : Int) : Int).toNat)) (ys := [n317]) rfl rfl Proofs.Try.underlying27 ⟨_, rfl, rfl, rfl, rfl⟩ rfl rfl rfl rfl rfl (h393.mono hle400) hf395 h401 rfl hz403 ?_
              intro v404 xs405 hr406
              refine W_assign rfl rfl rfl ?_
              refine W_end ?_
              refine E_then ?_
              refine C_seq ?_
              refine C_region ?_
              refine W_move rfl rfl rfl ?_
              refine W_nilCheck rfl rfl rfl ?_
              refine W_field (o := 0) rfl rfl Proofs.Try.runUnderlying57 rfl Proofs.Try.sizeOf25 rfl rfl rfl ?_
              refine W_loadAgg (cs := [v318, v321, .int .i64 (n324)]) rfl rfl Proofs.Try.isAgg25 Proofs.Try.sizeOf25 rfl (own_part (List.mem_cons_of_mem _ (List.mem_cons_of_mem _ (List.mem_cons_self ..))) rfl) rfl ?_
              refine W_move rfl rfl rfl ?_
              refine W_move rfl rfl rfl ?_
              obtain ⟨r407, hc408, hm⟩ := bind_some hm
              refine W_call Proofs.Try.call33 rfl rfl rfl (fun w ht => by obtain ⟨H0_, hl0_, ht0_, hr0_, bk0_⟩ := ht.lendRow hr406 rfl; have h := m_upkeep_wrong_c (hm := hc408) ((h320.mono hle400).mono hl0_) ((h323.mono hle400).mono hl0_) hr0_ ht0_; exact lend_back bk0_ (h)) ?_
              rintro _ _ _ ⟨rfl, ⟨_, rfl, rfl, rfl⟩⟩
              refine W_bin rfl rfl rfl rfl rfl ?_
              refine W_end ?_
              refine E_then ?_
              refine C_cond (b := decide (r407 = 0)) rfl (fun hb409 => ?_) (fun hb409 => ?_)
              · have hm := ite_t' hb409 hm
                refine C_region ?_
                refine W_move rfl rfl rfl ?_
                refine W_move rfl rfl rfl ?_
                refine W_move rfl rfl rfl ?_
                refine W_field (o := 4) rfl rfl Proofs.Try.runUnderlying51 rfl Proofs.Try.sizeOf3 rfl rfl rfl ?_
                refine W_load rfl rfl Proofs.Try.isAgg3 rfl (own_at (List.mem_cons_of_mem _ (List.mem_cons_self ..)) rfl) ?_
                refine W_move rfl rfl rfl ?_
                refine W_field (o := 2) rfl rfl Proofs.Try.runUnderlying51 rfl Proofs.Try.sizeOf3 rfl rfl rfl ?_
                refine W_load rfl rfl Proofs.Try.isAgg3 rfl (own_at (List.mem_cons_of_mem _ (List.mem_cons_self ..)) rfl) ?_
                refine W_bin rfl rfl rfl rfl rfl ?_
                refine W_bin rfl rfl rfl rfl rfl ?_
                refine W_bin rfl rfl rfl rfl rfl ?_
                refine W_freeze (hr406).rd rfl (fun H410 hle411 h412 => ?_)
                refine W_perm (List.Perm.swap _ _ _) ?_
                obtain ⟨r413, hc414, hm⟩ := bind_some hm
                refine W_call Proofs.Try.call21 rfl rfl rfl (fun w ht => by have h := ih (hm := hc414) ((h320.mono hle400).mono hle411) ((h323.mono hle400).mono hle411) ((h327.mono hle400).mono hle411) hne328 h412 ht; exact h) ?_
                rintro _ H423 _ ⟨hle424, v416, v418, v420, rfl, rfl, h417, h419, h421, hne422⟩
                refine W_end ?_
                refine E_normal_block ?_
                exact E_keepJ (J390 _ _ _ ⟨r413.t.Jobs, r413.t.Apart, r413.t.Crews, r413.best, r413.cost, v416, v418, v420, hm, h417, h419, h421, hne422, (Hp.le_trans (Hp.le_trans hle400 hle411) hle424), rfl, rfl⟩) (List.Perm.swap _ _ _) ⟨rfl, rfl, rfl, rfl, rfl, rfl, trivial⟩
              · have hm := ite_f' hb409 hm
                refine C_skip ?_
                refine E_normal_block ?_
                refine E_drop (List.Sublist.cons _ (List.Sublist.refl _)) ?_
                exact E_keepJ (J390 _ _ _ ⟨l319, l322, n324, l326, n329, v318, v321, v325, hm, (h320.mono hle400), (h323.mono hle400), (h327.mono hle400), hne328, hle400, rfl, rfl⟩) (List.Perm.refl _) ⟨rfl, rfl, rfl, rfl, rfl, rfl, trivial⟩
          · have hm := ite_f' hb341 hm
            refine C_exit ?_
            refine E_exit_then ?_
            refine E_exit_then ?_
            refine E_exit_hit ?_
            refine E_off ?_
            obtain rfl := Option.some.inj hm
            refine E_drop (List.Sublist.cons _ (List.Sublist.refl _)) ?_
            exact end0 rfl ⟨hle331, v318, v321, v325, rfl, rfl, h320, h323, h327, hne328⟩
  · refine C_region ?_
    refine W_move rfl rfl rfl ?_
    refine W_nilCheck rfl rfl rfl ?_
    refine W_field (o := 3) rfl rfl Proofs.Try.runUnderlying57 rfl Proofs.Try.sizeOf27 rfl rfl rfl ?_
    refine W_load rfl rfl Proofs.Try.isAgg27 rfl (own_at (List.mem_cons_self ..) rfl) ?_
    refine W_neNilE rfl rfl Proofs.Try.runUnderlying27 rfl rfl hne0 ?_
    refine W_move rfl rfl rfl ?_
    cases hb425 : (p0_s.best.isEmpty)
    · refine W_move rfl rfl rfl ?_
      refine W_move rfl rfl rfl ?_
      refine W_nilCheck rfl rfl rfl ?_
      refine W_field (o := 4) rfl rfl Proofs.Try.runUnderlying57 rfl Proofs.Try.sizeOf3 rfl rfl rfl ?_
      refine W_load rfl rfl Proofs.Try.isAgg3 rfl (own_at (List.mem_cons_self ..) rfl) ?_
      refine W_bin rfl rfl rfl rfl rfl ?_
      refine W_pick rfl rfl rfl rfl ?_
      refine W_end ?_
      exact E_keepJ (J102 _ _ _ ⟨rfl, rfl, rfl⟩) (List.Perm.refl _) ⟨rfl, rfl, rfl, rfl, (by show some (Value.bool (decide (p0_s.cost ≤ cost))) = some (Value.bool ((!p0_s.best.isEmpty) && (decide (p0_s.cost ≤ cost)))); simp only [hb425, Bool.and_true, Bool.true_and, Bool.false_and, Bool.and_false, Bool.or_true, Bool.true_or, Bool.or_false, Bool.false_or, Bool.not_true, Bool.not_false]), trivial⟩
    · refine W_no rfl rfl rfl ?_
      refine W_no rfl rfl rfl ?_
      refine W_no rfl rfl rfl ?_
      refine W_no rfl rfl rfl ?_
      refine W_no rfl rfl rfl ?_
      refine W_no rfl rfl rfl ?_
      refine W_pick rfl rfl rfl rfl ?_
      refine W_end ?_
      exact E_keepJ (J102 _ _ _ ⟨rfl, rfl, rfl⟩) (List.Perm.refl _) ⟨rfl, rfl, rfl, rfl, (by show some (Value.bool (false)) = some (Value.bool ((!p0_s.best.isEmpty) && (decide (p0_s.cost ≤ cost)))); simp only [hb425, Bool.and_true, Bool.true_and, Bool.false_and, Bool.and_false, Bool.or_true, Bool.true_or, Bool.or_false, Bool.false_or, Bool.not_true, Bool.not_false]), trivial⟩
theorem m_upkeep_search_try_fuel_c : ∀ (n : Nat) {B : Nat} {w0 w : World} {H : Hp} {M : List Res} {p0_s : S_upkeep_search} {p1_l : (List Int)} {cost : Int} {b0 : Nat} {v0 : Value} {v1 : Value} {v2 : Value} {v3 : Value} {r : S_upkeep_search} (hm : m_upkeep_search_try_fuel n p0_s p1_l cost = some r) (h0 : RdS H v0 p0_s.t.Jobs) (h1 : RdS H v1 p0_s.t.Apart) (h2 : RdS H v2 p0_s.best) (hne0 : NilE v2 p0_s.best) (h3 : RdS H v3 p1_l) (ht : St B w0 H (.obj b0 (.cells [v0, v1, .int .i64 (p0_s.t.Crews), v2, .int .i64 (p0_s.cost)].toArray 57 (0, 0)) :: M) w),
    Calls Proofs.Try.prog 21 [.pointer (some ⟨b0, 0, none⟩), v3, .int .i64 (cost)].toArray w (Ret B w0 fun H' M' v => H.le H' ∧ ∃ qv0 : Value, ∃ qv1 : Value, ∃ qv2 : Value, .obj b0 (.cells [qv0, qv1, .int .i64 (r.t.Crews), qv2, .int .i64 (r.cost)].toArray 57 (0, 0)) :: M = M' ∧ .tuple #[] = v ∧ RdS H' qv0 r.t.Jobs ∧ RdS H' qv1 r.t.Apart ∧ RdS H' qv2 r.best ∧ NilE qv2 r.best)
  | 0 => fun hm => nomatch hm
  | n + 1 => by
    intros; exact m_upkeep_search_try_step_c (self := m_upkeep_search_try_fuel n) (m_upkeep_search_try_fuel_c n) ‹_› ‹_› ‹_› ‹_› ‹_› ‹_› ‹_›
theorem m_upkeep_search_try_c {B : Nat} {w0 w : World} {H : Hp} {M : List Res} {p0_s : S_upkeep_search} {p1_l : (List Int)} {cost : Int} {b0 : Nat} {v0 : Value} {v1 : Value} {v2 : Value} {v3 : Value} {r : S_upkeep_search} (hm : m_upkeep_search_try p0_s p1_l cost = some r) (h0 : RdS H v0 p0_s.t.Jobs) (h1 : RdS H v1 p0_s.t.Apart) (h2 : RdS H v2 p0_s.best) (hne0 : NilE v2 p0_s.best) (h3 : RdS H v3 p1_l) (ht : St B w0 H (.obj b0 (.cells [v0, v1, .int .i64 (p0_s.t.Crews), v2, .int .i64 (p0_s.cost)].toArray 57 (0, 0)) :: M) w) :
    Calls Proofs.Try.prog 21 [.pointer (some ⟨b0, 0, none⟩), v3, .int .i64 (cost)].toArray w (Ret B w0 fun H' M' v => H.le H' ∧ ∃ qv0 : Value, ∃ qv1 : Value, ∃ qv2 : Value, .obj b0 (.cells [qv0, qv1, .int .i64 (r.t.Crews), qv2, .int .i64 (r.cost)].toArray 57 (0, 0)) :: M = M' ∧ .tuple #[] = v ∧ RdS H' qv0 r.t.Jobs ∧ RdS H' qv1 r.t.Apart ∧ RdS H' qv2 r.best ∧ NilE qv2 r.best) := m_upkeep_search_try_fuel_c FUEL (hm := hm) h0 h1 h2 hne0 h3 ht

theorem m_upkeep_Best_c {B : Nat} {w0 w : World} {H : Hp} {M : List Res} {p0_t : S_api_UpkeepTask} {v0 : Value} {v1 : Value} {r : (List Int) × Int × Int} (hm : m_upkeep_Best p0_t = some r) (h0 : RdS H v0 p0_t.Jobs) (h1 : RdS H v1 p0_t.Apart) (ht : St B w0 H (M) w) :
    Calls Proofs.Try.prog 8 [.agg [v0, v1, .int .i64 (p0_t.Crews)].toArray].toArray w (Ret B w0 fun H' M' v => H.le H' ∧ ∃ qv0 : Value, M = M' ∧ .tuple #[qv0, .int .i64 (r.2.1), .int .i64 (r.2.2)] = v ∧ RdS H' qv0 r.1) := by
  unfold m_upkeep_Best at hm
  refine enter Proofs.Try.func8 rfl rfl rfl ht ?_
  refine C_seq ?_
  refine C_region ?_
  refine W_box (cs := [v0, v1, .int .i64 (p0_t.Crews)]) rfl rfl rfl rfl (fun b101 => ?_)
  refine W_assign rfl rfl rfl ?_
  refine W_assign rfl rfl rfl ?_
  refine W_assign rfl rfl rfl ?_
  refine W_end ?_
  refine E_then ?_
  refine C_seq ?_
  refine C_seq ?_
  refine C_region ?_
  refine W_loadAgg rfl rfl Proofs.Try.isAgg25 Proofs.Try.sizeOf25 rfl (own_all (List.mem_cons_self ..)) rfl ?_
  obtain ⟨r102, hc103, hm⟩ := bind_some hm
  refine W_call Proofs.Try.call20 rfl rfl rfl (fun w ht => by have h := m_upkeep_Check_c (hm := hc103) h0 h1 ht; exact h) ?_
  rintro _ _ _ ⟨rfl, rfl, rfl⟩
  refine W_assign rfl rfl rfl ?_
  refine W_end ?_
  refine E_then ?_
  refine C_seq ?_
  refine C_region ?_
  refine W_move rfl rfl rfl ?_
  refine W_bin rfl rfl rfl rfl rfl ?_
  refine W_end ?_
  refine E_then ?_
  refine C_cond (b := !decide (r102 = 0)) rfl (fun hb104 => ?_) (fun hb104 => ?_)
  · have hm := ite_t' hb104 hm
    refine C_seq ?_
    refine C_region ?_
    refine W_move rfl rfl rfl ?_
    refine W_assign rfl rfl rfl ?_
    refine W_assign rfl rfl rfl ?_
    refine W_assign rfl rfl rfl ?_
    refine W_end ?_
    refine E_then ?_
    refine C_ret ?_
    refine E_ret_then ?_
    obtain rfl := Option.some.inj hm
    refine E_drop (List.Sublist.cons _ (List.Sublist.refl _)) ?_
    exact end3 rfl rfl rfl rfl ⟨(Hp.le_refl _), (.slice none 0 0), rfl, rfl, RdS.nil⟩
  · have hm := ite_f' hb104 hm
    refine C_skip ?_
    refine E_then ?_
    refine C_seq ?_
    refine C_seq ?_
    refine C_region ?_
    refine W_field (o := 0) rfl rfl Proofs.Try.runUnderlying25 rfl Proofs.Try.sizeOf22 rfl rfl rfl ?_
    refine W_load rfl rfl Proofs.Try.isAgg22 rfl (own_at (List.mem_cons_self ..) rfl) ?_
    refine W_lenR rfl rfl Proofs.Try.runUnderlying22 rfl h0 ?_
    refine W_bin rfl rfl rfl rfl rfl ?_
    refine W_end ?_
    refine E_then ?_
    refine C_cond (b := decide ((p0_t.Jobs.length : Int) = 0)) rfl (fun hb105 => ?_) (fun hb105 => ?_)
    · have hm := ite_t' hb105 hm
      refine C_seq ?_
      refine C_region ?_
      refine W_assign rfl rfl rfl ?_
      refine W_assign rfl rfl rfl ?_
      refine W_assign rfl rfl rfl ?_
      refine W_end ?_
      refine E_then ?_
      refine C_ret ?_
      refine E_ret_then ?_
      obtain rfl := Option.some.inj hm
      refine E_drop (List.Sublist.cons _ (List.Sublist.refl _)) ?_
      exact end3 rfl rfl rfl rfl ⟨(Hp.le_refl _), (.slice none 0 0), rfl, rfl, RdS.nil⟩
    · have hm := ite_f' hb105 hm
      refine C_skip ?_
      refine E_then ?_
      refine C_seq ?_
      refine C_region ?_
      refine W_loadAgg rfl rfl Proofs.Try.isAgg25 Proofs.Try.sizeOf25 rfl (own_all (List.mem_cons_self ..)) rfl ?_
      refine W_build (css := [[v0, v1, .int .i64 (p0_t.Crews)]]) (zs := [.slice none 0 0, .slice none 0 0, .int .i64 (0), .slice none 0 0, .int .i64 (0)]) (out := [v0, v1, .int .i64 (p0_t.Crews), .slice none 0 0, .int .i64 (0)]) (places := [(0, 3), (3, 1), (4, 1)]) rfl rfl rfl ⟨rfl, trivial⟩ Proofs.Try.zeroValue57 rfl Proofs.Try.runUnderlying57 (fun w => by kernel_rfl) rfl ?_
      refine W_box (cs := [v0, v1, .int .i64 (p0_t.Crews), .slice none 0 0, .int .i64 (0)]) rfl rfl rfl rfl (fun b106 => ?_)
      refine W_assign rfl rfl rfl ?_
      refine W_end ?_
      refine E_then ?_
      refine C_seq ?_
      refine C_region ?_
      refine W_move rfl rfl rfl ?_
      obtain ⟨r107, hc108, hm⟩ := bind_some hm
      refine W_call Proofs.Try.call21 rfl rfl rfl (fun w ht => by have h := m_upkeep_search_try_c (hm := hc108) h0 h1 RdS.nil NilE.nil RdS.nil ht; exact h) ?_
      rintro _ H117 _ ⟨hle118, v110, v112, v114, rfl, rfl, h111, h113, h115, hne116⟩
      refine W_end ?_
      refine E_then ?_
      refine C_seq ?_
      refine C_seq ?_
      refine C_region ?_
      refine W_move rfl rfl rfl ?_
      refine W_nilCheck rfl rfl rfl ?_
      refine W_field (o := 3) rfl rfl Proofs.Try.runUnderlying57 rfl Proofs.Try.sizeOf27 rfl rfl rfl ?_
      refine W_load rfl rfl Proofs.Try.isAgg27 rfl (own_at (List.mem_cons_self ..) rfl) ?_
      refine W_eqNilE rfl rfl Proofs.Try.runUnderlying27 rfl rfl hne116 ?_
      refine W_end ?_
      refine E_then ?_
      refine C_cond (b := r107.best.isEmpty) rfl (fun hb119 => ?_) (fun hb119 => ?_)
      · have hm := ite_t' hb119 hm
        refine C_seq ?_
        refine C_region ?_
        refine W_assign rfl rfl rfl ?_
        refine W_assign rfl rfl rfl ?_
        refine W_assign rfl rfl rfl ?_
        refine W_end ?_
        refine E_then ?_
        refine C_ret ?_
        refine E_ret_then ?_
        obtain rfl := Option.some.inj hm
        refine E_drop (List.Sublist.cons _ (List.Sublist.cons _ (List.Sublist.refl _))) ?_
        exact end3 rfl rfl rfl rfl ⟨hle118, (.slice none 0 0), rfl, rfl, RdS.nil⟩
      · have hm := ite_f' hb119 hm
        refine C_skip ?_
        refine E_then ?_
        refine C_seq ?_
        refine C_region_tok 9 (phiT [(fun H rs v => [] = rs ∧ .pointer (some ⟨b106, 0, none⟩) = v), (fun H rs v => [] = rs ∧ .pointer (some ⟨b106, 0, none⟩) = v), (fun H rs v => [] = rs ∧ .pointer (some ⟨b106, 3, none⟩) = v), (fun H rs v => [] = rs ∧ v114 = v), (fun H rs v => [] = rs ∧ .pointer (some ⟨b106, 0, none⟩) = v), (fun H rs v => [] = rs ∧ .pointer (some ⟨b106, 0, none⟩) = v), (fun H rs v => [] = rs ∧ .pointer (some ⟨b106, 4, none⟩) = v), (fun H rs v => [] = rs ∧ .int .i64 (r107.cost) = v), (fun H rs v => [] = rs ∧ v114 = v)]) [[], [], [], [], [], [], [], [], []] [[], [], [], [], [], [], [], [], []] [] [0, 1, 2, 3, 4, 5, 6, 7, 8] [(0, .agg [v0, v1, .int .i64 (p0_t.Crews)].toArray), (1, .pointer (some ⟨b101, 0, none⟩)), (3, .int .i64 (0)), (4, .int .i64 (0)), (5, .int .i64 (r102)), (6, .pointer (some ⟨b106, 0, none⟩)), (7, .agg [v0, v1, .int .i64 (p0_t.Crews)].toArray), (8, .int .i64 (r102)), (9, .int .i64 (r102)), (10, .bool (!decide (r102 = 0))), (12, .pointer (some ⟨b101, 0, none⟩)), (13, v0), (14, .int .i64 ((p0_t.Jobs.length : Int))), (15, .bool (decide ((p0_t.Jobs.length : Int) = 0))), (16, .agg [v0, v1, .int .i64 (p0_t.Crews)].toArray), (17, .agg [v0, v1, .int .i64 (p0_t.Crews), .slice none 0 0, .int .i64 (0)].toArray), (18, .pointer (some ⟨b106, 0, none⟩)), (19, .pointer (some ⟨b106, 0, none⟩)), (20, .tuple #[]), (21, .pointer (some ⟨b106, 0, none⟩)), (22, .pointer (some ⟨b106, 0, none⟩)), (23, .pointer (some ⟨b106, 3, none⟩)), (24, v114), (25, .bool (r107.best.isEmpty))] [[], [], [], [], [], [], [], [], []] Facts.mixed (by kernel_rfl) rfl rfl (by kernel_rfl) (Kept.lk ⟨rfl, rfl, rfl, rfl, rfl, rfl, rfl, rfl, rfl, rfl, rfl, rfl, rfl, rfl, rfl, rfl, rfl, rfl, rfl, rfl, rfl, rfl, rfl, rfl, trivial⟩) ⟨trivial, trivial, trivial, trivial, trivial, trivial, trivial, trivial, trivial, trivial⟩ rfl (by kernel_rfl) (phiT_mono ⟨eq_monoT _ _, eq_monoT _ _, eq_monoT _ _, eq_monoT _ _, eq_monoT _ _, eq_monoT _ _, eq_monoT _ _, eq_monoT _ _, eq_monoT _ _, trivial⟩) ⟨?_, ?_, ?_, ?_, ?_, ?_, ?_, ?_, ?_, trivial⟩ ?_
        · intro HX hX X Rest hR
          intro hU
          refine W_move rfl rfl rfl ?_
          exact W_end (OneT_end [] (Hp.le_refl _) ⟨rfl, rfl⟩)
        · intro HX hX X Rest hR
          rintro _ _ ⟨rfl, rfl⟩
          intro hU
          refine W_nilCheck rfl rfl rfl ?_
          exact W_end (OneT_end [] (Hp.le_refl _) ⟨rfl, rfl⟩)
        · intro HX hX X Rest hR
          rintro _ _ ⟨rfl, rfl⟩
          intro hU
          refine W_field (o := 3) rfl rfl Proofs.Try.runUnderlying57 rfl Proofs.Try.sizeOf27 rfl rfl rfl ?_
          exact W_end (OneT_end [] (Hp.le_refl _) ⟨rfl, rfl⟩)
        · intro HX hX X Rest hR
          rintro _ _ ⟨rfl, rfl⟩
          intro hU
          refine W_load rfl rfl Proofs.Try.isAgg27 rfl (own_at (hR _ (List.mem_cons_self ..)) rfl) ?_
          exact W_end (OneT_end [] (Hp.le_refl _) ⟨rfl, rfl⟩)
        · intro HX hX X Rest hR
          intro hU
          refine W_move rfl rfl rfl ?_
          exact W_end (OneT_end [] (Hp.le_refl _) ⟨rfl, rfl⟩)
        · intro HX hX X Rest hR
          rintro _ _ ⟨rfl, rfl⟩
          intro hU
          refine W_nilCheck rfl rfl rfl ?_
          exact W_end (OneT_end [] (Hp.le_refl _) ⟨rfl, rfl⟩)
        · intro HX hX X Rest hR
          rintro _ _ ⟨rfl, rfl⟩
          intro hU
          refine W_field (o := 4) rfl rfl Proofs.Try.runUnderlying57 rfl Proofs.Try.sizeOf3 rfl rfl rfl ?_
          exact W_end (OneT_end [] (Hp.le_refl _) ⟨rfl, rfl⟩)
        · intro HX hX X Rest hR
          rintro _ _ ⟨rfl, rfl⟩
          intro hU
          refine W_load rfl rfl Proofs.Try.isAgg3 rfl (own_at (hR _ (List.mem_cons_self ..)) rfl) ?_
          exact W_end (OneT_end [] (Hp.le_refl _) ⟨rfl, rfl⟩)
        · intro HX hX X Rest hR
          rintro _ _ ⟨rfl, rfl⟩
          rintro _ _ ⟨rfl, rfl⟩
          rintro _ _ ⟨rfl, rfl⟩
          rintro _ _ ⟨rfl, rfl⟩
          rintro _ _ ⟨rfl, rfl⟩
          intro hU
          refine W_assign rfl rfl rfl ?_
          exact W_end (OneT_end [] (Hp.le_refl _) ⟨rfl, rfl⟩)
        intro H120 hle121
        rintro _ _ ⟨rfl, rfl⟩
        rintro _ _ ⟨rfl, rfl⟩
        rintro _ _ ⟨rfl, rfl⟩
        rintro _ _ ⟨rfl, rfl⟩
        rintro _ _ ⟨rfl, rfl⟩
        rintro _ _ ⟨rfl, rfl⟩
        rintro _ _ ⟨rfl, rfl⟩
        rintro _ _ ⟨rfl, rfl⟩
        rintro _ _ ⟨rfl, rfl⟩
        refine W_assign rfl rfl rfl ?_
        refine W_assign rfl rfl rfl ?_
        refine W_end ?_
        refine E_then ?_
        refine C_ret ?_
        obtain rfl := Option.some.inj hm
        refine E_drop (List.Sublist.cons _ (List.Sublist.cons _ (List.Sublist.refl _))) ?_
        exact end3 rfl rfl rfl rfl ⟨(Hp.le_trans hle118 hle121), v114, rfl, rfl, (h115.mono hle121)⟩

theorem m_slices_Equal_int_int_c {B : Nat} {w0 w : World} {H : Hp} {M : List Res} {p0_s1 : (List Int)} {p1_s2 : (List Int)} {v0 : Value} {v1 : Value} {r : Bool} (hm : m_slices_Equal_int_int p0_s1 p1_s2 = some r) (h0 : RdS H v0 p0_s1) (h1 : RdS H v1 p1_s2) (ht : St B w0 H (M) w) :
    Calls Proofs.Try.prog 22 [v0, v1].toArray w (Ret B w0 fun H' M' v => H = H' ∧ M = M' ∧ .bool (r) = v) := by
  unfold m_slices_Equal_int_int at hm
  refine enter Proofs.Try.func22 rfl rfl rfl ht ?_
  refine C_seq ?_
  refine C_region ?_
  refine W_assign rfl rfl rfl ?_
  refine W_end ?_
  refine E_then ?_
  refine C_seq ?_
  refine C_seq ?_
  refine C_region ?_
  refine W_move rfl rfl rfl ?_
  refine W_lenR rfl rfl Proofs.Try.runUnderlying27 rfl h0 ?_
  refine W_move rfl rfl rfl ?_
  refine W_lenR rfl rfl Proofs.Try.runUnderlying27 rfl h1 ?_
  refine W_bin rfl rfl rfl rfl rfl ?_
  refine W_end ?_
  refine E_then ?_
  refine C_cond (b := !decide ((p0_s1.length : Int) = (p1_s2.length : Int))) rfl (fun hb101 => ?_) (fun hb101 => ?_)
  · have hm := ite_t' hb101 hm
    refine C_seq ?_
    refine C_region ?_
    refine W_assign rfl rfl rfl ?_
    refine W_end ?_
    refine E_then ?_
    refine C_ret ?_
    refine E_ret_then ?_
    obtain rfl := Option.some.inj hm
    refine E_weak (Hp.le_refl _) ?_
    exact end1 rfl rfl ⟨rfl, rfl, rfl⟩
  · have hm := ite_f' hb101 hm
    refine C_skip ?_
    refine E_then ?_
    refine C_seq ?_
    refine C_seq ?_
    refine C_region ?_
    refine W_move rfl rfl rfl ?_
    refine W_lenR rfl rfl Proofs.Try.runUnderlying27 rfl h0 ?_
    refine W_move rfl rfl rfl ?_
    refine W_end ?_
    refine E_then ?_
    refine C_block ?_
    refine C_keep (L' := [(0, v0), (1, v1), (12, .int .i64 ((p0_s1.length : Int))), (13, .int .i64 (((0 : Nat) : Int)))]) ⟨rfl, rfl, rfl, rfl, trivial⟩ (List.Perm.refl _) ?_
    refine C_loop (fun n H' M' L' => ∃ (k102 : Nat) (zs136' : Nat), k102 + zs136' = ((p0_s1.length : Int) : Int).toNat ∧ zs136' = n ∧ forN (fun k s131 n => m_slices_Equal_int_int_b1 p0_s1 p1_s2 k n) (fun _ => some true) zs136' k102 () = some r ∧ H.le H' ∧ M = M' ∧ [(0, v0), (1, v1), (12, .int .i64 ((p0_s1.length : Int))), (13, .int .i64 ((k102 : Int)))] = L') _ ⟨0, _, Nat.zero_add _, rfl, hm, (Hp.le_refl _), rfl, rfl⟩ ?_
    rintro _ H129 _ _ ⟨k102, zs136', hd138, rfl, hm, hle130, rfl, rfl⟩
    refine C_seq ?_
    refine C_region ?_
    refine W_bin rfl rfl rfl rfl rfl ?_
    refine W_end (E_then ?_)
    refine C_seq ?_
    refine C_cond (b := decide ((k102 : Int) < (p0_s1.length : Int))) rfl (fun hb140 => ?_) (fun hb140 => ?_)
    · obtain ⟨zs136, rfl, hd139, hy137⟩ := rngN_t hd138 hb140
      have hm : m_slices_Equal_int_int_b1 p0_s1 p1_s2 k102 (forN (fun k s131 n => m_slices_Equal_int_int_b1 p0_s1 p1_s2 k n) (fun _ => some true) zs136 (k102 + 1)) = some r := hm
      generalize hn133 : forN (fun k s131 n => m_slices_Equal_int_int_b1 p0_s1 p1_s2 k n) (fun _ => some true) zs136 (k102 + 1) = nx132 at hm
      unfold m_slices_Equal_int_int_b1 at hm
      refine C_skip (E_then ?_)
      refine C_seq ?_
      refine C_block ?_
      refine C_seq ?_
      refine C_region ?_
      refine W_move rfl rfl rfl ?_
      refine W_assign rfl rfl rfl ?_
      refine W_end ?_
      refine E_then ?_
      refine C_seq ?_
      obtain ⟨y141, h142, he143, hm⟩ := idx_some hm
      obtain ⟨_, rfl, hc144⟩ := (h0).elem he143
      obtain ⟨y145, h146, he147, hm⟩ := idx_some hm
      obtain ⟨_, rfl, hc148⟩ := (h1).elem he147
      refine C_region_tok0 8 (phiT [(fun H rs v => [] = rs ∧ v0 = v), (fun H rs v => [] = rs ∧ .int .i64 ((k102 : Int)) = v), (fun H rs v => [] = rs ∧ .pointer (some ((Value.base (v0)).add (((k102 : Int) : Int).toNat * 1))) = v), (fun H rs v => [] = rs ∧ .int .i64 (y141) = v), (fun H rs v => [] = rs ∧ v1 = v), (fun H rs v => [] = rs ∧ .int .i64 ((k102 : Int)) = v), (fun H rs v => [] = rs ∧ .pointer (some ((Value.base (v1)).add (((k102 : Int) : Int).toNat * 1))) = v), (fun H rs v => [] = rs ∧ .int .i64 (y145) = v)]) [[], [], [], [], [], [], [], []] [[], [], [], [], [], [], [], []] [] [0, 1, 2, 3, 4, 5, 6, 7] Facts.mixed (by kernel_rfl) rfl rfl rfl (by kernel_rfl) (phiT_mono ⟨eq_monoT _ _, eq_monoT _ _, eq_monoT _ _, eq_monoT _ _, eq_monoT _ _, eq_monoT _ _, eq_monoT _ _, eq_monoT _ _, trivial⟩) ⟨?_, ?_, ?_, ?_, ?_, ?_, ?_, ?_, trivial⟩ ?_
      · intro HX hX X Rest hR
        intro hU
        refine W_move rfl rfl rfl ?_
        exact W_end (OneT_end [] (Hp.le_refl _) ⟨rfl, rfl⟩)
      · intro HX hX X Rest hR
        intro hU
        refine W_move rfl rfl rfl ?_
        exact W_end (OneT_end [] (Hp.le_refl _) ⟨rfl, rfl⟩)
      · intro HX hX X Rest hR
        rintro _ _ ⟨rfl, rfl⟩
        rintro _ _ ⟨rfl, rfl⟩
        intro hU
        refine W_indexS rfl rfl Proofs.Try.runUnderlying27 Proofs.Try.sizeOf3 rfl ((h0.mono hle130).mono hX) rfl h142 he143 ?_
        exact W_end (OneT_end [] (Hp.le_refl _) ⟨rfl, rfl⟩)
      · intro HX hX X Rest hR
        rintro _ _ ⟨rfl, rfl⟩
        intro hU
        refine W_load rfl rfl Proofs.Try.isAgg3 rfl (HCells.one ((hc144.mono hle130).mono hX) 0 rfl).at ?_
        exact W_end (OneT_end [] (Hp.le_refl _) ⟨rfl, rfl⟩)
      · intro HX hX X Rest hR
        intro hU
        refine W_move rfl rfl rfl ?_
        exact W_end (OneT_end [] (Hp.le_refl _) ⟨rfl, rfl⟩)
      · intro HX hX X Rest hR
        intro hU
        refine W_move rfl rfl rfl ?_
        exact W_end (OneT_end [] (Hp.le_refl _) ⟨rfl, rfl⟩)
      · intro HX hX X Rest hR
        rintro _ _ ⟨rfl, rfl⟩
        rintro _ _ ⟨rfl, rfl⟩
        intro hU
        refine W_indexS rfl rfl Proofs.Try.runUnderlying27 Proofs.Try.sizeOf3 rfl ((h1.mono hle130).mono hX) rfl h146 he147 ?_
        exact W_end (OneT_end [] (Hp.le_refl _) ⟨rfl, rfl⟩)
      · intro HX hX X Rest hR
        rintro _ _ ⟨rfl, rfl⟩
        intro hU
        refine W_load rfl rfl Proofs.Try.isAgg3 rfl (HCells.one ((hc148.mono hle130).mono hX) 0 rfl).at ?_
        exact W_end (OneT_end [] (Hp.le_refl _) ⟨rfl, rfl⟩)
      intro H149 hle150
      rintro _ _ ⟨rfl, rfl⟩
      rintro _ _ ⟨rfl, rfl⟩
      rintro _ _ ⟨rfl, rfl⟩
      rintro _ _ ⟨rfl, rfl⟩
      rintro _ _ ⟨rfl, rfl⟩
      rintro _ _ ⟨rfl, rfl⟩
      rintro _ _ ⟨rfl, rfl⟩
      rintro _ _ ⟨rfl, rfl⟩
      refine W_bin rfl rfl rfl rfl rfl ?_
      refine W_end ?_
      refine E_then ?_
      refine C_cond (b := !decide (y141 = y145)) rfl (fun hb151 => ?_) (fun hb151 => ?_)
      · have hm := ite_t' hb151 hm
        refine C_seq ?_
        refine C_region ?_
        refine W_assign rfl rfl rfl ?_
        refine W_end ?_
        refine E_then ?_
        refine C_ret ?_
        refine E_ret_block ?_
        refine E_ret_then ?_
        refine E_ret_then ?_
        refine E_ret_block ?_
        refine E_ret_then ?_
        obtain rfl := Option.some.inj hm
        refine E_weak (Hp.le_trans hle130 hle150) ?_
        exact end1 rfl rfl ⟨rfl, rfl, rfl⟩
      · have hm := ite_f' hb151 hm
        refine C_skip ?_
        refine E_normal_block ?_
        refine E_then ?_
        refine C_region ?_
        refine W_bin rfl rfl rfl rfl rfl ?_
        refine W_move rfl rfl rfl ?_
        refine W_end ?_
        exact E_keepJ (E_back (Nat.lt_succ_self _) ⟨k102 + 1, zs136, hd139, rfl, (by rw [hn133]; exact hm), (Hp.le_trans hle130 hle150), rfl, rfl⟩) (List.Perm.refl _) ⟨rfl, rfl, rfl, (congrArg (fun z => some (Value.int .i64 z)) (i64_succN hy137 (toNat_max (len_max (h0).lenMax)))), trivial⟩
    · obtain rfl := rngN_f hd138 hb140
      have hm : (some true) = some r := hm
      refine C_exit (E_exit_then ?_)
      refine E_exit_then ?_
      refine E_exit_hit ?_
      refine E_then ?_
      refine C_seq ?_
      refine C_region ?_
      refine W_assign rfl rfl rfl ?_
      refine W_end ?_
      refine E_then ?_
      refine C_ret ?_
      obtain rfl := Option.some.inj hm
      refine E_weak hle130 ?_
      exact end1 rfl rfl ⟨rfl, rfl, rfl⟩

theorem m_gridhallkeep4_upkeepFact_c {B : Nat} {w0 w : World} {H : Hp} {M : List Res} {r : Bool} (hm : m_gridhallkeep4_upkeepFact = some r) (ht : St B w0 H (M) w) :
    Calls Proofs.Try.prog 9 [].toArray w (Ret B w0 fun H' M' v => H = H' ∧ M = M' ∧ .bool (r) = v) := by
  unfold m_gridhallkeep4_upkeepFact at hm
  refine enter Proofs.Try.func9 rfl rfl rfl ht ?_
  refine C_seq ?_
  refine C_region ?_
  refine W_assign rfl rfl rfl ?_
  refine W_end ?_
  refine E_then ?_
  refine C_seq ?_
  refine C_region ?_
  refine W_build (css := [[.string (⟨#[65]⟩)], [.int .i64 (1)], [.int .i64 (1)], [.int .i64 (3)]]) (zs := [.string (⟨#[]⟩), .int .i64 (0), .int .i64 (0), .int .i64 (0), .int .i64 (0)]) (out := [.string (⟨#[65]⟩), .int .i64 (1), .int .i64 (0), .int .i64 (1), .int .i64 (3)]) (places := [(0, 1), (1, 1), (2, 1), (3, 1), (4, 1)]) rfl rfl rfl ⟨rfl, rfl, rfl, rfl, trivial⟩ Proofs.Try.zeroValue51 rfl Proofs.Try.runUnderlying51 (fun w => by kernel_rfl) rfl ?_
  refine W_build (css := [[.string (⟨#[66]⟩)], [.int .i64 (1)], [.int .i64 (1)], [.int .i64 (3)]]) (zs := [.string (⟨#[]⟩), .int .i64 (0), .int .i64 (0), .int .i64 (0), .int .i64 (0)]) (out := [.string (⟨#[66]⟩), .int .i64 (1), .int .i64 (0), .int .i64 (1), .int .i64 (3)]) (places := [(0, 1), (1, 1), (2, 1), (3, 1), (4, 1)]) rfl rfl rfl ⟨rfl, rfl, rfl, rfl, trivial⟩ Proofs.Try.zeroValue51 rfl Proofs.Try.runUnderlying51 (fun w => by kernel_rfl) rfl ?_
  refine W_buildSliceO (α := S_api_UpkeepJob) (css := [[.string (⟨#[65]⟩), .int .i64 (1), .int .i64 (0), .int .i64 (1), .int .i64 (3)], [.string (⟨#[66]⟩), .int .i64 (1), .int .i64 (0), .int .i64 (1), .int .i64 (3)]]) (zs := [.string (⟨#[]⟩), .int .i64 (0), .int .i64 (0), .int .i64 (0), .int .i64 (0), .string (⟨#[]⟩), .int .i64 (0), .int .i64 (0), .int .i64 (0), .int .i64 (0)]) (out := [.string (⟨#[65]⟩), .int .i64 (1), .int .i64 (0), .int .i64 (1), .int .i64 (3), .string (⟨#[66]⟩), .int .i64 (1), .int .i64 (0), .int .i64 (1), .int .i64 (3)]) (ys := [(S_api_UpkeepJob.mk (⟨#[65]⟩) 1 0 1 3), (S_api_UpkeepJob.mk (⟨#[66]⟩) 1 0 1 3)]) rfl rfl rfl ⟨rfl, rfl, trivial⟩ Proofs.Try.runUnderlying22 Proofs.Try.sizeOf51 rfl Proofs.Try.zeroValue51 (by kernel_rfl) rfl rfl rfl rfl ⟨[.string (⟨#[65]⟩), .int .i64 (1), .int .i64 (0), .int .i64 (1), .int .i64 (3)], [.string (⟨#[66]⟩), .int .i64 (1), .int .i64 (0), .int .i64 (1), .int .i64 (3)], rfl, rfl, ⟨[.string (⟨#[66]⟩), .int .i64 (1), .int .i64 (0), .int .i64 (1), .int .i64 (3)], [], rfl, rfl, rfl⟩⟩ rfl ?_
  intro v101 xs102 hr103
  refine W_buildArr (css := [[.int .i64 (0)], [.int .i64 (1)]]) (zs := [.int .i64 (0), .int .i64 (0)]) (out := [.int .i64 (0), .int .i64 (1)]) (places := [(0, 1), (1, 1)]) rfl rfl rfl ⟨rfl, rfl, trivial⟩ Proofs.Try.zeroValue59 rfl Proofs.Try.runUnderlying59 Proofs.Try.sizeOf3 rfl rfl ?_
  refine W_buildSliceO (α := S_A2_Int) (css := [[.int .i64 (0), .int .i64 (1)]]) (zs := [.int .i64 (0), .int .i64 (0)]) (out := [.int .i64 (0), .int .i64 (1)]) (ys := [(S_A2_Int.mk 0 1)]) rfl rfl rfl ⟨rfl, trivial⟩ Proofs.Try.runUnderlying23 Proofs.Try.sizeOf59 rfl Proofs.Try.zeroValue59 (by kernel_rfl) rfl rfl rfl rfl ⟨[.int .i64 (0), .int .i64 (1)], [], rfl, rfl, rfl⟩ rfl ?_
  intro v104 xs105 hr106
  refine W_build (css := [[v101], [v104], [.int .i64 (2)]]) (zs := [.slice none 0 0, .slice none 0 0, .int .i64 (0)]) (out := [v101, v104, .int .i64 (2)]) (places := [(0, 1), (1, 1), (2, 1)]) rfl rfl rfl ⟨(Rw.cells hr103), (Rw.cells hr106), rfl, trivial⟩ Proofs.Try.zeroValue25 rfl Proofs.Try.runUnderlying25 (fun w => by kernel_rfl) rfl ?_
  refine W_alloc (cs := [.slice none 0 0, .slice none 0 0, .int .i64 (0)]) rfl rfl Proofs.Try.zeroValue25 rfl (fun b107 => ?_)
  refine W_store (cs := [v101, v104, .int .i64 (2)]) (out := [v101, v104, .int .i64 (2)]) rfl Proofs.Try.sizeOf25 rfl rfl rfl rfl rfl (all_cons (Rw.one hr103) (all_cons (Rw.one hr106) (all_cons rfl all_nil))) (over_all rfl) ?_
  refine W_end ?_
  refine E_then ?_
  refine C_seq ?_
  refine C_region ?_
  refine W_loadAgg rfl rfl Proofs.Try.isAgg25 Proofs.Try.sizeOf25 rfl (own_all (List.mem_cons_self ..)) rfl ?_
  refine W_perm (List.Perm.trans (List.Perm.cons _ (List.Perm.swap _ _ _)) (List.Perm.swap _ _ _)) ?_
  refine W_freeze (hr103).rd rfl (fun H108 hle109 h110 => ?_)
  refine W_perm (List.Perm.swap _ _ _) ?_
  refine W_freeze ((hr106.mono hle109)).rd rfl (fun H111 hle112 h113 => ?_)
  obtain ⟨r114, hc115, hm⟩ := bind_some hm
  refine W_call Proofs.Try.call8 rfl rfl rfl (fun w ht => by have h := m_upkeep_Best_c (hm := hc115) (h110.mono hle112) h113 ht; exact h) ?_
  rintro _ H118 _ ⟨hle119, v116, rfl, rfl, h117⟩
  refine W_move rfl rfl rfl ?_
  refine W_extract rfl rfl rfl rfl ?_
  refine W_extract rfl rfl rfl rfl ?_
  refine W_extract rfl rfl rfl rfl ?_
  refine W_assign rfl rfl rfl ?_
  refine W_assign rfl rfl rfl ?_
  refine W_assign rfl rfl rfl ?_
  refine W_end ?_
  refine E_then ?_
  refine C_seq ?_
  refine C_region ?_
  refine W_move rfl rfl rfl ?_
  refine W_bin rfl rfl rfl rfl rfl ?_
  refine W_move rfl rfl rfl ?_
  cases hb120 : (decide (r114.2.2 = 0))
  · have hm := ite_f' hb120 hm
    refine W_no rfl rfl rfl ?_
    refine W_no rfl rfl rfl ?_
    refine W_pick rfl rfl rfl rfl ?_
    refine W_move rfl rfl rfl ?_
    refine W_no rfl rfl rfl ?_
    refine W_no rfl rfl rfl ?_
    refine W_no rfl rfl rfl ?_
    refine W_pick rfl rfl rfl rfl ?_
    refine W_assign rfl rfl rfl ?_
    refine W_end ?_
    refine E_then ?_
    refine C_ret ?_
    obtain rfl := Option.some.inj hm
    refine E_drop (List.Sublist.cons _ (List.Sublist.refl _)) ?_
    refine E_weak (Hp.le_trans (Hp.le_trans hle109 hle112) hle119) ?_
    exact end1 rfl rfl ⟨rfl, rfl, rfl⟩
  · have hm := ite_t' hb120 hm
    refine W_move rfl rfl rfl ?_
    refine W_bin rfl rfl rfl rfl rfl ?_
    refine W_pick rfl rfl rfl rfl ?_
    refine W_move rfl rfl rfl ?_
    cases hb121 : (decide (r114.2.1 = 3))
    · have hm := ite_f' hb121 hm
      refine W_no rfl rfl rfl ?_
      refine W_no rfl rfl rfl ?_
      refine W_no rfl rfl rfl ?_
      refine W_pick rfl rfl rfl rfl ?_
      refine W_assign rfl rfl rfl ?_
      refine W_end ?_
      refine E_then ?_
      refine C_ret ?_
      obtain rfl := Option.some.inj hm
      refine E_drop (List.Sublist.cons _ (List.Sublist.refl _)) ?_
      refine E_weak (Hp.le_trans (Hp.le_trans hle109 hle112) hle119) ?_
      exact end1 rfl rfl ⟨rfl, rfl, rfl⟩
    · have hm := ite_t' hb121 hm
      refine W_move rfl rfl rfl ?_
      refine W_buildSliceO (α := Int) (css := [[.int .i64 (0)], [.int .i64 (1)]]) (zs := [.int .i64 (0), .int .i64 (0)]) (out := [.int .i64 (0), .int .i64 (1)]) (ys := [0, 1]) rfl rfl rfl ⟨rfl, rfl, trivial⟩ Proofs.Try.runUnderlying27 Proofs.Try.sizeOf3 rfl Proofs.Try.zeroValue3 (by kernel_rfl) rfl rfl rfl rfl ⟨[.int .i64 (0)], [.int .i64 (1)], rfl, rfl, ⟨[.int .i64 (1)], [], rfl, rfl, rfl⟩⟩ rfl ?_
      intro v122 xs123 hr124
      obtain ⟨r125, hc126, hm⟩ := bind_some hm
      refine W_call Proofs.Try.call22 rfl rfl rfl (fun w ht => by obtain ⟨H0_, hl0_, ht0_, hr0_, bk0_⟩ := ht.lendRow hr124 rfl; have h := m_slices_Equal_int_int_c (hm := hc126) (h117.mono hl0_) hr0_ ht0_; exact lend_back bk0_ (h)) ?_
      rintro _ _ _ ⟨rfl, ⟨_, rfl, rfl, rfl⟩⟩
      refine W_pick rfl rfl rfl rfl ?_
      refine W_assign rfl rfl rfl ?_
      refine W_end ?_
      refine E_then ?_
      refine C_ret ?_
      obtain rfl := Option.some.inj hm
      refine E_drop (List.Sublist.cons _ (List.Sublist.cons _ (List.Sublist.refl _))) ?_
      refine E_weak (Hp.le_trans (Hp.le_trans hle109 hle112) hle119) ?_
      exact end1 rfl rfl ⟨rfl, rfl, rfl⟩
end Go.Sim
