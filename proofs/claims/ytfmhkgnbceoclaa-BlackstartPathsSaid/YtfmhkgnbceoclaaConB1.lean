/-
  Printed by a program: each Go function computes its model.
-/
import Derived.Test.YtfmhkgnbceoclaaModB
import Derived.Test.YtfmhkgnbceoclaaRows
import Derived.KernelRfl
namespace Go.Sim
open Go Go.Proofs.Try
set_option linter.unusedVariables false
set_option linter.unusedSimpArgs false
set_option maxRecDepth 100000
theorem Facts.mixed : Proofs.Try.prog.follows .mixedOrders = true := by kernel_rfl

theorem m_gridhallkeep4_cut_c {B : Nat} {w0 w : World} {H : Hp} {M : List Res} {p0_n : S_api_Network} {v0 : Value} {v1 : Value} {v2 : Value} {v3 : Value} {v4 : Value} {v5 : Value} {r : S_api_Network} (hm : m_gridhallkeep4_cut p0_n = some r) (h0 : RdS H v0 p0_n.Nodes) (h1 : RdS H v1 p0_n.Switches) (h2 : RdS H v2 p0_n.Branches) (h3 : RdS H v3 p0_n.Gens) (h4 : RdS H v4 p0_n.Loads) (h5 : RdS H v5 p0_n.Stores) (ht : St B w0 H (M) w) :
  Calls prog 6 [.agg [v0, v1, v2, v3, v4, v5].toArray].toArray w (Ret B w0 fun H' M' v => H.le H' ∧ ∃ qv0 : Value, ∃ qv1 : Value, ∃ qv2 : Value, ∃ qv3 : Value, ∃ qv4 : Value, ∃ qv5 : Value, M = M' ∧ .agg [qv0, qv1, qv2, qv3, qv4, qv5].toArray = v ∧ RdS H' qv0 r.Nodes ∧ RdS H' qv1 r.Switches ∧ RdS H' qv2 r.Branches ∧ RdS H' qv3 r.Gens ∧ RdS H' qv4 r.Loads ∧ RdS H' qv5 r.Stores) := by
 unfold m_gridhallkeep4_cut at hm
 refine enter func6 rfl rfl rfl ht ?_
 refine C_seq (C_region ?_)
 refine W_box (cs := [v0, v1, v2, v3, v4, v5]) rfl rfl rfl rfl (fun b101 => ?_)
 refine W_alloc (cs := [.slice none 0 0, .slice none 0 0, .slice none 0 0, .slice none 0 0, .slice none 0 0, .slice none 0 0]) rfl rfl zeroValue29 rfl (fun b102 => ?_)
 refine W_end (E_then (C_seq (C_region ?_)))
 refine W_field (o := 4) rfl rfl runUnderlying29 rfl sizeOf26 rfl rfl rfl ?_
 refine W_load rfl rfl isAgg26 rfl (own_at (List.mem_cons_of_mem _ (List.mem_cons_self ..)) rfl) ?_
 refine W_field (o := 4) rfl rfl runUnderlying29 rfl sizeOf26 rfl rfl rfl ?_
 refine W_load rfl rfl isAgg26 rfl (own_at (List.mem_cons_of_mem _ (List.mem_cons_self ..)) rfl) ?_
 refine W_lenR rfl rfl runUnderlying26 rfl h4 ?_
 refine W_min rfl rfl rfl rfl ?_
 obtain ⟨hz103, hm⟩ := need_some hm
 refine W_sliceR (α := S_api_Load) (l := 0) (h := (min (p0_n.Loads.length : Int) 4 : Int).toNat) (xs := p0_n.Loads) rfl rfl runUnderlying26 sizeOf93 rfl h4 (by omega) (by omega) (.inl rfl) (fun cap hcap => by rw [if_pos rfl]; exact (.inl ⟨rfl, rfl⟩)) (fun m hmm => (.inr ⟨_, _, _, rfl, rfl, by omega, by omega, rfl⟩)) (.inl ⟨rfl, rfl⟩) ?_
 intro v104 h105 hc106
 refine W_field (o := 4) rfl rfl runUnderlying29 rfl sizeOf26 rfl rfl rfl ?_
 refine W_perm (List.Perm.swap _ _ _) ?_
 refine W_store (cs := [v104]) (out := [v0, v1, v2, v3, v104, v5]) rfl sizeOf26 rfl rfl (RdS.cells h105) rfl rfl (all_cons (RdS.one1 h105) all_nil) rfl ?_
 refine W_end (E_then (C_seq (C_region ?_)))
 refine W_field (o := 3) rfl rfl runUnderlying29 rfl sizeOf25 rfl rfl rfl ?_
 refine W_load rfl rfl isAgg25 rfl (own_at (List.mem_cons_self ..) rfl) ?_
 refine W_field (o := 3) rfl rfl runUnderlying29 rfl sizeOf25 rfl rfl rfl ?_
 refine W_load rfl rfl isAgg25 rfl (own_at (List.mem_cons_self ..) rfl) ?_
 refine W_lenR rfl rfl runUnderlying25 rfl h3 ?_
 refine W_min rfl rfl rfl rfl ?_
 obtain ⟨hz107, hm⟩ := need_some hm
 refine W_sliceR (α := S_api_Gen) (l := 0) (h := (min (p0_n.Gens.length : Int) 4 : Int).toNat) (xs := p0_n.Gens) rfl rfl runUnderlying25 sizeOf46 rfl h3 (by omega) (by omega) (.inl rfl) (fun cap hcap => by rw [if_pos rfl]; exact (.inl ⟨rfl, rfl⟩)) (fun m hmm => (.inr ⟨_, _, _, rfl, rfl, by omega, by omega, rfl⟩)) (.inl ⟨rfl, rfl⟩) ?_
 intro v108 h109 hc110
 refine W_field (o := 3) rfl rfl runUnderlying29 rfl sizeOf25 rfl rfl rfl ?_
 refine W_store (cs := [v108]) (out := [v0, v1, v2, v108, v104, v5]) rfl sizeOf25 rfl rfl (RdS.cells h109) rfl rfl (all_cons (RdS.one1 h109) all_nil) rfl ?_
 refine W_end (E_then (C_seq (C_region ?_)))
 refine W_loadAgg rfl rfl isAgg29 sizeOf29 rfl (own_all (List.mem_cons_self ..)) rfl ?_
 refine W_perm (List.Perm.swap _ _ _) ?_
 refine W_store (cs := [v0, v1, v2, v108, v104, v5]) (out := [v0, v1, v2, v108, v104, v5]) rfl sizeOf29 rfl rfl rfl rfl rfl (all_cons (RdS.one1 h0) (all_cons (RdS.one1 h1) (all_cons (RdS.one1 h2) (all_cons (RdS.one1 h109) (all_cons (RdS.one1 h105) (all_cons (RdS.one1 h5) all_nil)))))) (over_all rfl) ?_
 refine W_end (E_then (C_ret ?_))
 obtain rfl := Option.some.inj hm
 exact endC1 (Hp.le_refl _) rfl (ResV.agg rfl isAgg29 sizeOf29 (List.mem_cons_self ..) rfl) (List.Sublist.cons _ (List.Sublist.cons _ (List.Sublist.refl _))) (List.Perm.refl _) ⟨(Hp.le_refl _), v0, v1, v2, v108, v104, v5, rfl, rfl, h0, h1, h2, h109, h105, h5⟩

theorem m_netmodel_Name_c {B : Nat} {w0 w : World} {H : Hp} {M : List Res} {p0_s : ByteArray} {r : Bool} (hm : m_netmodel_Name p0_s = some r) (ht : St B w0 H (M) w) :
  Calls prog 53 [.string (p0_s)].toArray w (Ret B w0 fun H' M' v => H = H' ∧ M = M' ∧ .bool (r) = v) := by
 unfold m_netmodel_Name at hm
 refine enter func53 rfl rfl rfl ht ?_
 refine C_seq (C_region ?_)
 refine W_assign rfl rfl rfl ?_
 refine W_end (E_then (C_seq (C_seq (C_region ?_))))
 refine W_move rfl rfl rfl ?_
 obtain ⟨hz101, hm⟩ := need_some hm
 refine W_convBytes rfl rfl runUnderlying9 runUnderlying118 runUnderlying5 rfl hz101 ?_
 intro v102 H103 hle104 h105
 refine W_lenR rfl rfl runUnderlying118 rfl h105 ?_
 refine W_move rfl rfl rfl ?_
 refine W_end (E_then (C_block ?_))
 refine C_keep (L' := [(0, .string (p0_s)), (6, v102), (7, .int .i64 (((bytesL p0_s).length : Int))), (8, .int .i64 (((0 : Nat) : Int)))]) ⟨rfl, rfl, rfl, rfl, trivial⟩ (List.Perm.refl _) ?_
 refine C_loop (fun n H' M' L' => ∃ (k106 : Nat) (zs144' : List U8), (bytesL p0_s).drop k106 = zs144' ∧ zs144'.length = n ∧ forI (fun k y s139 n => m_netmodel_Name_b1 k y n) (fun _ => some ((decide (1 ≤ (p0_s.size : Int))) && (decide ((p0_s.size : Int) ≤ 8)))) k106 zs144' () = some r ∧ H103.le H' ∧ M = M' ∧ [(0, .string (p0_s)), (6, v102), (7, .int .i64 (((bytesL p0_s).length : Int))), (8, .int .i64 ((k106 : Int)))] = L') _ ⟨0, _, rfl, rfl, hm, (Hp.le_refl _), rfl, rfl⟩ ?_
 rintro _ H137 _ _ ⟨k106, zs144', hd146, rfl, hm, hle138, rfl, rfl⟩
 refine C_seq (C_region ?_)
 refine W_bin rfl rfl rfl rfl rfl ?_
 refine W_end (E_then (C_seq ?_))
 refine C_cond (b := decide ((k106 : Int) < ((bytesL p0_s).length : Int))) rfl (fun hb148 => ?_) (fun hb148 => ?_)
 ·obtain ⟨y143, zs144, rfl, hy145, hd147⟩ := rng_t hd146 hb148
  have hm : m_netmodel_Name_b1 k106 y143 (forI (fun k y s139 n => m_netmodel_Name_b1 k y n) (fun _ => some ((decide (1 ≤ (p0_s.size : Int))) && (decide ((p0_s.size : Int) ≤ 8)))) (k106 + 1) zs144) = some r := hm
  generalize hn141 : forI (fun k y s139 n => m_netmodel_Name_b1 k y n) (fun _ => some ((decide (1 ≤ (p0_s.size : Int))) && (decide ((p0_s.size : Int) ≤ 8)))) (k106 + 1) zs144 = nx140 at hm
  unfold m_netmodel_Name_b1 at hm
  refine C_skip (E_then (C_seq (C_block (C_seq (C_region ?_)))))
  refine W_move rfl rfl rfl ?_
  obtain ⟨_, rfl, hc149⟩ := (h105).elem hy145
  refine W_indexS rfl rfl runUnderlying118 sizeOf5 rfl (h105.mono hle138) rfl (Int.natCast_nonneg _) hy145 ?_
  refine W_load rfl rfl isAgg5 rfl (HCells.one (hc149.mono hle138) 0 rfl).at ?_
  refine W_assign rfl rfl rfl ?_
  refine W_assign rfl rfl rfl ?_
  refine W_end (E_then ?_)
  refine C_seq_join (fun H' M' L' => H137 = H' ∧ M = M' ∧ [(0, .string (p0_s)), (6, v102), (7, .int .i64 (((bytesL p0_s).length : Int))), (8, .int .i64 ((k106 : Int))), (31, .bool (!(((decide (65 ≤ y143.n)) && (decide (y143.n ≤ 90))) || (((decide (0 < (k106 : Int))) && (decide (48 ≤ y143.n))) && (decide (y143.n ≤ 57))))))] = L') ?_ (fun J156 => ?_)
  ·rintro _ _ _ ⟨rfl, rfl, rfl⟩
   refine C_cond (b := !(((decide (65 ≤ y143.n)) && (decide (y143.n ≤ 90))) || (((decide (0 < (k106 : Int))) && (decide (48 ≤ y143.n))) && (decide (y143.n ≤ 57))))) rfl (fun hb157 => ?_) (fun hb157 => ?_)
   ·have hm := ite_t' hb157 hm
    refine C_seq (C_region ?_)
    refine W_assign rfl rfl rfl ?_
    refine W_end (E_then (C_ret (E_ret_block (E_ret_then (E_ret_then (E_ret_block (E_ret_then ?_)))))))
    obtain rfl := Option.some.inj hm
    refine E_weak (Hp.le_trans hle104 hle138) ?_
    exact end1 rfl rfl ⟨rfl, rfl, rfl⟩
   ·have hm := ite_f' hb157 hm
    refine C_skip (E_normal_block (E_then (C_region ?_)))
    refine W_bin rfl rfl rfl rfl rfl ?_
    refine W_move rfl rfl rfl ?_
    refine W_end ?_
    exact E_keepJ (E_back (Nat.lt_succ_self _) ⟨k106 + 1, zs144, hd147, rfl, (by rw [hn141]; exact hm), hle138, rfl, rfl⟩) (List.Perm.refl _) ⟨rfl, rfl, rfl, (congrArg (fun z => some (Value.int .i64 z)) (i64_succ hy145 ((h105.mono hle138)).lenMax)), trivial⟩
  ·refine C_region ?_
   refine W_move rfl rfl rfl ?_
   refine W_bin rfl rfl rfl rfl rfl ?_
   refine W_move rfl rfl rfl ?_
   cases hb158 : (decide (65 ≤ y143.n))
   ·refine W_no rfl rfl rfl ?_
    refine W_no rfl rfl rfl ?_
    refine W_pick rfl rfl rfl rfl ?_
    refine W_move rfl rfl rfl ?_
    refine W_move rfl rfl rfl ?_
    refine W_bin rfl rfl rfl rfl rfl ?_
    refine W_move rfl rfl rfl ?_
    cases hb159 : (decide (0 < (k106 : Int)))
    ·refine W_no rfl rfl rfl ?_
     refine W_no rfl rfl rfl ?_
     refine W_pick rfl rfl rfl rfl ?_
     refine W_move rfl rfl rfl ?_
     refine W_no rfl rfl rfl ?_
     refine W_no rfl rfl rfl ?_
     refine W_pick rfl rfl rfl rfl ?_
     refine W_pick rfl rfl rfl rfl ?_
     refine W_un rfl rfl rfl rfl ?_
     refine W_end ?_
     exact E_keepJ (J156 _ _ _ ⟨rfl, rfl, rfl⟩) (List.Perm.refl _) ⟨rfl, rfl, rfl, rfl, (by show some (Value.bool (true)) = some (Value.bool (!(((decide (65 ≤ y143.n)) && (decide (y143.n ≤ 90))) || (((decide (0 < (k106 : Int))) && (decide (48 ≤ y143.n))) && (decide (y143.n ≤ 57)))))); first | (simp only [hb158, hb159, Bool.and_true, Bool.true_and, Bool.false_and, Bool.and_false, Bool.or_true, Bool.true_or, Bool.or_false, Bool.false_or, Bool.not_true, Bool.not_false]; done) | (simp only [hb158, hb159]; first | done | simp only [Bool.and_true, Bool.true_and, Bool.false_and, Bool.and_false, Bool.or_true, Bool.true_or, Bool.or_false, Bool.false_or, Bool.not_true, Bool.not_false])), trivial⟩
    ·refine W_move rfl rfl rfl ?_
     refine W_bin rfl rfl rfl rfl rfl ?_
     refine W_pick rfl rfl rfl rfl ?_
     refine W_move rfl rfl rfl ?_
     cases hb160 : (decide (48 ≤ y143.n))
     ·refine W_no rfl rfl rfl ?_
      refine W_no rfl rfl rfl ?_
      refine W_pick rfl rfl rfl rfl ?_
      refine W_pick rfl rfl rfl rfl ?_
      refine W_un rfl rfl rfl rfl ?_
      refine W_end ?_
      exact E_keepJ (J156 _ _ _ ⟨rfl, rfl, rfl⟩) (List.Perm.refl _) ⟨rfl, rfl, rfl, rfl, (by show some (Value.bool (true)) = some (Value.bool (!(((decide (65 ≤ y143.n)) && (decide (y143.n ≤ 90))) || (((decide (0 < (k106 : Int))) && (decide (48 ≤ y143.n))) && (decide (y143.n ≤ 57)))))); first | (simp only [hb158, hb159, hb160, Bool.and_true, Bool.true_and, Bool.false_and, Bool.and_false, Bool.or_true, Bool.true_or, Bool.or_false, Bool.false_or, Bool.not_true, Bool.not_false]; done) | (simp only [hb158, hb159, hb160]; first | done | simp only [Bool.and_true, Bool.true_and, Bool.false_and, Bool.and_false, Bool.or_true, Bool.true_or, Bool.or_false, Bool.false_or, Bool.not_true, Bool.not_false])), trivial⟩
     ·refine W_move rfl rfl rfl ?_
      refine W_bin rfl rfl rfl rfl rfl ?_
      refine W_pick rfl rfl rfl rfl ?_
      refine W_pick rfl rfl rfl rfl ?_
      refine W_un rfl rfl rfl rfl ?_
      refine W_end ?_
      exact E_keepJ (J156 _ _ _ ⟨rfl, rfl, rfl⟩) (List.Perm.refl _) ⟨rfl, rfl, rfl, rfl, (by show some (Value.bool (!(decide (y143.n ≤ 57)))) = some (Value.bool (!(((decide (65 ≤ y143.n)) && (decide (y143.n ≤ 90))) || (((decide (0 < (k106 : Int))) && (decide (48 ≤ y143.n))) && (decide (y143.n ≤ 57)))))); first | (simp only [hb158, hb159, hb160, Bool.and_true, Bool.true_and, Bool.false_and, Bool.and_false, Bool.or_true, Bool.true_or, Bool.or_false, Bool.false_or, Bool.not_true, Bool.not_false]; done) | (simp only [hb158, hb159, hb160]; first | done | simp only [Bool.and_true, Bool.true_and, Bool.false_and, Bool.and_false, Bool.or_true, Bool.true_or, Bool.or_false, Bool.false_or, Bool.not_true, Bool.not_false])), trivial⟩
   ·refine W_move rfl rfl rfl ?_
    refine W_bin rfl rfl rfl rfl rfl ?_
    refine W_pick rfl rfl rfl rfl ?_
    refine W_move rfl rfl rfl ?_
    cases hb161 : (decide (y143.n ≤ 90))
    ·refine W_move rfl rfl rfl ?_
     refine W_bin rfl rfl rfl rfl rfl ?_
     refine W_move rfl rfl rfl ?_
     cases hb162 : (decide (0 < (k106 : Int)))
     ·refine W_no rfl rfl rfl ?_
      refine W_no rfl rfl rfl ?_
      refine W_pick rfl rfl rfl rfl ?_
      refine W_move rfl rfl rfl ?_
      refine W_no rfl rfl rfl ?_
      refine W_no rfl rfl rfl ?_
      refine W_pick rfl rfl rfl rfl ?_
      refine W_pick rfl rfl rfl rfl ?_
      refine W_un rfl rfl rfl rfl ?_
      refine W_end ?_
      exact E_keepJ (J156 _ _ _ ⟨rfl, rfl, rfl⟩) (List.Perm.refl _) ⟨rfl, rfl, rfl, rfl, (by show some (Value.bool (true)) = some (Value.bool (!(((decide (65 ≤ y143.n)) && (decide (y143.n ≤ 90))) || (((decide (0 < (k106 : Int))) && (decide (48 ≤ y143.n))) && (decide (y143.n ≤ 57)))))); first | (simp only [hb158, hb161, hb162, Bool.and_true, Bool.true_and, Bool.false_and, Bool.and_false, Bool.or_true, Bool.true_or, Bool.or_false, Bool.false_or, Bool.not_true, Bool.not_false]; done) | (simp only [hb158, hb161, hb162]; first | done | simp only [Bool.and_true, Bool.true_and, Bool.false_and, Bool.and_false, Bool.or_true, Bool.true_or, Bool.or_false, Bool.false_or, Bool.not_true, Bool.not_false])), trivial⟩
     ·refine W_move rfl rfl rfl ?_
      refine W_bin rfl rfl rfl rfl rfl ?_
      refine W_pick rfl rfl rfl rfl ?_
      refine W_move rfl rfl rfl ?_
      cases hb163 : (decide (48 ≤ y143.n))
      ·refine W_no rfl rfl rfl ?_
       refine W_no rfl rfl rfl ?_
       refine W_pick rfl rfl rfl rfl ?_
       refine W_pick rfl rfl rfl rfl ?_
       refine W_un rfl rfl rfl rfl ?_
       refine W_end ?_
       exact E_keepJ (J156 _ _ _ ⟨rfl, rfl, rfl⟩) (List.Perm.refl _) ⟨rfl, rfl, rfl, rfl, (by show some (Value.bool (true)) = some (Value.bool (!(((decide (65 ≤ y143.n)) && (decide (y143.n ≤ 90))) || (((decide (0 < (k106 : Int))) && (decide (48 ≤ y143.n))) && (decide (y143.n ≤ 57)))))); first | (simp only [hb158, hb161, hb162, hb163, Bool.and_true, Bool.true_and, Bool.false_and, Bool.and_false, Bool.or_true, Bool.true_or, Bool.or_false, Bool.false_or, Bool.not_true, Bool.not_false]; done) | (simp only [hb158, hb161, hb162, hb163]; first | done | simp only [Bool.and_true, Bool.true_and, Bool.false_and, Bool.and_false, Bool.or_true, Bool.true_or, Bool.or_false, Bool.false_or, Bool.not_true, Bool.not_false])), trivial⟩
      ·refine W_move rfl rfl rfl ?_
       refine W_bin rfl rfl rfl rfl rfl ?_
       refine W_pick rfl rfl rfl rfl ?_
       refine W_pick rfl rfl rfl rfl ?_
       refine W_un rfl rfl rfl rfl ?_
       refine W_end ?_
       exact E_keepJ (J156 _ _ _ ⟨rfl, rfl, rfl⟩) (List.Perm.refl _) ⟨rfl, rfl, rfl, rfl, (by show some (Value.bool (!(decide (y143.n ≤ 57)))) = some (Value.bool (!(((decide (65 ≤ y143.n)) && (decide (y143.n ≤ 90))) || (((decide (0 < (k106 : Int))) && (decide (48 ≤ y143.n))) && (decide (y143.n ≤ 57)))))); first | (simp only [hb158, hb161, hb162, hb163, Bool.and_true, Bool.true_and, Bool.false_and, Bool.and_false, Bool.or_true, Bool.true_or, Bool.or_false, Bool.false_or, Bool.not_true, Bool.not_false]; done) | (simp only [hb158, hb161, hb162, hb163]; first | done | simp only [Bool.and_true, Bool.true_and, Bool.false_and, Bool.and_false, Bool.or_true, Bool.true_or, Bool.or_false, Bool.false_or, Bool.not_true, Bool.not_false])), trivial⟩
    ·refine W_no rfl rfl rfl ?_
     refine W_no rfl rfl rfl ?_
     refine W_no rfl rfl rfl ?_
     refine W_no rfl rfl rfl ?_
     refine W_no rfl rfl rfl ?_
     refine W_no rfl rfl rfl ?_
     refine W_no rfl rfl rfl ?_
     refine W_no rfl rfl rfl ?_
     refine W_no rfl rfl rfl ?_
     refine W_no rfl rfl rfl ?_
     refine W_pick rfl rfl rfl rfl ?_
     refine W_un rfl rfl rfl rfl ?_
     refine W_end ?_
     exact E_keepJ (J156 _ _ _ ⟨rfl, rfl, rfl⟩) (List.Perm.refl _) ⟨rfl, rfl, rfl, rfl, (by show some (Value.bool (false)) = some (Value.bool (!(((decide (65 ≤ y143.n)) && (decide (y143.n ≤ 90))) || (((decide (0 < (k106 : Int))) && (decide (48 ≤ y143.n))) && (decide (y143.n ≤ 57)))))); first | (simp only [hb158, hb161, Bool.and_true, Bool.true_and, Bool.false_and, Bool.and_false, Bool.or_true, Bool.true_or, Bool.or_false, Bool.false_or, Bool.not_true, Bool.not_false]; done) | (simp only [hb158, hb161]; first | done | simp only [Bool.and_true, Bool.true_and, Bool.false_and, Bool.and_false, Bool.or_true, Bool.true_or, Bool.or_false, Bool.false_or, Bool.not_true, Bool.not_false])), trivial⟩
 ·obtain rfl := rng_f hd146 hb148
  have hm : (some ((decide (1 ≤ (p0_s.size : Int))) && (decide ((p0_s.size : Int) ≤ 8)))) = some r := hm
  refine C_exit (E_exit_then (E_exit_then (E_exit_hit (E_then ?_))))
  refine C_seq_join (fun H' M' L' => H137 = H' ∧ M = M' ∧ [(2, .bool ((decide (1 ≤ (p0_s.size : Int))) && (decide ((p0_s.size : Int) ≤ 8))))] = L') ?_ (fun J165 => ?_)
  ·rintro _ _ _ ⟨rfl, rfl, rfl⟩
   refine C_ret ?_
   obtain rfl := Option.some.inj hm
   refine E_weak (Hp.le_trans hle104 hle138) ?_
   exact end1 rfl rfl ⟨rfl, rfl, rfl⟩
  ·refine C_region ?_
   refine W_move rfl rfl rfl ?_
   refine W_lenStr rfl rfl runUnderlying9 rfl ?_
   refine W_bin rfl rfl rfl rfl rfl ?_
   refine W_move rfl rfl rfl ?_
   cases hb166 : (decide (1 ≤ (p0_s.size : Int)))
   ·refine W_no rfl rfl rfl ?_
    refine W_no rfl rfl rfl ?_
    refine W_no rfl rfl rfl ?_
    refine W_pick rfl rfl rfl rfl ?_
    refine W_assign rfl rfl rfl ?_
    refine W_end ?_
    exact E_keepJ (J165 _ _ _ ⟨rfl, rfl, rfl⟩) (List.Perm.refl _) ⟨(by show some (Value.bool (false)) = some (Value.bool ((decide (1 ≤ (p0_s.size : Int))) && (decide ((p0_s.size : Int) ≤ 8)))); first | (simp only [hb166, Bool.and_true, Bool.true_and, Bool.false_and, Bool.and_false, Bool.or_true, Bool.true_or, Bool.or_false, Bool.false_or, Bool.not_true, Bool.not_false]; done) | (simp only [hb166]; first | done | simp only [Bool.and_true, Bool.true_and, Bool.false_and, Bool.and_false, Bool.or_true, Bool.true_or, Bool.or_false, Bool.false_or, Bool.not_true, Bool.not_false])), trivial⟩
   ·refine W_move rfl rfl rfl ?_
    refine W_lenStr rfl rfl runUnderlying9 rfl ?_
    refine W_bin rfl rfl rfl rfl rfl ?_
    refine W_pick rfl rfl rfl rfl ?_
    refine W_assign rfl rfl rfl ?_
    refine W_end ?_
    exact E_keepJ (J165 _ _ _ ⟨rfl, rfl, rfl⟩) (List.Perm.refl _) ⟨(by show some (Value.bool (decide ((p0_s.size : Int) ≤ 8))) = some (Value.bool ((decide (1 ≤ (p0_s.size : Int))) && (decide ((p0_s.size : Int) ≤ 8)))); first | (simp only [hb166, Bool.and_true, Bool.true_and, Bool.false_and, Bool.and_false, Bool.or_true, Bool.true_or, Bool.or_false, Bool.false_or, Bool.not_true, Bool.not_false]; done) | (simp only [hb166]; first | done | simp only [Bool.and_true, Bool.true_and, Bool.false_and, Bool.and_false, Bool.or_true, Bool.true_or, Bool.or_false, Bool.false_or, Bool.not_true, Bool.not_false])), trivial⟩

theorem m_slices_Index_string_string_c {B : Nat} {w0 w : World} {H : Hp} {M : List Res} {p0_s : (List ByteArray)} {p1_v : ByteArray} {v0 : Value} {r : Int} (hm : m_slices_Index_string_string p0_s p1_v = some r) (h0 : RdS H v0 p0_s) (ht : St B w0 H (M) w) :
  Calls prog 31 [v0, .string (p1_v)].toArray w (Ret B w0 fun H' M' v => H = H' ∧ M = M' ∧ .int .i64 (r) = v) := by
 unfold m_slices_Index_string_string at hm
 refine enter func31 rfl rfl rfl ht ?_
 refine C_seq (C_region ?_)
 refine W_assign rfl rfl rfl ?_
 refine W_end (E_then (C_seq (C_seq (C_region ?_))))
 refine W_move rfl rfl rfl ?_
 refine W_lenR rfl rfl runUnderlying22 rfl h0 ?_
 refine W_move rfl rfl rfl ?_
 refine W_end (E_then (C_block ?_))
 refine C_keep (L' := [(0, v0), (1, .string (p1_v)), (7, .int .i64 ((p0_s.length : Int))), (8, .int .i64 (((0 : Nat) : Int)))]) ⟨rfl, rfl, rfl, rfl, trivial⟩ (List.Perm.refl _) ?_
 refine C_loop (fun n H' M' L' => ∃ (k101 : Nat) (zs119' : Nat), k101 + zs119' = ((p0_s.length : Int) : Int).toNat ∧ zs119' = n ∧ forN (fun k s114 n => m_slices_Index_string_string_b1 p0_s p1_v k n) (fun _ => some (-1)) zs119' k101 () = some r ∧ H.le H' ∧ M = M' ∧ [(0, v0), (1, .string (p1_v)), (7, .int .i64 ((p0_s.length : Int))), (8, .int .i64 ((k101 : Int)))] = L') _ ⟨0, _, Nat.zero_add _, rfl, hm, (Hp.le_refl _), rfl, rfl⟩ ?_
 rintro _ H112 _ _ ⟨k101, zs119', hd121, rfl, hm, hle113, rfl, rfl⟩
 refine C_seq (C_region ?_)
 refine W_bin rfl rfl rfl rfl rfl ?_
 refine W_end (E_then (C_seq ?_))
 refine C_cond (b := decide ((k101 : Int) < (p0_s.length : Int))) rfl (fun hb123 => ?_) (fun hb123 => ?_)
 ·obtain ⟨zs119, rfl, hd122, hy120⟩ := rngN_t hd121 hb123
  have hm : m_slices_Index_string_string_b1 p0_s p1_v k101 (forN (fun k s114 n => m_slices_Index_string_string_b1 p0_s p1_v k n) (fun _ => some (-1)) zs119 (k101 + 1)) = some r := hm
  generalize hn116 : forN (fun k s114 n => m_slices_Index_string_string_b1 p0_s p1_v k n) (fun _ => some (-1)) zs119 (k101 + 1) = nx115 at hm
  unfold m_slices_Index_string_string_b1 at hm
  refine C_skip (E_then (C_seq (C_block (C_seq (C_region ?_)))))
  refine W_move rfl rfl rfl ?_
  refine W_assign rfl rfl rfl ?_
  refine W_end (E_then (C_seq (C_region ?_)))
  refine W_move rfl rfl rfl ?_
  refine W_move rfl rfl rfl ?_
  refine W_move rfl rfl rfl ?_
  obtain ⟨y124, h125, he126, hm⟩ := idx_some hm
  obtain ⟨_, rfl, hc127⟩ := (h0).elem he126
  refine W_indexS rfl rfl runUnderlying22 sizeOf9 rfl (h0.mono hle113) rfl h125 he126 ?_
  refine W_load rfl rfl isAgg9 rfl (HCells.one (hc127.mono hle113) 0 rfl).at ?_
  refine W_bin rfl rfl rfl rfl rfl ?_
  refine W_end (E_then ?_)
  refine C_cond (b := decide (p1_v = y124)) rfl (fun hb128 => ?_) (fun hb128 => ?_)
  ·have hm := ite_t' hb128 hm
   refine C_seq (C_region ?_)
   refine W_move rfl rfl rfl ?_
   refine W_assign rfl rfl rfl ?_
   refine W_end (E_then (C_ret (E_ret_block (E_ret_then (E_ret_then (E_ret_block (E_ret_then ?_)))))))
   obtain rfl := Option.some.inj hm
   refine E_weak hle113 ?_
   exact end1 rfl rfl ⟨rfl, rfl, rfl⟩
  ·have hm := ite_f' hb128 hm
   refine C_skip (E_normal_block (E_then (C_region ?_)))
   refine W_bin rfl rfl rfl rfl rfl ?_
   refine W_move rfl rfl rfl ?_
   refine W_end ?_
   exact E_keepJ (E_back (Nat.lt_succ_self _) ⟨k101 + 1, zs119, hd122, rfl, (by rw [hn116]; exact hm), hle113, rfl, rfl⟩) (List.Perm.refl _) ⟨rfl, rfl, rfl, (congrArg (fun z => some (Value.int .i64 z)) (i64_succN hy120 (toNat_max (len_max (h0).lenMax)))), trivial⟩
 ·obtain rfl := rngN_f hd121 hb123
  have hm : (some (-1)) = some r := hm
  refine C_exit (E_exit_then (E_exit_then (E_exit_hit (E_then (C_seq (C_region ?_))))))
  refine W_assign rfl rfl rfl ?_
  refine W_end (E_then (C_ret ?_))
  obtain rfl := Option.some.inj hm
  refine E_weak hle113 ?_
  exact end1 rfl rfl ⟨rfl, rfl, rfl⟩

theorem m_slices_Contains_string_string_c {B : Nat} {w0 w : World} {H : Hp} {M : List Res} {p0_s : (List ByteArray)} {p1_v : ByteArray} {v0 : Value} {r : Bool} (hm : m_slices_Contains_string_string p0_s p1_v = some r) (h0 : RdS H v0 p0_s) (ht : St B w0 H (M) w) :
  Calls prog 24 [v0, .string (p1_v)].toArray w (Ret B w0 fun H' M' v => H = H' ∧ M = M' ∧ .bool (r) = v) := by
 unfold m_slices_Contains_string_string at hm
 refine enter func24 rfl rfl rfl ht ?_
 refine C_seq (C_region ?_)
 refine W_assign rfl rfl rfl ?_
 refine W_end (E_then (C_seq (C_region ?_)))
 refine W_move rfl rfl rfl ?_
 refine W_move rfl rfl rfl ?_
 obtain ⟨r101, hc102, hm⟩ := bind_some hm
 refine W_call call31 rfl rfl rfl (fun w ht => by have h := m_slices_Index_string_string_c (hm := hc102) h0 ht; exact h) ?_
 rintro _ _ _ ⟨rfl, rfl, rfl⟩
 refine W_bin rfl rfl rfl rfl rfl ?_
 refine W_assign rfl rfl rfl ?_
 refine W_end (E_then (C_ret ?_))
 obtain rfl := Option.some.inj hm
 refine E_weak (Hp.le_refl _) ?_
 exact end1 rfl rfl ⟨rfl, rfl, rfl⟩

theorem m_netmodel_checker_device_c {B : Nat} {w0 w : World} {H : Hp} {M : List Res} {p0_c : S_netmodel_checker} {name : ByteArray} {nodes : (List ByteArray)} {b0 : Nat} {es0 : Array MapEntry} {c0 : Nat} {v0 : Value} {v1 : Value} {r : Int × S_netmodel_checker} (hm : m_netmodel_checker_device p0_c name nodes = some r) (h0 : MapR es0 p0_c.seen) (h1 : RdS H v0 p0_c.nodes) (h2 : RdS H v1 nodes) (ht : St B w0 H (.obj b0 (.map es0 c0) :: M) w) :
  Calls prog 33 [.agg [.map (some b0), v0].toArray, .string (name), v1].toArray w (Ret B w0 fun H' M' v => H.le H' ∧ ∃ qes0 : Array MapEntry, ∃ qc0 : Nat, ∃ qv0 : Value, .obj b0 (.map qes0 qc0) :: M = M' ∧ .int .i64 (r.1) = v ∧ MapR qes0 r.2.seen ∧ RdS H' qv0 r.2.nodes) := by
 unfold m_netmodel_checker_device at hm
 refine enter func33 rfl rfl rfl ht ?_
 refine C_seq (C_region ?_)
 refine W_box (cs := [.map (some b0), v0]) rfl rfl rfl rfl (fun b101 => ?_)
 refine W_assign rfl rfl rfl ?_
 refine W_end (E_then (C_seq (C_block (C_seq (C_region ?_)))))
 refine W_move rfl rfl rfl ?_
 obtain ⟨r102, hc103, hm⟩ := bind_some hm
 refine W_call call53 rfl rfl rfl (fun w ht => by have h := m_netmodel_Name_c (hm := hc103)  ht; exact h) ?_
 rintro _ _ _ ⟨rfl, rfl, rfl⟩
 refine W_un rfl rfl rfl rfl ?_
 refine W_assign rfl rfl rfl ?_
 refine W_end (E_then ?_)
 refine C_cond (b := !r102) rfl (fun hb104 => ?_) (fun hb104 => ?_)
 ·have hm := ite_t' hb104 hm
  refine C_seq (C_region ?_)
  refine W_assign rfl rfl rfl ?_
  refine W_end (E_then (C_ret (E_ret_block (E_ret_then ?_))))
  obtain rfl := Option.some.inj hm
  refine E_drop (List.Sublist.cons _ (List.Sublist.refl _)) ?_
  exact end1 rfl rfl ⟨(Hp.le_refl _), es0, c0, v0, rfl, rfl, h0, h1⟩
 ·have hm := ite_f' hb104 hm
  refine C_seq (C_region ?_)
  refine W_field (o := 0) rfl rfl runUnderlying80 rfl sizeOf78 rfl rfl rfl ?_
  refine W_load rfl rfl isAgg78 rfl (own_at (List.mem_cons_self ..) rfl) ?_
  refine W_move rfl rfl rfl ?_
  refine W_lookup (z := false) (k := name) (List.mem_cons_of_mem _ (List.mem_cons_self ..)) h0 rfl rfl runUnderlying78 runUnderlying9 zeroValue4 rfl rfl rfl rfl ?_
  refine W_assign rfl rfl rfl ?_
  refine W_end (E_then ?_)
  refine C_cond (b := (mget p0_c.seen name).getD false) rfl (fun hb105 => ?_) (fun hb105 => ?_)
  ·have hm := ite_t' hb105 hm
   refine C_seq (C_region ?_)
   refine W_assign rfl rfl rfl ?_
   refine W_end (E_then (C_ret (E_ret_block (E_ret_then ?_))))
   obtain rfl := Option.some.inj hm
   refine E_drop (List.Sublist.cons _ (List.Sublist.refl _)) ?_
   exact end1 rfl rfl ⟨(Hp.le_refl _), es0, c0, v0, rfl, rfl, h0, h1⟩
  ·have hm := ite_f' hb105 hm
   refine C_skip (E_normal_block (E_then (C_seq (C_region ?_))))
   refine W_field (o := 0) rfl rfl runUnderlying80 rfl sizeOf78 rfl rfl rfl ?_
   refine W_load rfl rfl isAgg78 rfl (own_at (List.mem_cons_self ..) rfl) ?_
   refine W_move rfl rfl rfl ?_
   refine W_perm (List.Perm.swap _ _ _) ?_
   refine W_mapUpdate (k := name) (v := true) h0 rfl runUnderlying78 runUnderlying9 rfl rfl rfl rfl rfl ?_
   intro es106 cl107 hm108
   refine W_end (E_then (C_seq (C_seq (C_region ?_))))
   refine W_move rfl rfl rfl ?_
   refine W_lenR rfl rfl runUnderlying22 rfl h2 ?_
   refine W_move rfl rfl rfl ?_
   refine W_end (E_then (C_block ?_))
   refine C_keep (L' := [(2, v1), (3, .pointer (some ⟨b101, 0, none⟩)), (21, v1), (22, .int .i64 ((nodes.length : Int))), (23, .int .i64 (((0 : Nat) : Int)))]) ⟨rfl, rfl, rfl, rfl, rfl, trivial⟩ (List.Perm.refl _) ?_
   refine C_loop (fun n H' M' L' => ∃ (k109 : Nat) (zs125' : List ByteArray), (nodes).drop k109 = zs125' ∧ zs125'.length = n ∧ forI (fun k y s120 n => m_netmodel_checker_device_b1 p0_c name nodes k y n) (fun _ => if decide ((nodes.length : Int) = 2) then (idx nodes 0 fun y137 => idx nodes 1 fun y141 => if decide (y137 = y141) then (some (3, (S_netmodel_checker.mk (mput p0_c.seen name true) p0_c.nodes))) else (some (0, (S_netmodel_checker.mk (mput p0_c.seen name true) p0_c.nodes)))) else (some (0, (S_netmodel_checker.mk (mput p0_c.seen name true) p0_c.nodes)))) k109 zs125' () = some r ∧ H.le H' ∧ .obj b0 (.map es106 cl107) :: .obj b101 (.cells [.map (some b0), v0].toArray 80 (0, 0)) :: M = M' ∧ [(2, v1), (3, .pointer (some ⟨b101, 0, none⟩)), (21, v1), (22, .int .i64 ((nodes.length : Int))), (23, .int .i64 ((k109 : Int)))] = L') _ ⟨0, _, rfl, rfl, hm, (Hp.le_refl _), rfl, rfl⟩ ?_
   rintro _ H118 _ _ ⟨k109, zs125', hd127, rfl, hm, hle119, rfl, rfl⟩
   refine C_seq (C_region ?_)
   refine W_bin rfl rfl rfl rfl rfl ?_
   refine W_end (E_then (C_seq ?_))
   refine C_cond (b := decide ((k109 : Int) < (nodes.length : Int))) rfl (fun hb129 => ?_) (fun hb129 => ?_)
   ·obtain ⟨y124, zs125, rfl, hy126, hd128⟩ := rng_t hd127 hb129
    have hm : m_netmodel_checker_device_b1 p0_c name nodes k109 y124 (forI (fun k y s120 n => m_netmodel_checker_device_b1 p0_c name nodes k y n) (fun _ => if decide ((nodes.length : Int) = 2) then (idx nodes 0 fun y137 => idx nodes 1 fun y141 => if decide (y137 = y141) then (some (3, (S_netmodel_checker.mk (mput p0_c.seen name true) p0_c.nodes))) else (some (0, (S_netmodel_checker.mk (mput p0_c.seen name true) p0_c.nodes)))) else (some (0, (S_netmodel_checker.mk (mput p0_c.seen name true) p0_c.nodes)))) (k109 + 1) zs125) = some r := hm
    generalize hn122 : forI (fun k y s120 n => m_netmodel_checker_device_b1 p0_c name nodes k y n) (fun _ => if decide ((nodes.length : Int) = 2) then (idx nodes 0 fun y137 => idx nodes 1 fun y141 => if decide (y137 = y141) then (some (3, (S_netmodel_checker.mk (mput p0_c.seen name true) p0_c.nodes))) else (some (0, (S_netmodel_checker.mk (mput p0_c.seen name true) p0_c.nodes)))) else (some (0, (S_netmodel_checker.mk (mput p0_c.seen name true) p0_c.nodes)))) (k109 + 1) zs125 = nx121 at hm
    unfold m_netmodel_checker_device_b1 at hm
    refine C_skip (E_then (C_seq (C_block (C_seq (C_region ?_)))))
    obtain ⟨_, rfl, hc130⟩ := (h2).elem hy126
    refine W_indexS rfl rfl runUnderlying22 sizeOf9 rfl (h2.mono hle119) rfl (Int.natCast_nonneg _) hy126 ?_
    refine W_load rfl rfl isAgg9 rfl (HCells.one (hc130.mono hle119) 0 rfl).at ?_
    refine W_assign rfl rfl rfl ?_
    refine W_end (E_then (C_seq (C_region ?_)))
    refine W_field (o := 1) rfl rfl runUnderlying80 rfl sizeOf22 rfl rfl rfl ?_
    refine W_load rfl rfl isAgg22 rfl (own_at (List.mem_cons_of_mem _ (List.mem_cons_self ..)) rfl) ?_
    refine W_move rfl rfl rfl ?_
    obtain ⟨r131, hc132, hm⟩ := bind_some hm
    refine W_call call24 rfl rfl rfl (fun w ht => by have h := m_slices_Contains_string_string_c (hm := hc132) (h1.mono hle119) ht; exact h) ?_
    rintro _ _ _ ⟨rfl, rfl, rfl⟩
    refine W_un rfl rfl rfl rfl ?_
    refine W_end (E_then ?_)
    refine C_cond (b := !r131) rfl (fun hb133 => ?_) (fun hb133 => ?_)
    ·have hm := ite_t' hb133 hm
     refine C_seq (C_region ?_)
     refine W_assign rfl rfl rfl ?_
     refine W_end (E_then (C_ret (E_ret_block (E_ret_then (E_ret_then (E_ret_block (E_ret_then ?_)))))))
     obtain rfl := Option.some.inj hm
     refine E_drop (List.Sublist.cons_cons _ (List.Sublist.cons _ (List.Sublist.refl _))) ?_
     exact end1 rfl rfl ⟨hle119, es106, cl107, v0, rfl, rfl, hm108, (h1.mono hle119)⟩
    ·have hm := ite_f' hb133 hm
     refine C_skip (E_normal_block (E_then (C_region ?_)))
     refine W_bin rfl rfl rfl rfl rfl ?_
     refine W_move rfl rfl rfl ?_
     refine W_end ?_
     exact E_keepJ (E_back (Nat.lt_succ_self _) ⟨k109 + 1, zs125, hd128, rfl, (by rw [hn122]; exact hm), hle119, rfl, rfl⟩) (List.Perm.refl _) ⟨rfl, rfl, rfl, rfl, (congrArg (fun z => some (Value.int .i64 z)) (i64_succ hy126 ((h2.mono hle119)).lenMax)), trivial⟩
   ·obtain rfl := rng_f hd127 hb129
    have hm : (if decide ((nodes.length : Int) = 2) then (idx nodes 0 fun y137 => idx nodes 1 fun y141 => if decide (y137 = y141) then (some (3, (S_netmodel_checker.mk (mput p0_c.seen name true) p0_c.nodes))) else (some (0, (S_netmodel_checker.mk (mput p0_c.seen name true) p0_c.nodes)))) else (some (0, (S_netmodel_checker.mk (mput p0_c.seen name true) p0_c.nodes)))) = some r := hm
    refine C_exit (E_exit_then (E_exit_then (E_exit_hit (E_then (C_seq (C_seq ?_))))))
    cases hb134 : (decide ((nodes.length : Int) = 2))
    ·have hm := ite_f' hb134 hm
     refine C_region_tok0 10 (phiT [(fun H rs v => [] = rs ∧ v1 = v), (fun H rs v => [] = rs ∧ .int .i64 ((nodes.length : Int)) = v), (fun H rs v => [] = rs ∧ .bool (false) = v), (fun H rs v => [] = rs ∧ .bool (false) = v), (fun H rs v => [] = rs ∧ undef = v), (fun H rs v => [] = rs ∧ undef = v), (fun H rs v => [] = rs ∧ undef = v), (fun H rs v => [] = rs ∧ undef = v), (fun H rs v => [] = rs ∧ undef = v), (fun H rs v => [] = rs ∧ undef = v)]) [[], [], [], [], [], [], [], [], [], []] [[], [], [], [], [], [], [], [], [], []] [] [0, 1, 2, 3, 4, 5, 6, 7, 8, 9] Facts.mixed (by kernel_rfl) (by rfl) (by rfl) (by rfl) (by kernel_rfl) (phiT_mono ⟨eq_monoT _ _, eq_monoT _ _, eq_monoT _ _, eq_monoT _ _, eq_monoT _ _, eq_monoT _ _, eq_monoT _ _, eq_monoT _ _, eq_monoT _ _, eq_monoT _ _, trivial⟩) ⟨?_, ?_, ?_, ?_, ?_, ?_, ?_, ?_, ?_, ?_, trivial⟩ ?_
     ·intro HX hX X Rest hR
      intro hU hUp
      refine W_move rfl rfl rfl ?_
      exact W_end (OneT_end [] (Hp.le_refl _) ⟨rfl, rfl⟩)
     ·intro HX hX X Rest hR
      rintro _ _ ⟨rfl, rfl⟩
      intro hU hUp
      refine W_lenR rfl rfl runUnderlying22 rfl ((h2.mono hle119).mono hX) ?_
      exact W_end (OneT_end [] (Hp.le_refl _) ⟨rfl, rfl⟩)
     ·intro HX hX X Rest hR
      rintro _ _ ⟨rfl, rfl⟩
      intro hU hUp
      refine W_bin rfl rfl rfl rfl rfl ?_
      exact W_end (OneT_end [] (Hp.le_refl _) ⟨rfl, (by first | rfl | (rw [hb134]; try rfl))⟩)
     ·intro HX hX X Rest hR
      rintro _ _ ⟨rfl, rfl⟩
      intro hU hUp
      refine W_move rfl rfl rfl ?_
      exact W_end (OneT_end [] (Hp.le_refl _) ⟨rfl, rfl⟩)
     ·intro HX hX X Rest hR
      rintro _ _ ⟨rfl, rfl⟩
      intro hU hUp
      refine W_no rfl rfl rfl ?_
      exact W_end (OneT_end [] (Hp.le_refl _) ⟨rfl, rfl⟩)
     ·intro HX hX X Rest hR
      rintro _ _ ⟨rfl, rfl⟩
      rintro _ _ ⟨rfl, rfl⟩
      intro hU hUp
      refine W_no rfl rfl rfl ?_
      exact W_end (OneT_end [] (Hp.le_refl _) ⟨rfl, rfl⟩)
     ·intro HX hX X Rest hR
      rintro _ _ ⟨rfl, rfl⟩
      rintro _ _ ⟨rfl, rfl⟩
      intro hU hUp
      refine W_no rfl rfl rfl ?_
      exact W_end (OneT_end [] (Hp.le_refl _) ⟨rfl, rfl⟩)
     ·intro HX hX X Rest hR
      rintro _ _ ⟨rfl, rfl⟩
      intro hU hUp
      refine W_no rfl rfl rfl ?_
      exact W_end (OneT_end [] (Hp.le_refl _) ⟨rfl, rfl⟩)
     ·intro HX hX X Rest hR
      rintro _ _ ⟨rfl, rfl⟩
      rintro _ _ ⟨rfl, rfl⟩
      intro hU hUp
      refine W_no rfl rfl rfl ?_
      exact W_end (OneT_end [] (Hp.le_refl _) ⟨rfl, rfl⟩)
     ·intro HX hX X Rest hR
      rintro _ _ ⟨rfl, rfl⟩
      rintro _ _ ⟨rfl, rfl⟩
      intro hU hUp
      refine W_no rfl rfl rfl ?_
      exact W_end (OneT_end [] (Hp.le_refl _) ⟨rfl, rfl⟩)
     intro H135 hle136
     rintro _ _ ⟨rfl, rfl⟩
     rintro _ _ ⟨rfl, rfl⟩
     rintro _ _ ⟨rfl, rfl⟩
     rintro _ _ ⟨rfl, rfl⟩
     rintro _ _ ⟨rfl, rfl⟩
     rintro _ _ ⟨rfl, rfl⟩
     rintro _ _ ⟨rfl, rfl⟩
     rintro _ _ ⟨rfl, rfl⟩
     rintro _ _ ⟨rfl, rfl⟩
     rintro _ _ ⟨rfl, rfl⟩
     refine W_no rfl rfl rfl ?_
     refine W_pick rfl rfl rfl rfl ?_
     refine W_end (E_then ?_)
     refine C_cond (b := false) rfl (fun hb => Bool.noConfusion hb) (fun _ => ?_)
     refine C_skip (E_then (C_seq (C_region ?_)))
     refine W_assign rfl rfl rfl ?_
     refine W_end (E_then (C_ret ?_))
     obtain rfl := Option.some.inj hm
     refine E_drop (List.Sublist.cons_cons _ (List.Sublist.cons _ (List.Sublist.refl _))) ?_
     exact end1 rfl rfl ⟨(Hp.le_trans hle119 hle136), es106, cl107, v0, rfl, rfl, hm108, ((h1.mono hle119).mono hle136)⟩
    ·have hm := ite_t' hb134 hm
     obtain ⟨y137, h138, he139, hm⟩ := idx_some hm
     obtain ⟨_, rfl, hc140⟩ := (h2).elem he139
     obtain ⟨y141, h142, he143, hm⟩ := idx_some hm
     obtain ⟨_, rfl, hc144⟩ := (h2).elem he143
     refine C_region_tok0 10 (phiT [(fun H rs v => [] = rs ∧ v1 = v), (fun H rs v => [] = rs ∧ .int .i64 ((nodes.length : Int)) = v), (fun H rs v => [] = rs ∧ .bool (true) = v), (fun H rs v => [] = rs ∧ .bool (true) = v), (fun H rs v => [] = rs ∧ v1 = v), (fun H rs v => [] = rs ∧ .pointer (some ((Value.base (v1)).add ((0 : Int).toNat * 1))) = v), (fun H rs v => [] = rs ∧ .string (y137) = v), (fun H rs v => [] = rs ∧ v1 = v), (fun H rs v => [] = rs ∧ .pointer (some ((Value.base (v1)).add ((1 : Int).toNat * 1))) = v), (fun H rs v => [] = rs ∧ .string (y141) = v)]) [[], [], [], [], [], [], [], [], [], []] [[], [], [], [], [], [], [], [], [], []] [] [0, 1, 2, 3, 4, 5, 6, 7, 8, 9] Facts.mixed (by kernel_rfl) (by rfl) (by rfl) (by rfl) (by kernel_rfl) (phiT_mono ⟨eq_monoT _ _, eq_monoT _ _, eq_monoT _ _, eq_monoT _ _, eq_monoT _ _, eq_monoT _ _, eq_monoT _ _, eq_monoT _ _, eq_monoT _ _, eq_monoT _ _, trivial⟩) ⟨?_, ?_, ?_, ?_, ?_, ?_, ?_, ?_, ?_, ?_, trivial⟩ ?_
     ·intro HX hX X Rest hR
      intro hU hUp
      refine W_move rfl rfl rfl ?_
      exact W_end (OneT_end [] (Hp.le_refl _) ⟨rfl, rfl⟩)
     ·intro HX hX X Rest hR
      rintro _ _ ⟨rfl, rfl⟩
      intro hU hUp
      refine W_lenR rfl rfl runUnderlying22 rfl ((h2.mono hle119).mono hX) ?_
      exact W_end (OneT_end [] (Hp.le_refl _) ⟨rfl, rfl⟩)
     ·intro HX hX X Rest hR
      rintro _ _ ⟨rfl, rfl⟩
      intro hU hUp
      refine W_bin rfl rfl rfl rfl rfl ?_
      exact W_end (OneT_end [] (Hp.le_refl _) ⟨rfl, (by first | rfl | (rw [hb134]; try rfl))⟩)
     ·intro HX hX X Rest hR
      rintro _ _ ⟨rfl, rfl⟩
      intro hU hUp
      refine W_move rfl rfl rfl ?_
      exact W_end (OneT_end [] (Hp.le_refl _) ⟨rfl, rfl⟩)
     ·intro HX hX X Rest hR
      rintro _ _ ⟨rfl, rfl⟩
      intro hU hUp
      refine W_move rfl rfl rfl ?_
      exact W_end (OneT_end [] (Hp.le_refl _) ⟨rfl, rfl⟩)
     ·intro HX hX X Rest hR
      rintro _ _ ⟨rfl, rfl⟩
      rintro _ _ ⟨rfl, rfl⟩
      intro hU hUp
      refine W_indexS rfl rfl runUnderlying22 sizeOf9 rfl ((h2.mono hle119).mono hX) rfl h138 he139 ?_
      exact W_end (OneT_end [] (Hp.le_refl _) ⟨rfl, rfl⟩)
     ·intro HX hX X Rest hR
      rintro _ _ ⟨rfl, rfl⟩
      rintro _ _ ⟨rfl, rfl⟩
      intro hU hUp
      refine W_load rfl rfl isAgg9 rfl (HCells.one ((hc140.mono hle119).mono hX) 0 rfl).at ?_
      exact W_end (OneT_end [] (Hp.le_refl _) ⟨rfl, rfl⟩)
     ·intro HX hX X Rest hR
      rintro _ _ ⟨rfl, rfl⟩
      intro hU hUp
      refine W_move rfl rfl rfl ?_
      exact W_end (OneT_end [] (Hp.le_refl _) ⟨rfl, rfl⟩)
     ·intro HX hX X Rest hR
      rintro _ _ ⟨rfl, rfl⟩
      rintro _ _ ⟨rfl, rfl⟩
      intro hU hUp
      refine W_indexS rfl rfl runUnderlying22 sizeOf9 rfl ((h2.mono hle119).mono hX) rfl h142 he143 ?_
      exact W_end (OneT_end [] (Hp.le_refl _) ⟨rfl, rfl⟩)
     ·intro HX hX X Rest hR
      rintro _ _ ⟨rfl, rfl⟩
      rintro _ _ ⟨rfl, rfl⟩
      intro hU hUp
      refine W_load rfl rfl isAgg9 rfl (HCells.one ((hc144.mono hle119).mono hX) 0 rfl).at ?_
      exact W_end (OneT_end [] (Hp.le_refl _) ⟨rfl, rfl⟩)
     intro H145 hle146
     rintro _ _ ⟨rfl, rfl⟩
     rintro _ _ ⟨rfl, rfl⟩
     rintro _ _ ⟨rfl, rfl⟩
     rintro _ _ ⟨rfl, rfl⟩
     rintro _ _ ⟨rfl, rfl⟩
     rintro _ _ ⟨rfl, rfl⟩
     rintro _ _ ⟨rfl, rfl⟩
     rintro _ _ ⟨rfl, rfl⟩
     rintro _ _ ⟨rfl, rfl⟩
     rintro _ _ ⟨rfl, rfl⟩
     refine W_bin rfl rfl rfl rfl rfl ?_
     refine W_pick rfl rfl rfl rfl ?_
     refine W_end (E_then ?_)
     refine C_cond (b := decide (y137 = y141)) rfl (fun hb147 => ?_) (fun hb147 => ?_)
     ·have hm := ite_t' hb147 hm
      refine C_seq (C_region ?_)
      refine W_assign rfl rfl rfl ?_
      refine W_end (E_then (C_ret (E_ret_then ?_)))
      obtain rfl := Option.some.inj hm
      refine E_drop (List.Sublist.cons_cons _ (List.Sublist.cons _ (List.Sublist.refl _))) ?_
      exact end1 rfl rfl ⟨(Hp.le_trans hle119 hle146), es106, cl107, v0, rfl, rfl, hm108, ((h1.mono hle119).mono hle146)⟩
     ·have hm := ite_f' hb147 hm
      refine C_skip (E_then (C_seq (C_region ?_)))
      refine W_assign rfl rfl rfl ?_
      refine W_end (E_then (C_ret ?_))
      obtain rfl := Option.some.inj hm
      refine E_drop (List.Sublist.cons_cons _ (List.Sublist.cons _ (List.Sublist.refl _))) ?_
      exact end1 rfl rfl ⟨(Hp.le_trans hle119 hle146), es106, cl107, v0, rfl, rfl, hm108, ((h1.mono hle119).mono hle146)⟩

theorem m_netmodel_out_c {B : Nat} {w0 w : World} {H : Hp} {M : List Res} {p0_n : Int} {p1_low : Int} {p2_high : Int} {r : Bool} (hm : m_netmodel_out p0_n p1_low p2_high = r) (ht : St B w0 H (M) w) :
  Calls prog 54 [.int .i64 (p0_n), .int .i64 (p1_low), .int .i64 (p2_high)].toArray w (Ret B w0 fun H' M' v => H = H' ∧ M = M' ∧ .bool (r) = v) := by
 unfold m_netmodel_out at hm
 refine enter func54 rfl rfl rfl ht ?_
 refine C_seq (C_region ?_)
 refine W_assign rfl rfl rfl ?_
 refine W_end (E_then ?_)
 refine C_seq_join (fun H' M' L' => H = H' ∧ M = M' ∧ [(6, .bool ((decide (p0_n < p1_low)) || (decide (p2_high < p0_n))))] = L') ?_ (fun J102 => ?_)
 ·rintro _ _ _ ⟨rfl, rfl, rfl⟩
  refine C_ret ?_
  obtain rfl := hm
  refine E_weak (Hp.le_refl _) ?_
  exact end1 rfl rfl ⟨rfl, rfl, rfl⟩
 ·refine C_region ?_
  refine W_move rfl rfl rfl ?_
  refine W_move rfl rfl rfl ?_
  refine W_bin rfl rfl rfl rfl rfl ?_
  refine W_move rfl rfl rfl ?_
  cases hb103 : (decide (p0_n < p1_low))
  ·refine W_move rfl rfl rfl ?_
   refine W_move rfl rfl rfl ?_
   refine W_bin rfl rfl rfl rfl rfl ?_
   refine W_pick rfl rfl rfl rfl ?_
   refine W_assign rfl rfl rfl ?_
   refine W_end ?_
   exact E_keepJ (J102 _ _ _ ⟨rfl, rfl, rfl⟩) (List.Perm.refl _) ⟨(by show some (Value.bool (decide (p2_high < p0_n))) = some (Value.bool ((decide (p0_n < p1_low)) || (decide (p2_high < p0_n)))); first | (simp only [hb103, Bool.and_true, Bool.true_and, Bool.false_and, Bool.and_false, Bool.or_true, Bool.true_or, Bool.or_false, Bool.false_or, Bool.not_true, Bool.not_false]; done) | (simp only [hb103]; first | done | simp only [Bool.and_true, Bool.true_and, Bool.false_and, Bool.and_false, Bool.or_true, Bool.true_or, Bool.or_false, Bool.false_or, Bool.not_true, Bool.not_false])), trivial⟩
  ·refine W_no rfl rfl rfl ?_
   refine W_no rfl rfl rfl ?_
   refine W_no rfl rfl rfl ?_
   refine W_pick rfl rfl rfl rfl ?_
   refine W_assign rfl rfl rfl ?_
   refine W_end ?_
   exact E_keepJ (J102 _ _ _ ⟨rfl, rfl, rfl⟩) (List.Perm.refl _) ⟨(by show some (Value.bool (true)) = some (Value.bool ((decide (p0_n < p1_low)) || (decide (p2_high < p0_n)))); first | (simp only [hb103, Bool.and_true, Bool.true_and, Bool.false_and, Bool.and_false, Bool.or_true, Bool.true_or, Bool.or_false, Bool.false_or, Bool.not_true, Bool.not_false]; done) | (simp only [hb103]; first | done | simp only [Bool.and_true, Bool.true_and, Bool.false_and, Bool.and_false, Bool.or_true, Bool.true_or, Bool.or_false, Bool.false_or, Bool.not_true, Bool.not_false])), trivial⟩

theorem m_netmodel_Branch_c {B : Nat} {w0 w : World} {H : Hp} {M : List Res} {p0_b : S_api_Branch} {r : Int} (hm : m_netmodel_Branch p0_b = r) (ht : St B w0 H (M) w) :
  Calls prog 34 [.agg [.string (p0_b.Name), .string (p0_b.From), .string (p0_b.To), .int .i64 (p0_b.X), .int .i64 (p0_b.Tap), .int .i64 (p0_b.Shift), .int .i64 (p0_b.Limit), .int .i64 (p0_b.Short), .int .i64 (p0_b.Hold)].toArray].toArray w (Ret B w0 fun H' M' v => H = H' ∧ M = M' ∧ .int .i64 (r) = v) := by
 unfold m_netmodel_Branch at hm
 refine enter func34 rfl rfl rfl ht ?_
 refine C_seq (C_region ?_)
 refine W_box (cs := [.string (p0_b.Name), .string (p0_b.From), .string (p0_b.To), .int .i64 (p0_b.X), .int .i64 (p0_b.Tap), .int .i64 (p0_b.Shift), .int .i64 (p0_b.Limit), .int .i64 (p0_b.Short), .int .i64 (p0_b.Hold)]) rfl rfl rfl rfl (fun b101 => ?_)
 refine W_assign rfl rfl rfl ?_
 refine W_end (E_then (C_seq ?_))
 refine C_seq_join (fun H' M' L' => H = H' ∧ M = M' ∧ [(32, .bool ((((((m_netmodel_out p0_b.X 1 10000) || (m_netmodel_out p0_b.Tap 500 1500)) || (m_netmodel_out p0_b.Shift (-1000) 1000)) || (m_netmodel_out p0_b.Limit 0 100000)) || (m_netmodel_out p0_b.Short p0_b.Limit 100000)) || (m_netmodel_out p0_b.Hold 0 200000)))] = L') ?_ (fun J107 => ?_)
 ·rintro _ _ _ ⟨rfl, rfl, rfl⟩
  refine C_cond (b := (((((m_netmodel_out p0_b.X 1 10000) || (m_netmodel_out p0_b.Tap 500 1500)) || (m_netmodel_out p0_b.Shift (-1000) 1000)) || (m_netmodel_out p0_b.Limit 0 100000)) || (m_netmodel_out p0_b.Short p0_b.Limit 100000)) || (m_netmodel_out p0_b.Hold 0 200000)) rfl (fun hb108 => ?_) (fun hb108 => ?_)
  ·have hm := ite_t' hb108 hm
   refine C_seq (C_region ?_)
   refine W_assign rfl rfl rfl ?_
   refine W_end (E_then (C_ret (E_ret_then ?_)))
   obtain rfl := hm
   refine E_weak (Hp.le_refl _) ?_
   exact end1 rfl rfl ⟨rfl, rfl, rfl⟩
  ·have hm := ite_f' hb108 hm
   refine C_skip (E_then (C_seq (C_region ?_)))
   refine W_assign rfl rfl rfl ?_
   refine W_end (E_then (C_ret ?_))
   obtain rfl := hm
   refine E_weak (Hp.le_refl _) ?_
   exact end1 rfl rfl ⟨rfl, rfl, rfl⟩
 ·refine C_region ?_
  refine W_field (o := 3) rfl rfl runUnderlying83 rfl sizeOf3 rfl rfl rfl ?_
  refine W_load rfl rfl isAgg3 rfl (own_at (List.mem_cons_self ..) rfl) ?_
  refine W_call call54 rfl rfl rfl (fun w ht => by have h := m_netmodel_out_c (hm := (rfl : m_netmodel_out p0_b.X 1 10000 = _))  ht; exact h) ?_
  rintro _ _ _ ⟨rfl, rfl, rfl⟩
  refine W_move rfl rfl rfl ?_
  cases hb109 : ((m_netmodel_out p0_b.X 1 10000))
  ·refine W_field (o := 4) rfl rfl runUnderlying83 rfl sizeOf3 rfl rfl rfl ?_
   refine W_load rfl rfl isAgg3 rfl (own_at (List.mem_cons_self ..) rfl) ?_
   refine W_call call54 rfl rfl rfl (fun w ht => by have h := m_netmodel_out_c (hm := (rfl : m_netmodel_out p0_b.Tap 500 1500 = _))  ht; exact h) ?_
   rintro _ _ _ ⟨rfl, rfl, rfl⟩
   refine W_pick rfl rfl rfl rfl ?_
   refine W_move rfl rfl rfl ?_
   cases hb110 : ((m_netmodel_out p0_b.Tap 500 1500))
   ·refine W_field (o := 5) rfl rfl runUnderlying83 rfl sizeOf3 rfl rfl rfl ?_
    refine W_load rfl rfl isAgg3 rfl (own_at (List.mem_cons_self ..) rfl) ?_
    refine W_call call54 rfl rfl rfl (fun w ht => by have h := m_netmodel_out_c (hm := (rfl : m_netmodel_out p0_b.Shift (-1000) 1000 = _))  ht; exact h) ?_
    rintro _ _ _ ⟨rfl, rfl, rfl⟩
    refine W_pick rfl rfl rfl rfl ?_
    refine W_move rfl rfl rfl ?_
    cases hb111 : ((m_netmodel_out p0_b.Shift (-1000) 1000))
    ·refine W_field (o := 6) rfl rfl runUnderlying83 rfl sizeOf3 rfl rfl rfl ?_
     refine W_load rfl rfl isAgg3 rfl (own_at (List.mem_cons_self ..) rfl) ?_
     refine W_call call54 rfl rfl rfl (fun w ht => by have h := m_netmodel_out_c (hm := (rfl : m_netmodel_out p0_b.Limit 0 100000 = _))  ht; exact h) ?_
     rintro _ _ _ ⟨rfl, rfl, rfl⟩
     refine W_pick rfl rfl rfl rfl ?_
     refine W_move rfl rfl rfl ?_
     cases hb112 : ((m_netmodel_out p0_b.Limit 0 100000))
     ·refine W_field (o := 7) rfl rfl runUnderlying83 rfl sizeOf3 rfl rfl rfl ?_
      refine W_load rfl rfl isAgg3 rfl (own_at (List.mem_cons_self ..) rfl) ?_
      refine W_field (o := 6) rfl rfl runUnderlying83 rfl sizeOf3 rfl rfl rfl ?_
      refine W_load rfl rfl isAgg3 rfl (own_at (List.mem_cons_self ..) rfl) ?_
      refine W_call call54 rfl rfl rfl (fun w ht => by have h := m_netmodel_out_c (hm := (rfl : m_netmodel_out p0_b.Short p0_b.Limit 100000 = _))  ht; exact h) ?_
      rintro _ _ _ ⟨rfl, rfl, rfl⟩
      refine W_pick rfl rfl rfl rfl ?_
      refine W_move rfl rfl rfl ?_
      cases hb113 : ((m_netmodel_out p0_b.Short p0_b.Limit 100000))
      ·refine W_field (o := 8) rfl rfl runUnderlying83 rfl sizeOf3 rfl rfl rfl ?_
       refine W_load rfl rfl isAgg3 rfl (own_at (List.mem_cons_self ..) rfl) ?_
       refine W_call call54 rfl rfl rfl (fun w ht => by have h := m_netmodel_out_c (hm := (rfl : m_netmodel_out p0_b.Hold 0 200000 = _))  ht; exact h) ?_
       rintro _ _ _ ⟨rfl, rfl, rfl⟩
       refine W_pick rfl rfl rfl rfl ?_
       refine W_end ?_
       refine E_drop (List.Sublist.cons _ (List.Sublist.refl _)) ?_
       exact E_keepJ (J107 _ _ _ ⟨rfl, rfl, rfl⟩) (List.Perm.refl _) ⟨(by show some (Value.bool ((m_netmodel_out p0_b.Hold 0 200000))) = some (Value.bool ((((((m_netmodel_out p0_b.X 1 10000) || (m_netmodel_out p0_b.Tap 500 1500)) || (m_netmodel_out p0_b.Shift (-1000) 1000)) || (m_netmodel_out p0_b.Limit 0 100000)) || (m_netmodel_out p0_b.Short p0_b.Limit 100000)) || (m_netmodel_out p0_b.Hold 0 200000))); first | (simp only [hb109, hb110, hb111, hb112, hb113, Bool.and_true, Bool.true_and, Bool.false_and, Bool.and_false, Bool.or_true, Bool.true_or, Bool.or_false, Bool.false_or, Bool.not_true, Bool.not_false]; done) | (simp only [hb109, hb110, hb111, hb112, hb113]; first | done | simp only [Bool.and_true, Bool.true_and, Bool.false_and, Bool.and_false, Bool.or_true, Bool.true_or, Bool.or_false, Bool.false_or, Bool.not_true, Bool.not_false])), trivial⟩
      ·refine W_no rfl rfl rfl ?_
       refine W_no rfl rfl rfl ?_
       refine W_no rfl rfl rfl ?_
       refine W_pick rfl rfl rfl rfl ?_
       refine W_end ?_
       refine E_drop (List.Sublist.cons _ (List.Sublist.refl _)) ?_
       exact E_keepJ (J107 _ _ _ ⟨rfl, rfl, rfl⟩) (List.Perm.refl _) ⟨(by show some (Value.bool (true)) = some (Value.bool ((((((m_netmodel_out p0_b.X 1 10000) || (m_netmodel_out p0_b.Tap 500 1500)) || (m_netmodel_out p0_b.Shift (-1000) 1000)) || (m_netmodel_out p0_b.Limit 0 100000)) || (m_netmodel_out p0_b.Short p0_b.Limit 100000)) || (m_netmodel_out p0_b.Hold 0 200000))); first | (simp only [hb109, hb110, hb111, hb112, hb113, Bool.and_true, Bool.true_and, Bool.false_and, Bool.and_false, Bool.or_true, Bool.true_or, Bool.or_false, Bool.false_or, Bool.not_true, Bool.not_false]; done) | (simp only [hb109, hb110, hb111, hb112, hb113]; first | done | simp only [Bool.and_true, Bool.true_and, Bool.false_and, Bool.and_false, Bool.or_true, Bool.true_or, Bool.or_false, Bool.false_or, Bool.not_true, Bool.not_false])), trivial⟩
     ·refine W_no rfl rfl rfl ?_
      refine W_no rfl rfl rfl ?_
      refine W_no rfl rfl rfl ?_
      refine W_no rfl rfl rfl ?_
      refine W_no rfl rfl rfl ?_
      refine W_pick rfl rfl rfl rfl ?_
      refine W_move rfl rfl rfl ?_
      refine W_no rfl rfl rfl ?_
      refine W_no rfl rfl rfl ?_
      refine W_no rfl rfl rfl ?_
      refine W_pick rfl rfl rfl rfl ?_
      refine W_end ?_
      refine E_drop (List.Sublist.cons _ (List.Sublist.refl _)) ?_
      exact E_keepJ (J107 _ _ _ ⟨rfl, rfl, rfl⟩) (List.Perm.refl _) ⟨(by show some (Value.bool (true)) = some (Value.bool ((((((m_netmodel_out p0_b.X 1 10000) || (m_netmodel_out p0_b.Tap 500 1500)) || (m_netmodel_out p0_b.Shift (-1000) 1000)) || (m_netmodel_out p0_b.Limit 0 100000)) || (m_netmodel_out p0_b.Short p0_b.Limit 100000)) || (m_netmodel_out p0_b.Hold 0 200000))); first | (simp only [hb109, hb110, hb111, hb112, Bool.and_true, Bool.true_and, Bool.false_and, Bool.and_false, Bool.or_true, Bool.true_or, Bool.or_false, Bool.false_or, Bool.not_true, Bool.not_false]; done) | (simp only [hb109, hb110, hb111, hb112]; first | done | simp only [Bool.and_true, Bool.true_and, Bool.false_and, Bool.and_false, Bool.or_true, Bool.true_or, Bool.or_false, Bool.false_or, Bool.not_true, Bool.not_false])), trivial⟩
    ·refine W_no rfl rfl rfl ?_
     refine W_no rfl rfl rfl ?_
     refine W_no rfl rfl rfl ?_
     refine W_pick rfl rfl rfl rfl ?_
     refine W_move rfl rfl rfl ?_
     refine W_no rfl rfl rfl ?_
     refine W_no rfl rfl rfl ?_
     refine W_no rfl rfl rfl ?_
     refine W_no rfl rfl rfl ?_
     refine W_no rfl rfl rfl ?_
     refine W_pick rfl rfl rfl rfl ?_
     refine W_move rfl rfl rfl ?_
     refine W_no rfl rfl rfl ?_
     refine W_no rfl rfl rfl ?_
     refine W_no rfl rfl rfl ?_
     refine W_pick rfl rfl rfl rfl ?_
     refine W_end ?_
     refine E_drop (List.Sublist.cons _ (List.Sublist.refl _)) ?_
     exact E_keepJ (J107 _ _ _ ⟨rfl, rfl, rfl⟩) (List.Perm.refl _) ⟨(by show some (Value.bool (true)) = some (Value.bool ((((((m_netmodel_out p0_b.X 1 10000) || (m_netmodel_out p0_b.Tap 500 1500)) || (m_netmodel_out p0_b.Shift (-1000) 1000)) || (m_netmodel_out p0_b.Limit 0 100000)) || (m_netmodel_out p0_b.Short p0_b.Limit 100000)) || (m_netmodel_out p0_b.Hold 0 200000))); first | (simp only [hb109, hb110, hb111, Bool.and_true, Bool.true_and, Bool.false_and, Bool.and_false, Bool.or_true, Bool.true_or, Bool.or_false, Bool.false_or, Bool.not_true, Bool.not_false]; done) | (simp only [hb109, hb110, hb111]; first | done | simp only [Bool.and_true, Bool.true_and, Bool.false_and, Bool.and_false, Bool.or_true, Bool.true_or, Bool.or_false, Bool.false_or, Bool.not_true, Bool.not_false])), trivial⟩
   ·refine W_no rfl rfl rfl ?_
    refine W_no rfl rfl rfl ?_
    refine W_no rfl rfl rfl ?_
    refine W_pick rfl rfl rfl rfl ?_
    refine W_move rfl rfl rfl ?_
    refine W_no rfl rfl rfl ?_
    refine W_no rfl rfl rfl ?_
    refine W_no rfl rfl rfl ?_
    refine W_pick rfl rfl rfl rfl ?_
    refine W_move rfl rfl rfl ?_
    refine W_no rfl rfl rfl ?_
    refine W_no rfl rfl rfl ?_
    refine W_no rfl rfl rfl ?_
    refine W_no rfl rfl rfl ?_
    refine W_no rfl rfl rfl ?_
    refine W_pick rfl rfl rfl rfl ?_
    refine W_move rfl rfl rfl ?_
    refine W_no rfl rfl rfl ?_
    refine W_no rfl rfl rfl ?_
    refine W_no rfl rfl rfl ?_
    refine W_pick rfl rfl rfl rfl ?_
    refine W_end ?_
    refine E_drop (List.Sublist.cons _ (List.Sublist.refl _)) ?_
    exact E_keepJ (J107 _ _ _ ⟨rfl, rfl, rfl⟩) (List.Perm.refl _) ⟨(by show some (Value.bool (true)) = some (Value.bool ((((((m_netmodel_out p0_b.X 1 10000) || (m_netmodel_out p0_b.Tap 500 1500)) || (m_netmodel_out p0_b.Shift (-1000) 1000)) || (m_netmodel_out p0_b.Limit 0 100000)) || (m_netmodel_out p0_b.Short p0_b.Limit 100000)) || (m_netmodel_out p0_b.Hold 0 200000))); first | (simp only [hb109, hb110, Bool.and_true, Bool.true_and, Bool.false_and, Bool.and_false, Bool.or_true, Bool.true_or, Bool.or_false, Bool.false_or, Bool.not_true, Bool.not_false]; done) | (simp only [hb109, hb110]; first | done | simp only [Bool.and_true, Bool.true_and, Bool.false_and, Bool.and_false, Bool.or_true, Bool.true_or, Bool.or_false, Bool.false_or, Bool.not_true, Bool.not_false])), trivial⟩
  ·refine W_no rfl rfl rfl ?_
   refine W_no rfl rfl rfl ?_
   refine W_no rfl rfl rfl ?_
   refine W_pick rfl rfl rfl rfl ?_
   refine W_move rfl rfl rfl ?_
   refine W_no rfl rfl rfl ?_
   refine W_no rfl rfl rfl ?_
   refine W_no rfl rfl rfl ?_
   refine W_pick rfl rfl rfl rfl ?_
   refine W_move rfl rfl rfl ?_
   refine W_no rfl rfl rfl ?_
   refine W_no rfl rfl rfl ?_
   refine W_no rfl rfl rfl ?_
   refine W_pick rfl rfl rfl rfl ?_
   refine W_move rfl rfl rfl ?_
   refine W_no rfl rfl rfl ?_
   refine W_no rfl rfl rfl ?_
   refine W_no rfl rfl rfl ?_
   refine W_no rfl rfl rfl ?_
   refine W_no rfl rfl rfl ?_
   refine W_pick rfl rfl rfl rfl ?_
   refine W_move rfl rfl rfl ?_
   refine W_no rfl rfl rfl ?_
   refine W_no rfl rfl rfl ?_
   refine W_no rfl rfl rfl ?_
   refine W_pick rfl rfl rfl rfl ?_
   refine W_end ?_
   refine E_drop (List.Sublist.cons _ (List.Sublist.refl _)) ?_
   exact E_keepJ (J107 _ _ _ ⟨rfl, rfl, rfl⟩) (List.Perm.refl _) ⟨(by show some (Value.bool (true)) = some (Value.bool ((((((m_netmodel_out p0_b.X 1 10000) || (m_netmodel_out p0_b.Tap 500 1500)) || (m_netmodel_out p0_b.Shift (-1000) 1000)) || (m_netmodel_out p0_b.Limit 0 100000)) || (m_netmodel_out p0_b.Short p0_b.Limit 100000)) || (m_netmodel_out p0_b.Hold 0 200000))); first | (simp only [hb109, Bool.and_true, Bool.true_and, Bool.false_and, Bool.and_false, Bool.or_true, Bool.true_or, Bool.or_false, Bool.false_or, Bool.not_true, Bool.not_false]; done) | (simp only [hb109]; first | done | simp only [Bool.and_true, Bool.true_and, Bool.false_and, Bool.and_false, Bool.or_true, Bool.true_or, Bool.or_false, Bool.false_or, Bool.not_true, Bool.not_false])), trivial⟩

theorem m_netmodel_permitted_c {B : Nat} {w0 w : World} {H : Hp} {M : List Res} {p0_n : Int} {r : Bool} (hm : m_netmodel_permitted p0_n = r) (ht : St B w0 H (M) w) :
  Calls prog 55 [.int .i64 (p0_n)].toArray w (Ret B w0 fun H' M' v => H = H' ∧ M = M' ∧ .bool (r) = v) := by
 unfold m_netmodel_permitted at hm
 refine enter func55 rfl rfl rfl ht ?_
 refine C_seq (C_region ?_)
 refine W_assign rfl rfl rfl ?_
 refine W_end (E_then (C_seq (C_region ?_)))
 refine W_move rfl rfl rfl ?_
 refine W_call call54 rfl rfl rfl (fun w ht => by have h := m_netmodel_out_c (hm := (rfl : m_netmodel_out p0_n 0 100000 = _))  ht; exact h) ?_
 rintro _ _ _ ⟨rfl, rfl, rfl⟩
 refine W_un rfl rfl rfl rfl ?_
 refine W_assign rfl rfl rfl ?_
 refine W_end (E_then (C_ret ?_))
 obtain rfl := hm
 refine E_weak (Hp.le_refl _) ?_
 exact end1 rfl rfl ⟨rfl, rfl, rfl⟩

theorem m_netmodel_checker_ends_c {B : Nat} {w0 w : World} {H : Hp} {M : List Res} {p0_c : S_netmodel_checker} {p1_n : S_api_Network} {b0 : Nat} {es0 : Array MapEntry} {c0 : Nat} {v0 : Value} {v1 : Value} {v2 : Value} {v3 : Value} {v4 : Value} {v5 : Value} {v6 : Value} {r : Int × S_netmodel_checker} (hm : m_netmodel_checker_ends p0_c p1_n = some r) (h0 : MapR es0 p0_c.seen) (h1 : RdS H v0 p0_c.nodes) (h2 : RdS H v1 p1_n.Nodes) (h3 : RdS H v2 p1_n.Switches) (h4 : RdS H v3 p1_n.Branches) (h5 : RdS H v4 p1_n.Gens) (h6 : RdS H v5 p1_n.Loads) (h7 : RdS H v6 p1_n.Stores) (ht : St B w0 H (.obj b0 (.map es0 c0) :: M) w) :
  Calls prog 35 [.agg [.map (some b0), v0].toArray, .agg [v1, v2, v3, v4, v5, v6].toArray].toArray w (Ret B w0 fun H' M' v => H.le H' ∧ ∃ qes0 : Array MapEntry, ∃ qc0 : Nat, ∃ qv0 : Value, .obj b0 (.map qes0 qc0) :: M = M' ∧ .int .i64 (r.1) = v ∧ MapR qes0 r.2.seen ∧ RdS H' qv0 r.2.nodes) := by
 unfold m_netmodel_checker_ends at hm
 refine enter func35 rfl rfl rfl ht ?_
 refine C_seq (C_region ?_)
 refine W_box (cs := [.map (some b0), v0]) rfl rfl rfl rfl (fun b101 => ?_)
 refine W_box (cs := [v1, v2, v3, v4, v5, v6]) rfl rfl rfl rfl (fun b102 => ?_)
 refine W_assign rfl rfl rfl ?_
 refine W_end (E_then (C_seq (C_seq (C_region ?_))))
 refine W_field (o := 3) rfl rfl runUnderlying29 rfl sizeOf25 rfl rfl rfl ?_
 refine W_load rfl rfl isAgg25 rfl (own_at (List.mem_cons_self ..) rfl) ?_
 refine W_lenR rfl rfl runUnderlying25 rfl h5 ?_
 refine W_move rfl rfl rfl ?_
 refine W_end (E_then (C_block ?_))
 refine C_keep (L' := [(2, .pointer (some ⟨b101, 0, none⟩)), (3, .pointer (some ⟨b102, 0, none⟩)), (15, v4), (16, .int .i64 ((p1_n.Gens.length : Int))), (17, .int .i64 (((0 : Nat) : Int)))]) ⟨rfl, rfl, rfl, rfl, rfl, trivial⟩ (List.Perm.refl _) ?_
 refine C_loop (fun n H' M' L' => ∃ (k103 : Nat) (zs177' : List S_api_Gen), ∃ l168 : (List (ByteArray × Bool)), ∃ es166 : Array MapEntry, ∃ cl167 : Nat, (p1_n.Gens).drop k103 = zs177' ∧ zs177'.length = n ∧ forI (fun k y s172 n => m_netmodel_checker_ends_b1 p0_c k y s172 n) (fun s172 => forI (fun k y s266 n => m_netmodel_checker_ends_b2 p0_c k y s266 n) (fun s266 => forI (fun k y s365 n => m_netmodel_checker_ends_b3 p0_c k y s365 n) (fun s365 => some (0, (S_netmodel_checker.mk s365 p0_c.nodes))) 0 p1_n.Stores s266) 0 p1_n.Loads s172) k103 zs177' l168 = some r ∧ MapR es166 l168 ∧ H.le H' ∧ .obj b102 (.cells [v1, v2, v3, v4, v5, v6].toArray 29 (0, 0)) :: .obj b101 (.cells [.map (some b0), v0].toArray 80 (0, 0)) :: .obj b0 (.map es166 cl167) :: M = M' ∧ [(2, .pointer (some ⟨b101, 0, none⟩)), (3, .pointer (some ⟨b102, 0, none⟩)), (15, v4), (16, .int .i64 ((p1_n.Gens.length : Int))), (17, .int .i64 ((k103 : Int)))] = L') _ ⟨0, _, p0_c.seen, es0, c0, rfl, rfl, hm, h0, (Hp.le_refl _), rfl, rfl⟩ ?_
 rintro _ H170 _ _ ⟨k103, zs177', l168, es166, cl167, hd179, rfl, hm, hm169, hle171, rfl, rfl⟩
 refine C_seq (C_region ?_)
 refine W_bin rfl rfl rfl rfl rfl ?_
 refine W_end (E_then (C_seq ?_))
 refine C_cond (b := decide ((k103 : Int) < (p1_n.Gens.length : Int))) rfl (fun hb181 => ?_) (fun hb181 => ?_)
 ·obtain ⟨y176, zs177, rfl, hy178, hd180⟩ := rng_t hd179 hb181
  have hm : m_netmodel_checker_ends_b1 p0_c k103 y176 l168 (forI (fun k y s172 n => m_netmodel_checker_ends_b1 p0_c k y s172 n) (fun s172 => forI (fun k y s266 n => m_netmodel_checker_ends_b2 p0_c k y s266 n) (fun s266 => forI (fun k y s365 n => m_netmodel_checker_ends_b3 p0_c k y s365 n) (fun s365 => some (0, (S_netmodel_checker.mk s365 p0_c.nodes))) 0 p1_n.Stores s266) 0 p1_n.Loads s172) (k103 + 1) zs177) = some r := hm
  generalize hn174 : forI (fun k y s172 n => m_netmodel_checker_ends_b1 p0_c k y s172 n) (fun s172 => forI (fun k y s266 n => m_netmodel_checker_ends_b2 p0_c k y s266 n) (fun s266 => forI (fun k y s365 n => m_netmodel_checker_ends_b3 p0_c k y s365 n) (fun s365 => some (0, (S_netmodel_checker.mk s365 p0_c.nodes))) 0 p1_n.Stores s266) 0 p1_n.Loads s172) (k103 + 1) zs177 = nx173 at hm
  unfold m_netmodel_checker_ends_b1 at hm
  refine C_skip (E_then (C_seq (C_block (C_seq (C_region ?_)))))
  obtain ⟨_, ⟨rfl⟩, hc182⟩ := (h5).elem hy178
  refine W_indexS rfl rfl runUnderlying25 sizeOf46 rfl (h5.mono hle171) rfl (Int.natCast_nonneg _) hy178 ?_
  refine W_loadAgg rfl rfl isAgg46 sizeOf46 rfl (hc182.mono hle171).at rfl ?_
  refine W_alloc (cs := [.string (⟨#[]⟩), .string (⟨#[]⟩), .int .i64 (0), .int .i64 (0), .int .i64 (0)]) rfl rfl zeroValue46 rfl (fun b183 => ?_)
  refine W_store (cs := [.string (y176.Name), .string (y176.Node), .int .i64 (y176.Least), .int .i64 (y176.Most), .int .i64 (y176.Ramp)]) (out := [.string (y176.Name), .string (y176.Node), .int .i64 (y176.Least), .int .i64 (y176.Most), .int .i64 (y176.Ramp)]) rfl sizeOf46 rfl rfl rfl rfl rfl (all_cons rfl (all_cons rfl (all_cons rfl (all_cons rfl (all_cons rfl all_nil))))) (over_all rfl) ?_
  refine W_end (E_then (C_seq (C_seq (C_region ?_))))
  refine W_loadAgg rfl rfl isAgg80 sizeOf80 rfl (own_all (List.mem_cons_of_mem _ (List.mem_cons_of_mem _ (List.mem_cons_self ..)))) rfl ?_
  refine W_field (o := 0) rfl rfl runUnderlying46 rfl sizeOf9 rfl rfl rfl ?_
  refine W_load rfl rfl isAgg9 rfl (own_at (List.mem_cons_self ..) rfl) ?_
  refine W_field (o := 1) rfl rfl runUnderlying46 rfl sizeOf9 rfl rfl rfl ?_
  refine W_load rfl rfl isAgg9 rfl (own_at (List.mem_cons_self ..) rfl) ?_
  refine W_buildSliceO (α := ByteArray) (css := [[.string (y176.Node)]]) (zs := [.string (⟨#[]⟩)]) (out := [.string (y176.Node)]) (ys := [y176.Node]) rfl rfl rfl ⟨rfl, trivial⟩ runUnderlying22 sizeOf9 rfl zeroValue9 (by kernel_rfl) rfl rfl rfl rfl ⟨[.string (y176.Node)], [], rfl, rfl, rfl⟩ rfl ?_
  intro v184 xs185 hr186
  refine W_freeze (hr186).rd rfl (fun H187 hle188 h189 => ?_)
  refine W_perm (List.Perm.trans (List.Perm.cons _ (List.Perm.cons _ (List.Perm.swap _ _ _))) (List.Perm.trans (List.Perm.cons _ (List.Perm.swap _ _ _)) (List.Perm.swap _ _ _))) ?_
  obtain ⟨r190, hc191, hm⟩ := bind_some hm
  refine W_call call33 rfl rfl rfl (fun w ht => by have h := m_netmodel_checker_device_c (hm := hc191) hm169 ((h1.mono hle171).mono hle188) h189 ht; exact h) ?_
  rintro _ H198 _ ⟨hle199, es193, c194, v196, rfl, rfl, h195, h197⟩
  refine W_assign rfl rfl rfl ?_
  refine W_end (E_then (C_seq (C_region ?_)))
  refine W_move rfl rfl rfl ?_
  refine W_bin rfl rfl rfl rfl rfl ?_
  refine W_end (E_then ?_)
  refine C_cond (b := !decide (r190.1 = 0)) rfl (fun hb200 => ?_) (fun hb200 => ?_)
  ·have hm := ite_t' hb200 hm
   refine C_seq (C_region ?_)
   refine W_move rfl rfl rfl ?_
   refine W_assign rfl rfl rfl ?_
   refine W_end (E_then (C_ret (E_ret_then (E_ret_block (E_ret_then (E_ret_then (E_ret_block (E_ret_then ?_))))))))
   obtain rfl := Option.some.inj hm
   refine E_drop (List.Sublist.cons_cons _ (List.Sublist.cons _ (List.Sublist.cons _ (List.Sublist.cons _ (List.Sublist.refl _))))) ?_
   exact end1 rfl rfl ⟨(Hp.le_trans (Hp.le_trans hle171 hle188) hle199), es193, c194, v0, rfl, rfl, h195, (((h1.mono hle171).mono hle188).mono hle199)⟩
  ·have hm := ite_f' hb200 hm
   refine C_skip (E_then ?_)
   refine C_seq_join (fun H' M' L' => H198 = H' ∧ .obj b0 (.map es193 c194) :: .obj b102 (.cells [v1, v2, v3, v4, v5, v6].toArray 29 (0, 0)) :: .obj b101 (.cells [.map (some b0), v0].toArray 80 (0, 0)) :: M = M' ∧ [(2, .pointer (some ⟨b101, 0, none⟩)), (3, .pointer (some ⟨b102, 0, none⟩)), (15, v4), (16, .int .i64 ((p1_n.Gens.length : Int))), (17, .int .i64 ((k103 : Int))), (47, .bool (((!(m_netmodel_permitted y176.Least)) || (m_netmodel_out y176.Most y176.Least 100000)) || (!(m_netmodel_permitted y176.Ramp))))] = L') ?_ (fun J203 => ?_)
   ·rintro _ _ _ ⟨rfl, rfl, rfl⟩
    refine C_cond (b := ((!(m_netmodel_permitted y176.Least)) || (m_netmodel_out y176.Most y176.Least 100000)) || (!(m_netmodel_permitted y176.Ramp))) rfl (fun hb204 => ?_) (fun hb204 => ?_)
    ·have hm := ite_t' hb204 hm
     refine C_seq (C_region ?_)
     refine W_assign rfl rfl rfl ?_
     refine W_end (E_then (C_ret (E_ret_block (E_ret_then (E_ret_then (E_ret_block (E_ret_then ?_)))))))
     obtain rfl := Option.some.inj hm
     refine E_drop (List.Sublist.cons_cons _ (List.Sublist.cons _ (List.Sublist.cons _ (List.Sublist.refl _)))) ?_
     exact end1 rfl rfl ⟨(Hp.le_trans (Hp.le_trans hle171 hle188) hle199), es193, c194, v0, rfl, rfl, h195, (((h1.mono hle171).mono hle188).mono hle199)⟩
    ·have hm := ite_f' hb204 hm
     refine C_skip (E_normal_block (E_then (C_region ?_)))
     refine W_bin rfl rfl rfl rfl rfl ?_
     refine W_move rfl rfl rfl ?_
     refine W_end ?_
     exact E_keepJ (E_back (Nat.lt_succ_self _) ⟨k103 + 1, zs177, r190.2.seen, es193, c194, hd180, rfl, (by rw [hn174]; exact hm), h195, (Hp.le_trans (Hp.le_trans hle171 hle188) hle199), rfl, rfl⟩) (List.Perm.trans (List.Perm.swap _ _ _) (List.Perm.cons _ (List.Perm.swap _ _ _))) ⟨rfl, rfl, rfl, rfl, (congrArg (fun z => some (Value.int .i64 z)) (i64_succ hy178 ((h5.mono hle171)).lenMax)), trivial⟩
   ·refine C_region ?_
    refine W_field (o := 2) rfl rfl runUnderlying46 rfl sizeOf3 rfl rfl rfl ?_
    refine W_load rfl rfl isAgg3 rfl (own_at (List.mem_cons_of_mem _ (List.mem_cons_self ..)) rfl) ?_
    refine W_call call55 rfl rfl rfl (fun w ht => by have h := m_netmodel_permitted_c (hm := (rfl : m_netmodel_permitted y176.Least = _))  ht; exact h) ?_
    rintro _ _ _ ⟨rfl, rfl, rfl⟩
    refine W_un rfl rfl rfl rfl ?_
    refine W_move rfl rfl rfl ?_
    cases hb205 : (m_netmodel_permitted y176.Least)
    ·refine W_no rfl rfl rfl ?_
     refine W_no rfl rfl rfl ?_
     refine W_no rfl rfl rfl ?_
     refine W_no rfl rfl rfl ?_
     refine W_no rfl rfl rfl ?_
     refine W_pick rfl rfl rfl rfl ?_
     refine W_move rfl rfl rfl ?_
     refine W_no rfl rfl rfl ?_
     refine W_no rfl rfl rfl ?_
     refine W_no rfl rfl rfl ?_
     refine W_no rfl rfl rfl ?_
     refine W_pick rfl rfl rfl rfl ?_
     refine W_end ?_
     refine E_drop (List.Sublist.cons_cons _ (List.Sublist.cons _ (List.Sublist.refl _))) ?_
     exact E_keepJ (J203 _ _ _ ⟨rfl, rfl, rfl⟩) (List.Perm.refl _) ⟨rfl, rfl, rfl, rfl, rfl, (by show some (Value.bool (true)) = some (Value.bool (((!(m_netmodel_permitted y176.Least)) || (m_netmodel_out y176.Most y176.Least 100000)) || (!(m_netmodel_permitted y176.Ramp)))); first | (simp only [hb200, hb205, Bool.and_true, Bool.true_and, Bool.false_and, Bool.and_false, Bool.or_true, Bool.true_or, Bool.or_false, Bool.false_or, Bool.not_true, Bool.not_false]; done) | (simp only [hb200, hb205]; first | done | simp only [Bool.and_true, Bool.true_and, Bool.false_and, Bool.and_false, Bool.or_true, Bool.true_or, Bool.or_false, Bool.false_or, Bool.not_true, Bool.not_false])), trivial⟩
    ·refine W_field (o := 3) rfl rfl runUnderlying46 rfl sizeOf3 rfl rfl rfl ?_
     refine W_load rfl rfl isAgg3 rfl (own_at (List.mem_cons_of_mem _ (List.mem_cons_self ..)) rfl) ?_
     refine W_field (o := 2) rfl rfl runUnderlying46 rfl sizeOf3 rfl rfl rfl ?_
     refine W_load rfl rfl isAgg3 rfl (own_at (List.mem_cons_of_mem _ (List.mem_cons_self ..)) rfl) ?_
     refine W_call call54 rfl rfl rfl (fun w ht => by have h := m_netmodel_out_c (hm := (rfl : m_netmodel_out y176.Most y176.Least 100000 = _))  ht; exact h) ?_
     rintro _ _ _ ⟨rfl, rfl, rfl⟩
     refine W_pick rfl rfl rfl rfl ?_
     refine W_move rfl rfl rfl ?_
     cases hb206 : ((m_netmodel_out y176.Most y176.Least 100000))
     ·refine W_field (o := 4) rfl rfl runUnderlying46 rfl sizeOf3 rfl rfl rfl ?_
      refine W_load rfl rfl isAgg3 rfl (own_at (List.mem_cons_of_mem _ (List.mem_cons_self ..)) rfl) ?_
      refine W_call call55 rfl rfl rfl (fun w ht => by have h := m_netmodel_permitted_c (hm := (rfl : m_netmodel_permitted y176.Ramp = _))  ht; exact h) ?_
      rintro _ _ _ ⟨rfl, rfl, rfl⟩
      refine W_un rfl rfl rfl rfl ?_
      refine W_pick rfl rfl rfl rfl ?_
      refine W_end ?_
      refine E_drop (List.Sublist.cons_cons _ (List.Sublist.cons _ (List.Sublist.refl _))) ?_
      exact E_keepJ (J203 _ _ _ ⟨rfl, rfl, rfl⟩) (List.Perm.refl _) ⟨rfl, rfl, rfl, rfl, rfl, (by show some (Value.bool (!(m_netmodel_permitted y176.Ramp))) = some (Value.bool (((!(m_netmodel_permitted y176.Least)) || (m_netmodel_out y176.Most y176.Least 100000)) || (!(m_netmodel_permitted y176.Ramp)))); first | (simp only [hb200, hb205, hb206, Bool.and_true, Bool.true_and, Bool.false_and, Bool.and_false, Bool.or_true, Bool.true_or, Bool.or_false, Bool.false_or, Bool.not_true, Bool.not_false]; done) | (simp only [hb200, hb205, hb206]; first | done | simp only [Bool.and_true, Bool.true_and, Bool.false_and, Bool.and_false, Bool.or_true, Bool.true_or, Bool.or_false, Bool.false_or, Bool.not_true, Bool.not_false])), trivial⟩
     ·refine W_no rfl rfl rfl ?_
      refine W_no rfl rfl rfl ?_
      refine W_no rfl rfl rfl ?_
      refine W_no rfl rfl rfl ?_
      refine W_pick rfl rfl rfl rfl ?_
      refine W_end ?_
      refine E_drop (List.Sublist.cons_cons _ (List.Sublist.cons _ (List.Sublist.refl _))) ?_
      exact E_keepJ (J203 _ _ _ ⟨rfl, rfl, rfl⟩) (List.Perm.refl _) ⟨rfl, rfl, rfl, rfl, rfl, (by show some (Value.bool (true)) = some (Value.bool (((!(m_netmodel_permitted y176.Least)) || (m_netmodel_out y176.Most y176.Least 100000)) || (!(m_netmodel_permitted y176.Ramp)))); first | (simp only [hb200, hb205, hb206, Bool.and_true, Bool.true_and, Bool.false_and, Bool.and_false, Bool.or_true, Bool.true_or, Bool.or_false, Bool.false_or, Bool.not_true, Bool.not_false]; done) | (simp only [hb200, hb205, hb206]; first | done | simp only [Bool.and_true, Bool.true_and, Bool.false_and, Bool.and_false, Bool.or_true, Bool.true_or, Bool.or_false, Bool.false_or, Bool.not_true, Bool.not_false])), trivial⟩
 ·obtain rfl := rng_f hd179 hb181
  have hm : (forI (fun k y s266 n => m_netmodel_checker_ends_b2 p0_c k y s266 n) (fun s266 => forI (fun k y s365 n => m_netmodel_checker_ends_b3 p0_c k y s365 n) (fun s365 => some (0, (S_netmodel_checker.mk s365 p0_c.nodes))) 0 p1_n.Stores s266) 0 p1_n.Loads l168) = some r := hm
  refine C_exit (E_exit_then (E_exit_then (E_exit_hit (E_then (C_seq (C_seq (C_region ?_)))))))
  refine W_field (o := 4) rfl rfl runUnderlying29 rfl sizeOf26 rfl rfl rfl ?_
  refine W_load rfl rfl isAgg26 rfl (own_at (List.mem_cons_self ..) rfl) ?_
  refine W_lenR rfl rfl runUnderlying26 rfl (h6.mono hle171) ?_
  refine W_move rfl rfl rfl ?_
  refine W_end (E_then (C_block ?_))
  refine C_keep (L' := [(2, .pointer (some ⟨b101, 0, none⟩)), (3, .pointer (some ⟨b102, 0, none⟩)), (50, v5), (51, .int .i64 ((p1_n.Loads.length : Int))), (52, .int .i64 (((0 : Nat) : Int)))]) ⟨rfl, rfl, rfl, rfl, rfl, trivial⟩ (List.Perm.refl _) ?_
  refine C_loop (fun n H' M' L' => ∃ (k207 : Nat) (zs271' : List S_api_Load), ∃ l262 : (List (ByteArray × Bool)), ∃ es260 : Array MapEntry, ∃ cl261 : Nat, (p1_n.Loads).drop k207 = zs271' ∧ zs271'.length = n ∧ forI (fun k y s266 n => m_netmodel_checker_ends_b2 p0_c k y s266 n) (fun s266 => forI (fun k y s365 n => m_netmodel_checker_ends_b3 p0_c k y s365 n) (fun s365 => some (0, (S_netmodel_checker.mk s365 p0_c.nodes))) 0 p1_n.Stores s266) k207 zs271' l262 = some r ∧ MapR es260 l262 ∧ H170.le H' ∧ .obj b102 (.cells [v1, v2, v3, v4, v5, v6].toArray 29 (0, 0)) :: .obj b101 (.cells [.map (some b0), v0].toArray 80 (0, 0)) :: .obj b0 (.map es260 cl261) :: M = M' ∧ [(2, .pointer (some ⟨b101, 0, none⟩)), (3, .pointer (some ⟨b102, 0, none⟩)), (50, v5), (51, .int .i64 ((p1_n.Loads.length : Int))), (52, .int .i64 ((k207 : Int)))] = L') _ ⟨0, _, l168, es166, cl167, rfl, rfl, hm, hm169, (Hp.le_refl _), rfl, rfl⟩ ?_
  rintro _ H264 _ _ ⟨k207, zs271', l262, es260, cl261, hd273, rfl, hm, hm263, hle265, rfl, rfl⟩
  refine C_seq (C_region ?_)
  refine W_bin rfl rfl rfl rfl rfl ?_
  refine W_end (E_then (C_seq ?_))
  refine C_cond (b := decide ((k207 : Int) < (p1_n.Loads.length : Int))) rfl (fun hb275 => ?_) (fun hb275 => ?_)
  ·obtain ⟨y270, zs271, rfl, hy272, hd274⟩ := rng_t hd273 hb275
   have hm : m_netmodel_checker_ends_b2 p0_c k207 y270 l262 (forI (fun k y s266 n => m_netmodel_checker_ends_b2 p0_c k y s266 n) (fun s266 => forI (fun k y s365 n => m_netmodel_checker_ends_b3 p0_c k y s365 n) (fun s365 => some (0, (S_netmodel_checker.mk s365 p0_c.nodes))) 0 p1_n.Stores s266) (k207 + 1) zs271) = some r := hm
   generalize hn268 : forI (fun k y s266 n => m_netmodel_checker_ends_b2 p0_c k y s266 n) (fun s266 => forI (fun k y s365 n => m_netmodel_checker_ends_b3 p0_c k y s365 n) (fun s365 => some (0, (S_netmodel_checker.mk s365 p0_c.nodes))) 0 p1_n.Stores s266) (k207 + 1) zs271 = nx267 at hm
   unfold m_netmodel_checker_ends_b2 at hm
   refine C_skip (E_then (C_seq (C_block (C_seq (C_region ?_)))))
   obtain ⟨_, ⟨rfl⟩, hc276⟩ := (h6).elem hy272
   refine W_indexS rfl rfl runUnderlying26 sizeOf93 rfl ((h6.mono hle171).mono hle265) rfl (Int.natCast_nonneg _) hy272 ?_
   refine W_loadAgg rfl rfl isAgg93 sizeOf93 rfl ((hc276.mono hle171).mono hle265).at rfl ?_
   refine W_alloc (cs := [.string (⟨#[]⟩), .string (⟨#[]⟩), .int .i64 (0)]) rfl rfl zeroValue93 rfl (fun b277 => ?_)
   refine W_store (cs := [.string (y270.Name), .string (y270.Node), .int .i64 (y270.Demand)]) (out := [.string (y270.Name), .string (y270.Node), .int .i64 (y270.Demand)]) rfl sizeOf93 rfl rfl rfl rfl rfl (all_cons rfl (all_cons rfl (all_cons rfl all_nil))) (over_all rfl) ?_
   refine W_end (E_then (C_seq (C_seq (C_region ?_))))
   refine W_loadAgg rfl rfl isAgg80 sizeOf80 rfl (own_all (List.mem_cons_of_mem _ (List.mem_cons_of_mem _ (List.mem_cons_self ..)))) rfl ?_
   refine W_field (o := 0) rfl rfl runUnderlying93 rfl sizeOf9 rfl rfl rfl ?_
   refine W_load rfl rfl isAgg9 rfl (own_at (List.mem_cons_self ..) rfl) ?_
   refine W_field (o := 1) rfl rfl runUnderlying93 rfl sizeOf9 rfl rfl rfl ?_
   refine W_load rfl rfl isAgg9 rfl (own_at (List.mem_cons_self ..) rfl) ?_
   refine W_buildSliceO (α := ByteArray) (css := [[.string (y270.Node)]]) (zs := [.string (⟨#[]⟩)]) (out := [.string (y270.Node)]) (ys := [y270.Node]) rfl rfl rfl ⟨rfl, trivial⟩ runUnderlying22 sizeOf9 rfl zeroValue9 (by kernel_rfl) rfl rfl rfl rfl ⟨[.string (y270.Node)], [], rfl, rfl, rfl⟩ rfl ?_
   intro v278 xs279 hr280
   refine W_freeze (hr280).rd rfl (fun H281 hle282 h283 => ?_)
   refine W_perm (List.Perm.trans (List.Perm.cons _ (List.Perm.cons _ (List.Perm.swap _ _ _))) (List.Perm.trans (List.Perm.cons _ (List.Perm.swap _ _ _)) (List.Perm.swap _ _ _))) ?_
   obtain ⟨r284, hc285, hm⟩ := bind_some hm
   refine W_call call33 rfl rfl rfl (fun w ht => by have h := m_netmodel_checker_device_c (hm := hc285) hm263 (((h1.mono hle171).mono hle265).mono hle282) h283 ht; exact h) ?_
   rintro _ H292 _ ⟨hle293, es287, c288, v290, rfl, rfl, h289, h291⟩
   refine W_assign rfl rfl rfl ?_
   refine W_end (E_then (C_seq (C_region ?_)))
   refine W_move rfl rfl rfl ?_
   refine W_bin rfl rfl rfl rfl rfl ?_
   refine W_end (E_then ?_)
   refine C_cond (b := !decide (r284.1 = 0)) rfl (fun hb294 => ?_) (fun hb294 => ?_)
   ·have hm := ite_t' hb294 hm
    refine C_seq (C_region ?_)
    refine W_move rfl rfl rfl ?_
    refine W_assign rfl rfl rfl ?_
    refine W_end (E_then (C_ret (E_ret_then (E_ret_block (E_ret_then (E_ret_then (E_ret_block (E_ret_then ?_))))))))
    obtain rfl := Option.some.inj hm
    refine E_drop (List.Sublist.cons_cons _ (List.Sublist.cons _ (List.Sublist.cons _ (List.Sublist.cons _ (List.Sublist.refl _))))) ?_
    exact end1 rfl rfl ⟨(Hp.le_trans (Hp.le_trans (Hp.le_trans hle171 hle265) hle282) hle293), es287, c288, v0, rfl, rfl, h289, ((((h1.mono hle171).mono hle265).mono hle282).mono hle293)⟩
   ·have hm := ite_f' hb294 hm
    refine C_skip (E_then (C_seq (C_region ?_)))
    refine W_field (o := 2) rfl rfl runUnderlying93 rfl sizeOf3 rfl rfl rfl ?_
    refine W_load rfl rfl isAgg3 rfl (own_at (List.mem_cons_of_mem _ (List.mem_cons_self ..)) rfl) ?_
    refine W_call call55 rfl rfl rfl (fun w ht => by have h := m_netmodel_permitted_c (hm := (rfl : m_netmodel_permitted y270.Demand = _))  ht; exact h) ?_
    rintro _ _ _ ⟨rfl, rfl, rfl⟩
    refine W_un rfl rfl rfl rfl ?_
    refine W_end (E_then ?_)
    refine C_cond (b := !(m_netmodel_permitted y270.Demand)) rfl (fun hb295 => ?_) (fun hb295 => ?_)
    ·have hm := ite_t' hb295 hm
     refine C_seq (C_region ?_)
     refine W_assign rfl rfl rfl ?_
     refine W_end (E_then (C_ret (E_ret_block (E_ret_then (E_ret_then (E_ret_block (E_ret_then ?_)))))))
     obtain rfl := Option.some.inj hm
     refine E_drop (List.Sublist.cons_cons _ (List.Sublist.cons _ (List.Sublist.cons _ (List.Sublist.cons _ (List.Sublist.refl _))))) ?_
     exact end1 rfl rfl ⟨(Hp.le_trans (Hp.le_trans (Hp.le_trans hle171 hle265) hle282) hle293), es287, c288, v0, rfl, rfl, h289, ((((h1.mono hle171).mono hle265).mono hle282).mono hle293)⟩
    ·have hm := ite_f' hb295 hm
     refine C_skip (E_normal_block (E_then (C_region ?_)))
     refine W_bin rfl rfl rfl rfl rfl ?_
     refine W_move rfl rfl rfl ?_
     refine W_end ?_
     refine E_drop (List.Sublist.cons_cons _ (List.Sublist.cons _ (List.Sublist.refl _))) ?_
     exact E_keepJ (E_back (Nat.lt_succ_self _) ⟨k207 + 1, zs271, r284.2.seen, es287, c288, hd274, rfl, (by rw [hn268]; exact hm), h289, (Hp.le_trans (Hp.le_trans hle265 hle282) hle293), rfl, rfl⟩) (List.Perm.trans (List.Perm.swap _ _ _) (List.Perm.cons _ (List.Perm.swap _ _ _))) ⟨rfl, rfl, rfl, rfl, (congrArg (fun z => some (Value.int .i64 z)) (i64_succ hy272 (((h6.mono hle171).mono hle265)).lenMax)), trivial⟩
  ·obtain rfl := rng_f hd273 hb275
   have hm : (forI (fun k y s365 n => m_netmodel_checker_ends_b3 p0_c k y s365 n) (fun s365 => some (0, (S_netmodel_checker.mk s365 p0_c.nodes))) 0 p1_n.Stores l262) = some r := hm
   refine C_exit (E_exit_then (E_exit_then (E_exit_hit (E_then (C_seq (C_seq (C_region ?_)))))))
   refine W_field (o := 5) rfl rfl runUnderlying29 rfl sizeOf27 rfl rfl rfl ?_
   refine W_load rfl rfl isAgg27 rfl (own_at (List.mem_cons_self ..) rfl) ?_
   refine W_lenR rfl rfl runUnderlying27 rfl ((h7.mono hle171).mono hle265) ?_
   refine W_move rfl rfl rfl ?_
   refine W_end (E_then (C_block ?_))
   refine C_drop (List.Sublist.cons _ (List.Sublist.refl _)) ?_
   refine C_keep (L' := [(2, .pointer (some ⟨b101, 0, none⟩)), (72, v6), (73, .int .i64 ((p1_n.Stores.length : Int))), (74, .int .i64 (((0 : Nat) : Int)))]) ⟨rfl, rfl, rfl, rfl, trivial⟩ (List.Perm.refl _) ?_
   refine C_loop (fun n H' M' L' => ∃ (k296 : Nat) (zs370' : List S_api_Store), ∃ l361 : (List (ByteArray × Bool)), ∃ es359 : Array MapEntry, ∃ cl360 : Nat, (p1_n.Stores).drop k296 = zs370' ∧ zs370'.length = n ∧ forI (fun k y s365 n => m_netmodel_checker_ends_b3 p0_c k y s365 n) (fun s365 => some (0, (S_netmodel_checker.mk s365 p0_c.nodes))) k296 zs370' l361 = some r ∧ MapR es359 l361 ∧ H264.le H' ∧ .obj b101 (.cells [.map (some b0), v0].toArray 80 (0, 0)) :: .obj b0 (.map es359 cl360) :: M = M' ∧ [(2, .pointer (some ⟨b101, 0, none⟩)), (72, v6), (73, .int .i64 ((p1_n.Stores.length : Int))), (74, .int .i64 ((k296 : Int)))] = L') _ ⟨0, _, l262, es260, cl261, rfl, rfl, hm, hm263, (Hp.le_refl _), rfl, rfl⟩ ?_
   rintro _ H363 _ _ ⟨k296, zs370', l361, es359, cl360, hd372, rfl, hm, hm362, hle364, rfl, rfl⟩
   refine C_seq (C_region ?_)
   refine W_bin rfl rfl rfl rfl rfl ?_
   refine W_end (E_then (C_seq ?_))
   refine C_cond (b := decide ((k296 : Int) < (p1_n.Stores.length : Int))) rfl (fun hb374 => ?_) (fun hb374 => ?_)
   ·obtain ⟨y369, zs370, rfl, hy371, hd373⟩ := rng_t hd372 hb374
    have hm : m_netmodel_checker_ends_b3 p0_c k296 y369 l361 (forI (fun k y s365 n => m_netmodel_checker_ends_b3 p0_c k y s365 n) (fun s365 => some (0, (S_netmodel_checker.mk s365 p0_c.nodes))) (k296 + 1) zs370) = some r := hm
    generalize hn367 : forI (fun k y s365 n => m_netmodel_checker_ends_b3 p0_c k y s365 n) (fun s365 => some (0, (S_netmodel_checker.mk s365 p0_c.nodes))) (k296 + 1) zs370 = nx366 at hm
    unfold m_netmodel_checker_ends_b3 at hm
    refine C_skip (E_then (C_seq (C_block (C_seq (C_region ?_)))))
    obtain ⟨_, ⟨rfl⟩, hc375⟩ := (h7).elem hy371
    refine W_indexS rfl rfl runUnderlying27 sizeOf96 rfl (((h7.mono hle171).mono hle265).mono hle364) rfl (Int.natCast_nonneg _) hy371 ?_
    refine W_loadAgg rfl rfl isAgg96 sizeOf96 rfl (((hc375.mono hle171).mono hle265).mono hle364).at rfl ?_
    refine W_alloc (cs := [.string (⟨#[]⟩), .string (⟨#[]⟩), .int .i64 (0), .int .i64 (0), .int .i64 (0)]) rfl rfl zeroValue96 rfl (fun b376 => ?_)
    refine W_store (cs := [.string (y369.Name), .string (y369.Node), .int .i64 (y369.Charge), .int .i64 (y369.Discharge), .int .i64 (y369.Capacity)]) (out := [.string (y369.Name), .string (y369.Node), .int .i64 (y369.Charge), .int .i64 (y369.Discharge), .int .i64 (y369.Capacity)]) rfl sizeOf96 rfl rfl rfl rfl rfl (all_cons rfl (all_cons rfl (all_cons rfl (all_cons rfl (all_cons rfl all_nil))))) (over_all rfl) ?_
    refine W_end (E_then (C_seq (C_seq (C_region ?_))))
    refine W_loadAgg rfl rfl isAgg80 sizeOf80 rfl (own_all (List.mem_cons_of_mem _ (List.mem_cons_self ..))) rfl ?_
    refine W_field (o := 0) rfl rfl runUnderlying96 rfl sizeOf9 rfl rfl rfl ?_
    refine W_load rfl rfl isAgg9 rfl (own_at (List.mem_cons_self ..) rfl) ?_
    refine W_field (o := 1) rfl rfl runUnderlying96 rfl sizeOf9 rfl rfl rfl ?_
    refine W_load rfl rfl isAgg9 rfl (own_at (List.mem_cons_self ..) rfl) ?_
    refine W_buildSliceO (α := ByteArray) (css := [[.string (y369.Node)]]) (zs := [.string (⟨#[]⟩)]) (out := [.string (y369.Node)]) (ys := [y369.Node]) rfl rfl rfl ⟨rfl, trivial⟩ runUnderlying22 sizeOf9 rfl zeroValue9 (by kernel_rfl) rfl rfl rfl rfl ⟨[.string (y369.Node)], [], rfl, rfl, rfl⟩ rfl ?_
    intro v377 xs378 hr379
    refine W_freeze (hr379).rd rfl (fun H380 hle381 h382 => ?_)
    refine W_perm (List.Perm.trans (List.Perm.cons _ (List.Perm.swap _ _ _)) (List.Perm.swap _ _ _)) ?_
    obtain ⟨r383, hc384, hm⟩ := bind_some hm
    refine W_call call33 rfl rfl rfl (fun w ht => by have h := m_netmodel_checker_device_c (hm := hc384) hm362 ((((h1.mono hle171).mono hle265).mono hle364).mono hle381) h382 ht; exact h) ?_
    rintro _ H391 _ ⟨hle392, es386, c387, v389, rfl, rfl, h388, h390⟩
    refine W_assign rfl rfl rfl ?_
    refine W_end (E_then (C_seq (C_region ?_)))
    refine W_move rfl rfl rfl ?_
    refine W_bin rfl rfl rfl rfl rfl ?_
    refine W_end (E_then ?_)
    refine C_cond (b := !decide (r383.1 = 0)) rfl (fun hb393 => ?_) (fun hb393 => ?_)
    ·have hm := ite_t' hb393 hm
     refine C_seq (C_region ?_)
     refine W_move rfl rfl rfl ?_
     refine W_assign rfl rfl rfl ?_
     refine W_end (E_then (C_ret (E_ret_then (E_ret_block (E_ret_then (E_ret_then (E_ret_block (E_ret_then ?_))))))))
     obtain rfl := Option.some.inj hm
     refine E_drop (List.Sublist.cons_cons _ (List.Sublist.cons _ (List.Sublist.cons _ (List.Sublist.refl _)))) ?_
     exact end1 rfl rfl ⟨(Hp.le_trans (Hp.le_trans (Hp.le_trans (Hp.le_trans hle171 hle265) hle364) hle381) hle392), es386, c387, v0, rfl, rfl, h388, (((((h1.mono hle171).mono hle265).mono hle364).mono hle381).mono hle392)⟩
    ·have hm := ite_f' hb393 hm
     refine C_skip (E_then ?_)
     refine C_seq_join (fun H' M' L' => H391 = H' ∧ .obj b0 (.map es386 c387) :: .obj b101 (.cells [.map (some b0), v0].toArray 80 (0, 0)) :: M = M' ∧ [(2, .pointer (some ⟨b101, 0, none⟩)), (72, v6), (73, .int .i64 ((p1_n.Stores.length : Int))), (74, .int .i64 ((k296 : Int))), (103, .bool (((!(m_netmodel_permitted y369.Charge)) || (!(m_netmodel_permitted y369.Discharge))) || (!(m_netmodel_permitted y369.Capacity))))] = L') ?_ (fun J396 => ?_)
     ·rintro _ _ _ ⟨rfl, rfl, rfl⟩
      refine C_cond (b := ((!(m_netmodel_permitted y369.Charge)) || (!(m_netmodel_permitted y369.Discharge))) || (!(m_netmodel_permitted y369.Capacity))) rfl (fun hb397 => ?_) (fun hb397 => ?_)
      ·have hm := ite_t' hb397 hm
       refine C_seq (C_region ?_)
       refine W_assign rfl rfl rfl ?_
       refine W_end (E_then (C_ret (E_ret_block (E_ret_then (E_ret_then (E_ret_block (E_ret_then ?_)))))))
       obtain rfl := Option.some.inj hm
       refine E_drop (List.Sublist.cons_cons _ (List.Sublist.cons _ (List.Sublist.refl _))) ?_
       exact end1 rfl rfl ⟨(Hp.le_trans (Hp.le_trans (Hp.le_trans (Hp.le_trans hle171 hle265) hle364) hle381) hle392), es386, c387, v0, rfl, rfl, h388, (((((h1.mono hle171).mono hle265).mono hle364).mono hle381).mono hle392)⟩
      ·have hm := ite_f' hb397 hm
       refine C_skip (E_normal_block (E_then (C_region ?_)))
       refine W_bin rfl rfl rfl rfl rfl ?_
       refine W_move rfl rfl rfl ?_
       refine W_end ?_
       exact E_keepJ (E_back (Nat.lt_succ_self _) ⟨k296 + 1, zs370, r383.2.seen, es386, c387, hd373, rfl, (by rw [hn367]; exact hm), h388, (Hp.le_trans (Hp.le_trans hle364 hle381) hle392), rfl, rfl⟩) (List.Perm.swap _ _ _) ⟨rfl, rfl, rfl, (congrArg (fun z => some (Value.int .i64 z)) (i64_succ hy371 ((((h7.mono hle171).mono hle265).mono hle364)).lenMax)), trivial⟩
     ·refine C_region ?_
      refine W_field (o := 2) rfl rfl runUnderlying96 rfl sizeOf3 rfl rfl rfl ?_
      refine W_load rfl rfl isAgg3 rfl (own_at (List.mem_cons_of_mem _ (List.mem_cons_self ..)) rfl) ?_
      refine W_call call55 rfl rfl rfl (fun w ht => by have h := m_netmodel_permitted_c (hm := (rfl : m_netmodel_permitted y369.Charge = _))  ht; exact h) ?_
      rintro _ _ _ ⟨rfl, rfl, rfl⟩
      refine W_un rfl rfl rfl rfl ?_
      refine W_move rfl rfl rfl ?_
      cases hb398 : (m_netmodel_permitted y369.Charge)
      ·refine W_no rfl rfl rfl ?_
       refine W_no rfl rfl rfl ?_
       refine W_no rfl rfl rfl ?_
       refine W_no rfl rfl rfl ?_
       refine W_pick rfl rfl rfl rfl ?_
       refine W_move rfl rfl rfl ?_
       refine W_no rfl rfl rfl ?_
       refine W_no rfl rfl rfl ?_
       refine W_no rfl rfl rfl ?_
       refine W_no rfl rfl rfl ?_
       refine W_pick rfl rfl rfl rfl ?_
       refine W_end ?_
       refine E_drop (List.Sublist.cons_cons _ (List.Sublist.cons _ (List.Sublist.refl _))) ?_
       exact E_keepJ (J396 _ _ _ ⟨rfl, rfl, rfl⟩) (List.Perm.refl _) ⟨rfl, rfl, rfl, rfl, (by show some (Value.bool (true)) = some (Value.bool (((!(m_netmodel_permitted y369.Charge)) || (!(m_netmodel_permitted y369.Discharge))) || (!(m_netmodel_permitted y369.Capacity)))); first | (simp only [hb393, hb398, Bool.and_true, Bool.true_and, Bool.false_and, Bool.and_false, Bool.or_true, Bool.true_or, Bool.or_false, Bool.false_or, Bool.not_true, Bool.not_false]; done) | (simp only [hb393, hb398]; first | done | simp only [Bool.and_true, Bool.true_and, Bool.false_and, Bool.and_false, Bool.or_true, Bool.true_or, Bool.or_false, Bool.false_or, Bool.not_true, Bool.not_false])), trivial⟩
      ·refine W_field (o := 3) rfl rfl runUnderlying96 rfl sizeOf3 rfl rfl rfl ?_
       refine W_load rfl rfl isAgg3 rfl (own_at (List.mem_cons_of_mem _ (List.mem_cons_self ..)) rfl) ?_
       refine W_call call55 rfl rfl rfl (fun w ht => by have h := m_netmodel_permitted_c (hm := (rfl : m_netmodel_permitted y369.Discharge = _))  ht; exact h) ?_
       rintro _ _ _ ⟨rfl, rfl, rfl⟩
       refine W_un rfl rfl rfl rfl ?_
       refine W_pick rfl rfl rfl rfl ?_
       refine W_move rfl rfl rfl ?_
       cases hb399 : (m_netmodel_permitted y369.Discharge)
       ·refine W_no rfl rfl rfl ?_
        refine W_no rfl rfl rfl ?_
        refine W_no rfl rfl rfl ?_
        refine W_no rfl rfl rfl ?_
        refine W_pick rfl rfl rfl rfl ?_
        refine W_end ?_
        refine E_drop (List.Sublist.cons_cons _ (List.Sublist.cons _ (List.Sublist.refl _))) ?_
        exact E_keepJ (J396 _ _ _ ⟨rfl, rfl, rfl⟩) (List.Perm.refl _) ⟨rfl, rfl, rfl, rfl, (by show some (Value.bool (true)) = some (Value.bool (((!(m_netmodel_permitted y369.Charge)) || (!(m_netmodel_permitted y369.Discharge))) || (!(m_netmodel_permitted y369.Capacity)))); first | (simp only [hb393, hb398, hb399, Bool.and_true, Bool.true_and, Bool.false_and, Bool.and_false, Bool.or_true, Bool.true_or, Bool.or_false, Bool.false_or, Bool.not_true, Bool.not_false]; done) | (simp only [hb393, hb398, hb399]; first | done | simp only [Bool.and_true, Bool.true_and, Bool.false_and, Bool.and_false, Bool.or_true, Bool.true_or, Bool.or_false, Bool.false_or, Bool.not_true, Bool.not_false])), trivial⟩
       ·refine W_field (o := 4) rfl rfl runUnderlying96 rfl sizeOf3 rfl rfl rfl ?_
        refine W_load rfl rfl isAgg3 rfl (own_at (List.mem_cons_of_mem _ (List.mem_cons_self ..)) rfl) ?_
        refine W_call call55 rfl rfl rfl (fun w ht => by have h := m_netmodel_permitted_c (hm := (rfl : m_netmodel_permitted y369.Capacity = _))  ht; exact h) ?_
        rintro _ _ _ ⟨rfl, rfl, rfl⟩
        refine W_un rfl rfl rfl rfl ?_
        refine W_pick rfl rfl rfl rfl ?_
        refine W_end ?_
        refine E_drop (List.Sublist.cons_cons _ (List.Sublist.cons _ (List.Sublist.refl _))) ?_
        exact E_keepJ (J396 _ _ _ ⟨rfl, rfl, rfl⟩) (List.Perm.refl _) ⟨rfl, rfl, rfl, rfl, (by show some (Value.bool (!(m_netmodel_permitted y369.Capacity))) = some (Value.bool (((!(m_netmodel_permitted y369.Charge)) || (!(m_netmodel_permitted y369.Discharge))) || (!(m_netmodel_permitted y369.Capacity)))); first | (simp only [hb393, hb398, hb399, Bool.and_true, Bool.true_and, Bool.false_and, Bool.and_false, Bool.or_true, Bool.true_or, Bool.or_false, Bool.false_or, Bool.not_true, Bool.not_false]; done) | (simp only [hb393, hb398, hb399]; first | done | simp only [Bool.and_true, Bool.true_and, Bool.false_and, Bool.and_false, Bool.or_true, Bool.true_or, Bool.or_false, Bool.false_or, Bool.not_true, Bool.not_false])), trivial⟩
   ·obtain rfl := rng_f hd372 hb374
    have hm : (some (0, (S_netmodel_checker.mk l361 p0_c.nodes))) = some r := hm
    refine C_exit (E_exit_then (E_exit_then (E_exit_hit (E_then (C_seq (C_region ?_))))))
    refine W_assign rfl rfl rfl ?_
    refine W_end (E_then (C_ret ?_))
    obtain rfl := Option.some.inj hm
    refine E_drop (List.Sublist.cons _ (List.Sublist.refl _)) ?_
    exact end1 rfl rfl ⟨(Hp.le_trans (Hp.le_trans hle171 hle265) hle364), es359, cl360, v0, rfl, rfl, hm362, (((h1.mono hle171).mono hle265).mono hle364)⟩

theorem m_netmodel_Check_c {B : Nat} {w0 w : World} {H : Hp} {M : List Res} {p0_n : S_api_Network} {v0 : Value} {v1 : Value} {v2 : Value} {v3 : Value} {v4 : Value} {v5 : Value} {r : Int} (hm : m_netmodel_Check p0_n = some r) (h0 : RdS H v0 p0_n.Nodes) (h1 : RdS H v1 p0_n.Switches) (h2 : RdS H v2 p0_n.Branches) (h3 : RdS H v3 p0_n.Gens) (h4 : RdS H v4 p0_n.Loads) (h5 : RdS H v5 p0_n.Stores) (ht : St B w0 H (M) w) :
  Calls prog 16 [.agg [v0, v1, v2, v3, v4, v5].toArray].toArray w (Ret B w0 fun H' M' v => H = H' ∧ M = M' ∧ .int .i64 (r) = v) := by
 unfold m_netmodel_Check at hm
 refine enter func16 rfl rfl rfl ht ?_
 refine C_seq (C_region ?_)
 refine W_box (cs := [v0, v1, v2, v3, v4, v5]) rfl rfl rfl rfl (fun b101 => ?_)
 refine W_assign rfl rfl rfl ?_
 refine W_end (E_then (C_seq ?_))
 refine C_seq_join (fun H' M' L' => H = H' ∧ .obj b101 (.cells [v0, v1, v2, v3, v4, v5].toArray 29 (0, 0)) :: M = M' ∧ [(1, .pointer (some ⟨b101, 0, none⟩)), (47, .bool ((((((decide (24 < (p0_n.Nodes.length : Int))) || (decide (32 < (p0_n.Switches.length : Int)))) || (decide (24 < (p0_n.Branches.length : Int)))) || (decide (10 < (p0_n.Gens.length : Int)))) || (decide (12 < (p0_n.Loads.length : Int)))) || (decide (4 < (p0_n.Stores.length : Int)))))] = L') ?_ (fun J107 => ?_)
 ·rintro _ _ _ ⟨rfl, rfl, rfl⟩
  refine C_cond (b := (((((decide (24 < (p0_n.Nodes.length : Int))) || (decide (32 < (p0_n.Switches.length : Int)))) || (decide (24 < (p0_n.Branches.length : Int)))) || (decide (10 < (p0_n.Gens.length : Int)))) || (decide (12 < (p0_n.Loads.length : Int)))) || (decide (4 < (p0_n.Stores.length : Int)))) rfl (fun hb108 => ?_) (fun hb108 => ?_)
  ·have hm := ite_t' hb108 hm
   refine C_seq (C_region ?_)
   refine W_assign rfl rfl rfl ?_
   refine W_end (E_then (C_ret (E_ret_then ?_)))
   obtain rfl := Option.some.inj hm
   refine E_drop (List.Sublist.cons _ (List.Sublist.refl _)) ?_
   refine E_weak (Hp.le_refl _) ?_
   exact end1 rfl rfl ⟨rfl, rfl, rfl⟩
  ·have hm := ite_f' hb108 hm
   refine C_skip (E_then (C_seq (C_region ?_)))
   refine W_makeMap rfl rfl (fun b109 => ?_)
   refine W_field (o := 0) rfl rfl runUnderlying29 rfl sizeOf22 rfl rfl rfl ?_
   refine W_load rfl rfl isAgg22 rfl (own_at (List.mem_cons_of_mem _ (List.mem_cons_self ..)) rfl) ?_
   refine W_build (css := [[.map (some b109)], [v0]]) (zs := [.map none, .slice none 0 0]) (out := [.map (some b109), v0]) (places := [(0, 1), (1, 1)]) rfl rfl rfl ⟨rfl, (RdS.cells h0), trivial⟩ zeroValue80 rfl runUnderlying80 (fun w => by kernel_rfl) rfl ?_
   refine W_alloc (cs := [.map none, .slice none 0 0]) rfl rfl zeroValue80 rfl (fun b110 => ?_)
   refine W_store (cs := [.map (some b109), v0]) (out := [.map (some b109), v0]) rfl sizeOf80 rfl rfl rfl rfl rfl (all_cons rfl (all_cons (RdS.one1 h0) all_nil)) (over_all rfl) ?_
   refine W_end (E_then (C_seq (C_seq (C_region ?_))))
   refine W_field (o := 0) rfl rfl runUnderlying29 rfl sizeOf22 rfl rfl rfl ?_
   refine W_load rfl rfl isAgg22 rfl (own_at (List.mem_cons_of_mem _ (List.mem_cons_of_mem _ (List.mem_cons_self ..))) rfl) ?_
   refine W_lenR rfl rfl runUnderlying22 rfl h0 ?_
   refine W_move rfl rfl rfl ?_
   refine W_end (E_then (C_block ?_))
   refine C_keep (L' := [(1, .pointer (some ⟨b101, 0, none⟩)), (3, .pointer (some ⟨b110, 0, none⟩)), (53, v0), (54, .int .i64 ((p0_n.Nodes.length : Int))), (55, .int .i64 (((0 : Nat) : Int)))]) ⟨rfl, rfl, rfl, rfl, rfl, trivial⟩ (List.Perm.refl _) ?_
   refine C_loop (fun n H' M' L' => ∃ (k111 : Nat) (zs159' : List ByteArray), ∃ l150 : (List (ByteArray × Bool)), ∃ es148 : Array MapEntry, ∃ cl149 : Nat, (p0_n.Nodes).drop k111 = zs159' ∧ zs159'.length = n ∧ forI (fun k y s154 n => m_netmodel_Check_b1 p0_n k y s154 n) (fun s154 => forI (fun k y s233 n => m_netmodel_Check_b2 p0_n k y s233 n) (fun s233 => forI (fun k y s321 n => m_netmodel_Check_b3 p0_n k y s321 n) (fun s321 => (m_netmodel_checker_ends (S_netmodel_checker.mk s321 p0_n.Nodes) p0_n).bind fun r351 => some r351.1) 0 p0_n.Branches s233) 0 p0_n.Switches s154) k111 zs159' l150 = some r ∧ MapR es148 l150 ∧ H.le H' ∧ .obj b110 (.cells [.map (some b109), v0].toArray 80 (0, 0)) :: .obj b109 (.map es148 cl149) :: .obj b101 (.cells [v0, v1, v2, v3, v4, v5].toArray 29 (0, 0)) :: M = M' ∧ [(1, .pointer (some ⟨b101, 0, none⟩)), (3, .pointer (some ⟨b110, 0, none⟩)), (53, v0), (54, .int .i64 ((p0_n.Nodes.length : Int))), (55, .int .i64 ((k111 : Int)))] = L') _ ⟨0, _, ([] : (List (ByteArray × Bool))), (#[]), 0, rfl, rfl, hm, (MapR.nil (κ := ByteArray) (ν := Bool)), (Hp.le_refl _), rfl, rfl⟩ ?_
   rintro _ H152 _ _ ⟨k111, zs159', l150, es148, cl149, hd161, rfl, hm, hm151, hle153, rfl, rfl⟩
   refine C_seq (C_region ?_)
   refine W_bin rfl rfl rfl rfl rfl ?_
   refine W_end (E_then (C_seq ?_))
   refine C_cond (b := decide ((k111 : Int) < (p0_n.Nodes.length : Int))) rfl (fun hb163 => ?_) (fun hb163 => ?_)
   ·obtain ⟨y158, zs159, rfl, hy160, hd162⟩ := rng_t hd161 hb163
    have hm : m_netmodel_Check_b1 p0_n k111 y158 l150 (forI (fun k y s154 n => m_netmodel_Check_b1 p0_n k y s154 n) (fun s154 => forI (fun k y s233 n => m_netmodel_Check_b2 p0_n k y s233 n) (fun s233 => forI (fun k y s321 n => m_netmodel_Check_b3 p0_n k y s321 n) (fun s321 => (m_netmodel_checker_ends (S_netmodel_checker.mk s321 p0_n.Nodes) p0_n).bind fun r351 => some r351.1) 0 p0_n.Branches s233) 0 p0_n.Switches s154) (k111 + 1) zs159) = some r := hm
    generalize hn156 : forI (fun k y s154 n => m_netmodel_Check_b1 p0_n k y s154 n) (fun s154 => forI (fun k y s233 n => m_netmodel_Check_b2 p0_n k y s233 n) (fun s233 => forI (fun k y s321 n => m_netmodel_Check_b3 p0_n k y s321 n) (fun s321 => (m_netmodel_checker_ends (S_netmodel_checker.mk s321 p0_n.Nodes) p0_n).bind fun r351 => some r351.1) 0 p0_n.Branches s233) 0 p0_n.Switches s154) (k111 + 1) zs159 = nx155 at hm
    unfold m_netmodel_Check_b1 at hm
    refine C_skip (E_then (C_seq (C_block (C_seq (C_region ?_)))))
    obtain ⟨_, rfl, hc164⟩ := (h0).elem hy160
    refine W_indexS rfl rfl runUnderlying22 sizeOf9 rfl (h0.mono hle153) rfl (Int.natCast_nonneg _) hy160 ?_
    refine W_load rfl rfl isAgg9 rfl (HCells.one (hc164.mono hle153) 0 rfl).at ?_
    refine W_assign rfl rfl rfl ?_
    refine W_end (E_then (C_seq (C_region ?_)))
    refine W_loadAgg rfl rfl isAgg80 sizeOf80 rfl (own_all (List.mem_cons_self ..)) rfl ?_
    refine W_move rfl rfl rfl ?_
    refine W_perm (List.Perm.swap _ _ _) ?_
    obtain ⟨r165, hc166, hm⟩ := bind_some hm
    refine W_call call33 rfl rfl rfl (fun w ht => by have h := m_netmodel_checker_device_c (hm := hc166) hm151 (h0.mono hle153) RdS.nil ht; exact h) ?_
    rintro _ H173 _ ⟨hle174, es168, c169, v171, rfl, rfl, h170, h172⟩
    refine W_assign rfl rfl rfl ?_
    refine W_end (E_then (C_seq (C_region ?_)))
    refine W_move rfl rfl rfl ?_
    refine W_bin rfl rfl rfl rfl rfl ?_
    refine W_end (E_then ?_)
    refine C_cond (b := !decide (r165.1 = 0)) rfl (fun hb175 => ?_) (fun hb175 => ?_)
    ·have hm := ite_t' hb175 hm
     refine C_seq (C_region ?_)
     refine W_move rfl rfl rfl ?_
     refine W_assign rfl rfl rfl ?_
     refine W_end (E_then (C_ret (E_ret_block (E_ret_then (E_ret_then (E_ret_block (E_ret_then ?_)))))))
     obtain rfl := Option.some.inj hm
     refine E_drop (List.Sublist.cons _ (List.Sublist.cons _ (List.Sublist.cons _ (List.Sublist.refl _)))) ?_
     refine E_weak (Hp.le_trans hle153 hle174) ?_
     exact end1 rfl rfl ⟨rfl, rfl, rfl⟩
    ·have hm := ite_f' hb175 hm
     refine C_skip (E_normal_block (E_then (C_region ?_)))
     refine W_bin rfl rfl rfl rfl rfl ?_
     refine W_move rfl rfl rfl ?_
     refine W_end ?_
     exact E_keepJ (E_back (Nat.lt_succ_self _) ⟨k111 + 1, zs159, r165.2.seen, es168, c169, hd162, rfl, (by rw [hn156]; exact hm), h170, (Hp.le_trans hle153 hle174), rfl, rfl⟩) (List.Perm.swap _ _ _) ⟨rfl, rfl, rfl, rfl, (congrArg (fun z => some (Value.int .i64 z)) (i64_succ hy160 ((h0.mono hle153)).lenMax)), trivial⟩
   ·obtain rfl := rng_f hd161 hb163
    have hm : (forI (fun k y s233 n => m_netmodel_Check_b2 p0_n k y s233 n) (fun s233 => forI (fun k y s321 n => m_netmodel_Check_b3 p0_n k y s321 n) (fun s321 => (m_netmodel_checker_ends (S_netmodel_checker.mk s321 p0_n.Nodes) p0_n).bind fun r351 => some r351.1) 0 p0_n.Branches s233) 0 p0_n.Switches l150) = some r := hm
    refine C_exit (E_exit_then (E_exit_then (E_exit_hit (E_then (C_seq (C_seq (C_region ?_)))))))
    refine W_field (o := 1) rfl rfl runUnderlying29 rfl sizeOf23 rfl rfl rfl ?_
    refine W_load rfl rfl isAgg23 rfl (own_at (List.mem_cons_of_mem _ (List.mem_cons_of_mem _ (List.mem_cons_self ..))) rfl) ?_
    refine W_lenR rfl rfl runUnderlying23 rfl (h1.mono hle153) ?_
    refine W_move rfl rfl rfl ?_
    refine W_end (E_then (C_block ?_))
    refine C_keep (L' := [(1, .pointer (some ⟨b101, 0, none⟩)), (3, .pointer (some ⟨b110, 0, none⟩)), (67, v1), (68, .int .i64 ((p0_n.Switches.length : Int))), (69, .int .i64 (((0 : Nat) : Int)))]) ⟨rfl, rfl, rfl, rfl, rfl, trivial⟩ (List.Perm.refl _) ?_
    refine C_loop (fun n H' M' L' => ∃ (k176 : Nat) (zs238' : List S_api_Switch), ∃ l229 : (List (ByteArray × Bool)), ∃ es227 : Array MapEntry, ∃ cl228 : Nat, (p0_n.Switches).drop k176 = zs238' ∧ zs238'.length = n ∧ forI (fun k y s233 n => m_netmodel_Check_b2 p0_n k y s233 n) (fun s233 => forI (fun k y s321 n => m_netmodel_Check_b3 p0_n k y s321 n) (fun s321 => (m_netmodel_checker_ends (S_netmodel_checker.mk s321 p0_n.Nodes) p0_n).bind fun r351 => some r351.1) 0 p0_n.Branches s233) k176 zs238' l229 = some r ∧ MapR es227 l229 ∧ H152.le H' ∧ .obj b110 (.cells [.map (some b109), v0].toArray 80 (0, 0)) :: .obj b109 (.map es227 cl228) :: .obj b101 (.cells [v0, v1, v2, v3, v4, v5].toArray 29 (0, 0)) :: M = M' ∧ [(1, .pointer (some ⟨b101, 0, none⟩)), (3, .pointer (some ⟨b110, 0, none⟩)), (67, v1), (68, .int .i64 ((p0_n.Switches.length : Int))), (69, .int .i64 ((k176 : Int)))] = L') _ ⟨0, _, l150, es148, cl149, rfl, rfl, hm, hm151, (Hp.le_refl _), rfl, rfl⟩ ?_
    rintro _ H231 _ _ ⟨k176, zs238', l229, es227, cl228, hd240, rfl, hm, hm230, hle232, rfl, rfl⟩
    refine C_seq (C_region ?_)
    refine W_bin rfl rfl rfl rfl rfl ?_
    refine W_end (E_then (C_seq ?_))
    refine C_cond (b := decide ((k176 : Int) < (p0_n.Switches.length : Int))) rfl (fun hb242 => ?_) (fun hb242 => ?_)
    ·obtain ⟨y237, zs238, rfl, hy239, hd241⟩ := rng_t hd240 hb242
     have hm : m_netmodel_Check_b2 p0_n k176 y237 l229 (forI (fun k y s233 n => m_netmodel_Check_b2 p0_n k y s233 n) (fun s233 => forI (fun k y s321 n => m_netmodel_Check_b3 p0_n k y s321 n) (fun s321 => (m_netmodel_checker_ends (S_netmodel_checker.mk s321 p0_n.Nodes) p0_n).bind fun r351 => some r351.1) 0 p0_n.Branches s233) (k176 + 1) zs238) = some r := hm
     generalize hn235 : forI (fun k y s233 n => m_netmodel_Check_b2 p0_n k y s233 n) (fun s233 => forI (fun k y s321 n => m_netmodel_Check_b3 p0_n k y s321 n) (fun s321 => (m_netmodel_checker_ends (S_netmodel_checker.mk s321 p0_n.Nodes) p0_n).bind fun r351 => some r351.1) 0 p0_n.Branches s233) (k176 + 1) zs238 = nx234 at hm
     unfold m_netmodel_Check_b2 at hm
     refine C_skip (E_then (C_seq (C_block (C_seq (C_region ?_)))))
     obtain ⟨_, ⟨rfl⟩, hc243⟩ := (h1).elem hy239
     refine W_indexS rfl rfl runUnderlying23 sizeOf70 rfl ((h1.mono hle153).mono hle232) rfl (Int.natCast_nonneg _) hy239 ?_
     refine W_loadAgg rfl rfl isAgg70 sizeOf70 rfl ((hc243.mono hle153).mono hle232).at rfl ?_
     refine W_alloc (cs := [.string (⟨#[]⟩), .string (⟨#[]⟩), .string (⟨#[]⟩), .bool (false), .bool (false)]) rfl rfl zeroValue70 rfl (fun b244 => ?_)
     refine W_store (cs := [.string (y237.Name), .string (y237.A), .string (y237.B_), .bool (y237.Breaker), .bool (y237.Open)]) (out := [.string (y237.Name), .string (y237.A), .string (y237.B_), .bool (y237.Breaker), .bool (y237.Open)]) rfl sizeOf70 rfl rfl rfl rfl rfl (all_cons rfl (all_cons rfl (all_cons rfl (all_cons rfl (all_cons rfl all_nil))))) (over_all rfl) ?_
     refine W_end (E_then (C_seq (C_region ?_)))
     refine W_loadAgg rfl rfl isAgg80 sizeOf80 rfl (own_all (List.mem_cons_of_mem _ (List.mem_cons_self ..))) rfl ?_
     refine W_field (o := 0) rfl rfl runUnderlying70 rfl sizeOf9 rfl rfl rfl ?_
     refine W_load rfl rfl isAgg9 rfl (own_at (List.mem_cons_self ..) rfl) ?_
     refine W_field (o := 1) rfl rfl runUnderlying70 rfl sizeOf9 rfl rfl rfl ?_
     refine W_load rfl rfl isAgg9 rfl (own_at (List.mem_cons_self ..) rfl) ?_
     refine W_field (o := 2) rfl rfl runUnderlying70 rfl sizeOf9 rfl rfl rfl ?_
     refine W_load rfl rfl isAgg9 rfl (own_at (List.mem_cons_self ..) rfl) ?_
     refine W_buildSliceO (α := ByteArray) (css := [[.string (y237.A)], [.string (y237.B_)]]) (zs := [.string (⟨#[]⟩), .string (⟨#[]⟩)]) (out := [.string (y237.A), .string (y237.B_)]) (ys := [y237.A, y237.B_]) rfl rfl rfl ⟨rfl, rfl, trivial⟩ runUnderlying22 sizeOf9 rfl zeroValue9 (by kernel_rfl) rfl rfl rfl rfl ⟨[.string (y237.A)], [.string (y237.B_)], rfl, rfl, ⟨[.string (y237.B_)], [], rfl, rfl, rfl⟩⟩ rfl ?_
     intro v245 xs246 hr247
     refine W_freeze (hr247).rd rfl (fun H248 hle249 h250 => ?_)
     refine W_perm (List.Perm.trans (List.Perm.cons _ (List.Perm.swap _ _ _)) (List.Perm.swap _ _ _)) ?_
     obtain ⟨r251, hc252, hm⟩ := bind_some hm
     refine W_call call33 rfl rfl rfl (fun w ht => by have h := m_netmodel_checker_device_c (hm := hc252) hm230 (((h0.mono hle153).mono hle232).mono hle249) h250 ht; exact h) ?_
     rintro _ H259 _ ⟨hle260, es254, c255, v257, rfl, rfl, h256, h258⟩
     refine W_assign rfl rfl rfl ?_
     refine W_end (E_then (C_seq (C_region ?_)))
     refine W_move rfl rfl rfl ?_
     refine W_bin rfl rfl rfl rfl rfl ?_
     refine W_end (E_then ?_)
     refine C_cond (b := !decide (r251.1 = 0)) rfl (fun hb261 => ?_) (fun hb261 => ?_)
     ·have hm := ite_t' hb261 hm
      refine C_seq (C_region ?_)
      refine W_move rfl rfl rfl ?_
      refine W_assign rfl rfl rfl ?_
      refine W_end (E_then (C_ret (E_ret_block (E_ret_then (E_ret_then (E_ret_block (E_ret_then ?_)))))))
      obtain rfl := Option.some.inj hm
      refine E_drop (List.Sublist.cons _ (List.Sublist.cons _ (List.Sublist.cons _ (List.Sublist.cons _ (List.Sublist.refl _))))) ?_
      refine E_weak (Hp.le_trans (Hp.le_trans (Hp.le_trans hle153 hle232) hle249) hle260) ?_
      exact end1 rfl rfl ⟨rfl, rfl, rfl⟩
     ·have hm := ite_f' hb261 hm
      refine C_skip (E_normal_block (E_then (C_region ?_)))
      refine W_bin rfl rfl rfl rfl rfl ?_
      refine W_move rfl rfl rfl ?_
      refine W_end ?_
      refine E_drop (List.Sublist.cons_cons _ (List.Sublist.cons _ (List.Sublist.refl _))) ?_
      exact E_keepJ (E_back (Nat.lt_succ_self _) ⟨k176 + 1, zs238, r251.2.seen, es254, c255, hd241, rfl, (by rw [hn235]; exact hm), h256, (Hp.le_trans (Hp.le_trans hle232 hle249) hle260), rfl, rfl⟩) (List.Perm.swap _ _ _) ⟨rfl, rfl, rfl, rfl, (congrArg (fun z => some (Value.int .i64 z)) (i64_succ hy239 (((h1.mono hle153).mono hle232)).lenMax)), trivial⟩
    ·obtain rfl := rng_f hd240 hb242
     have hm : (forI (fun k y s321 n => m_netmodel_Check_b3 p0_n k y s321 n) (fun s321 => (m_netmodel_checker_ends (S_netmodel_checker.mk s321 p0_n.Nodes) p0_n).bind fun r351 => some r351.1) 0 p0_n.Branches l229) = some r := hm
     refine C_exit (E_exit_then (E_exit_then (E_exit_hit (E_then (C_seq (C_seq (C_region ?_)))))))
     refine W_field (o := 2) rfl rfl runUnderlying29 rfl sizeOf24 rfl rfl rfl ?_
     refine W_load rfl rfl isAgg24 rfl (own_at (List.mem_cons_of_mem _ (List.mem_cons_of_mem _ (List.mem_cons_self ..))) rfl) ?_
     refine W_lenR rfl rfl runUnderlying24 rfl ((h2.mono hle153).mono hle232) ?_
     refine W_move rfl rfl rfl ?_
     refine W_end (E_then (C_block ?_))
     refine C_keep (L' := [(1, .pointer (some ⟨b101, 0, none⟩)), (3, .pointer (some ⟨b110, 0, none⟩)), (87, v2), (88, .int .i64 ((p0_n.Branches.length : Int))), (89, .int .i64 (((0 : Nat) : Int)))]) ⟨rfl, rfl, rfl, rfl, rfl, trivial⟩ (List.Perm.refl _) ?_
     refine C_loop (fun n H' M' L' => ∃ (k262 : Nat) (zs326' : List S_api_Branch), ∃ l317 : (List (ByteArray × Bool)), ∃ es315 : Array MapEntry, ∃ cl316 : Nat, (p0_n.Branches).drop k262 = zs326' ∧ zs326'.length = n ∧ forI (fun k y s321 n => m_netmodel_Check_b3 p0_n k y s321 n) (fun s321 => (m_netmodel_checker_ends (S_netmodel_checker.mk s321 p0_n.Nodes) p0_n).bind fun r351 => some r351.1) k262 zs326' l317 = some r ∧ MapR es315 l317 ∧ H231.le H' ∧ .obj b110 (.cells [.map (some b109), v0].toArray 80 (0, 0)) :: .obj b109 (.map es315 cl316) :: .obj b101 (.cells [v0, v1, v2, v3, v4, v5].toArray 29 (0, 0)) :: M = M' ∧ [(1, .pointer (some ⟨b101, 0, none⟩)), (3, .pointer (some ⟨b110, 0, none⟩)), (87, v2), (88, .int .i64 ((p0_n.Branches.length : Int))), (89, .int .i64 ((k262 : Int)))] = L') _ ⟨0, _, l229, es227, cl228, rfl, rfl, hm, hm230, (Hp.le_refl _), rfl, rfl⟩ ?_
     rintro _ H319 _ _ ⟨k262, zs326', l317, es315, cl316, hd328, rfl, hm, hm318, hle320, rfl, rfl⟩
     refine C_seq (C_region ?_)
     refine W_bin rfl rfl rfl rfl rfl ?_
     refine W_end (E_then (C_seq ?_))
     refine C_cond (b := decide ((k262 : Int) < (p0_n.Branches.length : Int))) rfl (fun hb330 => ?_) (fun hb330 => ?_)
     ·obtain ⟨y325, zs326, rfl, hy327, hd329⟩ := rng_t hd328 hb330
      have hm : m_netmodel_Check_b3 p0_n k262 y325 l317 (forI (fun k y s321 n => m_netmodel_Check_b3 p0_n k y s321 n) (fun s321 => (m_netmodel_checker_ends (S_netmodel_checker.mk s321 p0_n.Nodes) p0_n).bind fun r351 => some r351.1) (k262 + 1) zs326) = some r := hm
      generalize hn323 : forI (fun k y s321 n => m_netmodel_Check_b3 p0_n k y s321 n) (fun s321 => (m_netmodel_checker_ends (S_netmodel_checker.mk s321 p0_n.Nodes) p0_n).bind fun r351 => some r351.1) (k262 + 1) zs326 = nx322 at hm
      unfold m_netmodel_Check_b3 at hm
      refine C_skip (E_then (C_seq (C_block (C_seq (C_region ?_)))))
      obtain ⟨_, ⟨rfl⟩, hc331⟩ := (h2).elem hy327
      refine W_indexS rfl rfl runUnderlying24 sizeOf83 rfl (((h2.mono hle153).mono hle232).mono hle320) rfl (Int.natCast_nonneg _) hy327 ?_
      refine W_loadAgg rfl rfl isAgg83 sizeOf83 rfl (((hc331.mono hle153).mono hle232).mono hle320).at rfl ?_
      refine W_alloc (cs := [.string (⟨#[]⟩), .string (⟨#[]⟩), .string (⟨#[]⟩), .int .i64 (0), .int .i64 (0), .int .i64 (0), .int .i64 (0), .int .i64 (0), .int .i64 (0)]) rfl rfl zeroValue83 rfl (fun b332 => ?_)
      refine W_store (cs := [.string (y325.Name), .string (y325.From), .string (y325.To), .int .i64 (y325.X), .int .i64 (y325.Tap), .int .i64 (y325.Shift), .int .i64 (y325.Limit), .int .i64 (y325.Short), .int .i64 (y325.Hold)]) (out := [.string (y325.Name), .string (y325.From), .string (y325.To), .int .i64 (y325.X), .int .i64 (y325.Tap), .int .i64 (y325.Shift), .int .i64 (y325.Limit), .int .i64 (y325.Short), .int .i64 (y325.Hold)]) rfl sizeOf83 rfl rfl rfl rfl rfl (all_cons rfl (all_cons rfl (all_cons rfl (all_cons rfl (all_cons rfl (all_cons rfl (all_cons rfl (all_cons rfl (all_cons rfl all_nil))))))))) (over_all rfl) ?_
      refine W_end (E_then (C_seq (C_seq (C_region ?_))))
      refine W_loadAgg rfl rfl isAgg80 sizeOf80 rfl (own_all (List.mem_cons_of_mem _ (List.mem_cons_self ..))) rfl ?_
      refine W_field (o := 0) rfl rfl runUnderlying83 rfl sizeOf9 rfl rfl rfl ?_
      refine W_load rfl rfl isAgg9 rfl (own_at (List.mem_cons_self ..) rfl) ?_
      refine W_field (o := 1) rfl rfl runUnderlying83 rfl sizeOf9 rfl rfl rfl ?_
      refine W_load rfl rfl isAgg9 rfl (own_at (List.mem_cons_self ..) rfl) ?_
      refine W_field (o := 2) rfl rfl runUnderlying83 rfl sizeOf9 rfl rfl rfl ?_
      refine W_load rfl rfl isAgg9 rfl (own_at (List.mem_cons_self ..) rfl) ?_
      refine W_buildSliceO (α := ByteArray) (css := [[.string (y325.From)], [.string (y325.To)]]) (zs := [.string (⟨#[]⟩), .string (⟨#[]⟩)]) (out := [.string (y325.From), .string (y325.To)]) (ys := [y325.From, y325.To]) rfl rfl rfl ⟨rfl, rfl, trivial⟩ runUnderlying22 sizeOf9 rfl zeroValue9 (by kernel_rfl) rfl rfl rfl rfl ⟨[.string (y325.From)], [.string (y325.To)], rfl, rfl, ⟨[.string (y325.To)], [], rfl, rfl, rfl⟩⟩ rfl ?_
      intro v333 xs334 hr335
      refine W_freeze (hr335).rd rfl (fun H336 hle337 h338 => ?_)
      refine W_perm (List.Perm.trans (List.Perm.cons _ (List.Perm.swap _ _ _)) (List.Perm.swap _ _ _)) ?_
      obtain ⟨r339, hc340, hm⟩ := bind_some hm
      refine W_call call33 rfl rfl rfl (fun w ht => by have h := m_netmodel_checker_device_c (hm := hc340) hm318 ((((h0.mono hle153).mono hle232).mono hle320).mono hle337) h338 ht; exact h) ?_
      rintro _ H347 _ ⟨hle348, es342, c343, v345, rfl, rfl, h344, h346⟩
      refine W_assign rfl rfl rfl ?_
      refine W_end (E_then (C_seq (C_region ?_)))
      refine W_move rfl rfl rfl ?_
      refine W_bin rfl rfl rfl rfl rfl ?_
      refine W_end (E_then ?_)
      refine C_cond (b := !decide (r339.1 = 0)) rfl (fun hb349 => ?_) (fun hb349 => ?_)
      ·have hm := ite_t' hb349 hm
       refine C_seq (C_region ?_)
       refine W_move rfl rfl rfl ?_
       refine W_assign rfl rfl rfl ?_
       refine W_end (E_then (C_ret (E_ret_then (E_ret_block (E_ret_then (E_ret_then (E_ret_block (E_ret_then ?_))))))))
       obtain rfl := Option.some.inj hm
       refine E_drop (List.Sublist.cons _ (List.Sublist.cons _ (List.Sublist.cons _ (List.Sublist.cons _ (List.Sublist.refl _))))) ?_
       refine E_weak (Hp.le_trans (Hp.le_trans (Hp.le_trans (Hp.le_trans hle153 hle232) hle320) hle337) hle348) ?_
       exact end1 rfl rfl ⟨rfl, rfl, rfl⟩
      ·have hm := ite_f' hb349 hm
       refine C_skip (E_then (C_seq (C_region ?_)))
       refine W_loadAgg rfl rfl isAgg83 sizeOf83 rfl (own_all (List.mem_cons_of_mem _ (List.mem_cons_self ..))) rfl ?_
       refine W_call call34 rfl rfl rfl (fun w ht => by have h := m_netmodel_Branch_c (hm := (rfl : m_netmodel_Branch y325 = _))  ht; exact h) ?_
       rintro _ _ _ ⟨rfl, rfl, rfl⟩
       refine W_assign rfl rfl rfl ?_
       refine W_end (E_then (C_seq (C_region ?_)))
       refine W_move rfl rfl rfl ?_
       refine W_bin rfl rfl rfl rfl rfl ?_
       refine W_end (E_then ?_)
       refine C_cond (b := !decide ((m_netmodel_Branch y325) = 0)) rfl (fun hb350 => ?_) (fun hb350 => ?_)
       ·have hm := ite_t' hb350 hm
        refine C_seq (C_region ?_)
        refine W_move rfl rfl rfl ?_
        refine W_assign rfl rfl rfl ?_
        refine W_end (E_then (C_ret (E_ret_block (E_ret_then (E_ret_then (E_ret_block (E_ret_then ?_)))))))
        obtain rfl := Option.some.inj hm
        refine E_drop (List.Sublist.cons _ (List.Sublist.cons _ (List.Sublist.cons _ (List.Sublist.cons _ (List.Sublist.refl _))))) ?_
        refine E_weak (Hp.le_trans (Hp.le_trans (Hp.le_trans (Hp.le_trans hle153 hle232) hle320) hle337) hle348) ?_
        exact end1 rfl rfl ⟨rfl, rfl, rfl⟩
       ·have hm := ite_f' hb350 hm
        refine C_skip (E_normal_block (E_then (C_region ?_)))
        refine W_bin rfl rfl rfl rfl rfl ?_
        refine W_move rfl rfl rfl ?_
        refine W_end ?_
        refine E_drop (List.Sublist.cons_cons _ (List.Sublist.cons _ (List.Sublist.refl _))) ?_
        exact E_keepJ (E_back (Nat.lt_succ_self _) ⟨k262 + 1, zs326, r339.2.seen, es342, c343, hd329, rfl, (by rw [hn323]; exact hm), h344, (Hp.le_trans (Hp.le_trans hle320 hle337) hle348), rfl, rfl⟩) (List.Perm.swap _ _ _) ⟨rfl, rfl, rfl, rfl, (congrArg (fun z => some (Value.int .i64 z)) (i64_succ hy327 ((((h2.mono hle153).mono hle232).mono hle320)).lenMax)), trivial⟩
     ·obtain rfl := rng_f hd328 hb330
      have hm : ((m_netmodel_checker_ends (S_netmodel_checker.mk l317 p0_n.Nodes) p0_n).bind fun r351 => some r351.1) = some r := hm
      refine C_exit (E_exit_then (E_exit_then (E_exit_hit (E_then (C_seq (C_region ?_))))))
      refine W_loadAgg rfl rfl isAgg80 sizeOf80 rfl (own_all (List.mem_cons_self ..)) rfl ?_
      refine W_loadAgg rfl rfl isAgg29 sizeOf29 rfl (own_all (List.mem_cons_of_mem _ (List.mem_cons_of_mem _ (List.mem_cons_self ..)))) rfl ?_
      refine W_perm (List.Perm.swap _ _ _) ?_
      obtain ⟨r351, hc352, hm⟩ := bind_some hm
      refine W_call call35 rfl rfl rfl (fun w ht => by have h := m_netmodel_checker_ends_c (hm := hc352) hm318 (((h0.mono hle153).mono hle232).mono hle320) (((h0.mono hle153).mono hle232).mono hle320) (((h1.mono hle153).mono hle232).mono hle320) (((h2.mono hle153).mono hle232).mono hle320) (((h3.mono hle153).mono hle232).mono hle320) (((h4.mono hle153).mono hle232).mono hle320) (((h5.mono hle153).mono hle232).mono hle320) ht; exact h) ?_
      rintro _ H359 _ ⟨hle360, es354, c355, v357, rfl, rfl, h356, h358⟩
      refine W_assign rfl rfl rfl ?_
      refine W_end (E_then (C_ret ?_))
      obtain rfl := Option.some.inj hm
      refine E_drop (List.Sublist.cons _ (List.Sublist.cons _ (List.Sublist.cons _ (List.Sublist.refl _)))) ?_
      refine E_weak (Hp.le_trans (Hp.le_trans (Hp.le_trans hle153 hle232) hle320) hle360) ?_
      exact end1 rfl rfl ⟨rfl, rfl, rfl⟩
 ·refine C_region ?_
  refine W_field (o := 0) rfl rfl runUnderlying29 rfl sizeOf22 rfl rfl rfl ?_
  refine W_load rfl rfl isAgg22 rfl (own_at (List.mem_cons_self ..) rfl) ?_
  refine W_lenR rfl rfl runUnderlying22 rfl h0 ?_
  refine W_bin rfl rfl rfl rfl rfl ?_
  refine W_move rfl rfl rfl ?_
  cases hb361 : (decide (24 < (p0_n.Nodes.length : Int)))
  ·refine W_field (o := 1) rfl rfl runUnderlying29 rfl sizeOf23 rfl rfl rfl ?_
   refine W_load rfl rfl isAgg23 rfl (own_at (List.mem_cons_self ..) rfl) ?_
   refine W_lenR rfl rfl runUnderlying23 rfl h1 ?_
   refine W_bin rfl rfl rfl rfl rfl ?_
   refine W_pick rfl rfl rfl rfl ?_
   refine W_move rfl rfl rfl ?_
   cases hb362 : (decide (32 < (p0_n.Switches.length : Int)))
   ·refine W_field (o := 2) rfl rfl runUnderlying29 rfl sizeOf24 rfl rfl rfl ?_
    refine W_load rfl rfl isAgg24 rfl (own_at (List.mem_cons_self ..) rfl) ?_
    refine W_lenR rfl rfl runUnderlying24 rfl h2 ?_
    refine W_bin rfl rfl rfl rfl rfl ?_
    refine W_pick rfl rfl rfl rfl ?_
    refine W_move rfl rfl rfl ?_
    cases hb363 : (decide (24 < (p0_n.Branches.length : Int)))
    ·refine W_field (o := 3) rfl rfl runUnderlying29 rfl sizeOf25 rfl rfl rfl ?_
     refine W_load rfl rfl isAgg25 rfl (own_at (List.mem_cons_self ..) rfl) ?_
     refine W_lenR rfl rfl runUnderlying25 rfl h3 ?_
     refine W_bin rfl rfl rfl rfl rfl ?_
     refine W_pick rfl rfl rfl rfl ?_
     refine W_move rfl rfl rfl ?_
     cases hb364 : (decide (10 < (p0_n.Gens.length : Int)))
     ·refine W_field (o := 4) rfl rfl runUnderlying29 rfl sizeOf26 rfl rfl rfl ?_
      refine W_load rfl rfl isAgg26 rfl (own_at (List.mem_cons_self ..) rfl) ?_
      refine W_lenR rfl rfl runUnderlying26 rfl h4 ?_
      refine W_bin rfl rfl rfl rfl rfl ?_
      refine W_pick rfl rfl rfl rfl ?_
      refine W_move rfl rfl rfl ?_
      cases hb365 : (decide (12 < (p0_n.Loads.length : Int)))
      ·refine W_field (o := 5) rfl rfl runUnderlying29 rfl sizeOf27 rfl rfl rfl ?_
       refine W_load rfl rfl isAgg27 rfl (own_at (List.mem_cons_self ..) rfl) ?_
       refine W_lenR rfl rfl runUnderlying27 rfl h5 ?_
       refine W_bin rfl rfl rfl rfl rfl ?_
       refine W_pick rfl rfl rfl rfl ?_
       refine W_end ?_
       exact E_keepJ (J107 _ _ _ ⟨rfl, rfl, rfl⟩) (List.Perm.refl _) ⟨rfl, (by show some (Value.bool (decide (4 < (p0_n.Stores.length : Int)))) = some (Value.bool ((((((decide (24 < (p0_n.Nodes.length : Int))) || (decide (32 < (p0_n.Switches.length : Int)))) || (decide (24 < (p0_n.Branches.length : Int)))) || (decide (10 < (p0_n.Gens.length : Int)))) || (decide (12 < (p0_n.Loads.length : Int)))) || (decide (4 < (p0_n.Stores.length : Int))))); first | (simp only [hb361, hb362, hb363, hb364, hb365, Bool.and_true, Bool.true_and, Bool.false_and, Bool.and_false, Bool.or_true, Bool.true_or, Bool.or_false, Bool.false_or, Bool.not_true, Bool.not_false]; done) | (simp only [hb361, hb362, hb363, hb364, hb365]; first | done | simp only [Bool.and_true, Bool.true_and, Bool.false_and, Bool.and_false, Bool.or_true, Bool.true_or, Bool.or_false, Bool.false_or, Bool.not_true, Bool.not_false])), trivial⟩
      ·refine W_no rfl rfl rfl ?_
       refine W_no rfl rfl rfl ?_
       refine W_no rfl rfl rfl ?_
       refine W_no rfl rfl rfl ?_
       refine W_pick rfl rfl rfl rfl ?_
       refine W_end ?_
       exact E_keepJ (J107 _ _ _ ⟨rfl, rfl, rfl⟩) (List.Perm.refl _) ⟨rfl, (by show some (Value.bool (true)) = some (Value.bool ((((((decide (24 < (p0_n.Nodes.length : Int))) || (decide (32 < (p0_n.Switches.length : Int)))) || (decide (24 < (p0_n.Branches.length : Int)))) || (decide (10 < (p0_n.Gens.length : Int)))) || (decide (12 < (p0_n.Loads.length : Int)))) || (decide (4 < (p0_n.Stores.length : Int))))); first | (simp only [hb361, hb362, hb363, hb364, hb365, Bool.and_true, Bool.true_and, Bool.false_and, Bool.and_false, Bool.or_true, Bool.true_or, Bool.or_false, Bool.false_or, Bool.not_true, Bool.not_false]; done) | (simp only [hb361, hb362, hb363, hb364, hb365]; first | done | simp only [Bool.and_true, Bool.true_and, Bool.false_and, Bool.and_false, Bool.or_true, Bool.true_or, Bool.or_false, Bool.false_or, Bool.not_true, Bool.not_false])), trivial⟩
     ·refine W_no rfl rfl rfl ?_
      refine W_no rfl rfl rfl ?_
      refine W_no rfl rfl rfl ?_
      refine W_no rfl rfl rfl ?_
      refine W_pick rfl rfl rfl rfl ?_
      refine W_move rfl rfl rfl ?_
      refine W_no rfl rfl rfl ?_
      refine W_no rfl rfl rfl ?_
      refine W_no rfl rfl rfl ?_
      refine W_no rfl rfl rfl ?_
      refine W_pick rfl rfl rfl rfl ?_
      refine W_end ?_
      exact E_keepJ (J107 _ _ _ ⟨rfl, rfl, rfl⟩) (List.Perm.refl _) ⟨rfl, (by show some (Value.bool (true)) = some (Value.bool ((((((decide (24 < (p0_n.Nodes.length : Int))) || (decide (32 < (p0_n.Switches.length : Int)))) || (decide (24 < (p0_n.Branches.length : Int)))) || (decide (10 < (p0_n.Gens.length : Int)))) || (decide (12 < (p0_n.Loads.length : Int)))) || (decide (4 < (p0_n.Stores.length : Int))))); first | (simp only [hb361, hb362, hb363, hb364, Bool.and_true, Bool.true_and, Bool.false_and, Bool.and_false, Bool.or_true, Bool.true_or, Bool.or_false, Bool.false_or, Bool.not_true, Bool.not_false]; done) | (simp only [hb361, hb362, hb363, hb364]; first | done | simp only [Bool.and_true, Bool.true_and, Bool.false_and, Bool.and_false, Bool.or_true, Bool.true_or, Bool.or_false, Bool.false_or, Bool.not_true, Bool.not_false])), trivial⟩
    ·refine W_no rfl rfl rfl ?_
     refine W_no rfl rfl rfl ?_
     refine W_no rfl rfl rfl ?_
     refine W_no rfl rfl rfl ?_
     refine W_pick rfl rfl rfl rfl ?_
     refine W_move rfl rfl rfl ?_
     refine W_no rfl rfl rfl ?_
     refine W_no rfl rfl rfl ?_
     refine W_no rfl rfl rfl ?_
     refine W_no rfl rfl rfl ?_
     refine W_pick rfl rfl rfl rfl ?_
     refine W_move rfl rfl rfl ?_
     refine W_no rfl rfl rfl ?_
     refine W_no rfl rfl rfl ?_
     refine W_no rfl rfl rfl ?_
     refine W_no rfl rfl rfl ?_
     refine W_pick rfl rfl rfl rfl ?_
     refine W_end ?_
     exact E_keepJ (J107 _ _ _ ⟨rfl, rfl, rfl⟩) (List.Perm.refl _) ⟨rfl, (by show some (Value.bool (true)) = some (Value.bool ((((((decide (24 < (p0_n.Nodes.length : Int))) || (decide (32 < (p0_n.Switches.length : Int)))) || (decide (24 < (p0_n.Branches.length : Int)))) || (decide (10 < (p0_n.Gens.length : Int)))) || (decide (12 < (p0_n.Loads.length : Int)))) || (decide (4 < (p0_n.Stores.length : Int))))); first | (simp only [hb361, hb362, hb363, Bool.and_true, Bool.true_and, Bool.false_and, Bool.and_false, Bool.or_true, Bool.true_or, Bool.or_false, Bool.false_or, Bool.not_true, Bool.not_false]; done) | (simp only [hb361, hb362, hb363]; first | done | simp only [Bool.and_true, Bool.true_and, Bool.false_and, Bool.and_false, Bool.or_true, Bool.true_or, Bool.or_false, Bool.false_or, Bool.not_true, Bool.not_false])), trivial⟩
   ·refine W_no rfl rfl rfl ?_
    refine W_no rfl rfl rfl ?_
    refine W_no rfl rfl rfl ?_
    refine W_no rfl rfl rfl ?_
    refine W_pick rfl rfl rfl rfl ?_
    refine W_move rfl rfl rfl ?_
    refine W_no rfl rfl rfl ?_
    refine W_no rfl rfl rfl ?_
    refine W_no rfl rfl rfl ?_
    refine W_no rfl rfl rfl ?_
    refine W_pick rfl rfl rfl rfl ?_
    refine W_move rfl rfl rfl ?_
    refine W_no rfl rfl rfl ?_
    refine W_no rfl rfl rfl ?_
    refine W_no rfl rfl rfl ?_
    refine W_no rfl rfl rfl ?_
    refine W_pick rfl rfl rfl rfl ?_
    refine W_move rfl rfl rfl ?_
    refine W_no rfl rfl rfl ?_
    refine W_no rfl rfl rfl ?_
    refine W_no rfl rfl rfl ?_
    refine W_no rfl rfl rfl ?_
    refine W_pick rfl rfl rfl rfl ?_
    refine W_end ?_
    exact E_keepJ (J107 _ _ _ ⟨rfl, rfl, rfl⟩) (List.Perm.refl _) ⟨rfl, (by show some (Value.bool (true)) = some (Value.bool ((((((decide (24 < (p0_n.Nodes.length : Int))) || (decide (32 < (p0_n.Switches.length : Int)))) || (decide (24 < (p0_n.Branches.length : Int)))) || (decide (10 < (p0_n.Gens.length : Int)))) || (decide (12 < (p0_n.Loads.length : Int)))) || (decide (4 < (p0_n.Stores.length : Int))))); first | (simp only [hb361, hb362, Bool.and_true, Bool.true_and, Bool.false_and, Bool.and_false, Bool.or_true, Bool.true_or, Bool.or_false, Bool.false_or, Bool.not_true, Bool.not_false]; done) | (simp only [hb361, hb362]; first | done | simp only [Bool.and_true, Bool.true_and, Bool.false_and, Bool.and_false, Bool.or_true, Bool.true_or, Bool.or_false, Bool.false_or, Bool.not_true, Bool.not_false])), trivial⟩
  ·refine W_no rfl rfl rfl ?_
   refine W_no rfl rfl rfl ?_
   refine W_no rfl rfl rfl ?_
   refine W_no rfl rfl rfl ?_
   refine W_pick rfl rfl rfl rfl ?_
   refine W_move rfl rfl rfl ?_
   refine W_no rfl rfl rfl ?_
   refine W_no rfl rfl rfl ?_
   refine W_no rfl rfl rfl ?_
   refine W_no rfl rfl rfl ?_
   refine W_pick rfl rfl rfl rfl ?_
   refine W_move rfl rfl rfl ?_
   refine W_no rfl rfl rfl ?_
   refine W_no rfl rfl rfl ?_
   refine W_no rfl rfl rfl ?_
   refine W_no rfl rfl rfl ?_
   refine W_pick rfl rfl rfl rfl ?_
   refine W_move rfl rfl rfl ?_
   refine W_no rfl rfl rfl ?_
   refine W_no rfl rfl rfl ?_
   refine W_no rfl rfl rfl ?_
   refine W_no rfl rfl rfl ?_
   refine W_pick rfl rfl rfl rfl ?_
   refine W_move rfl rfl rfl ?_
   refine W_no rfl rfl rfl ?_
   refine W_no rfl rfl rfl ?_
   refine W_no rfl rfl rfl ?_
   refine W_no rfl rfl rfl ?_
   refine W_pick rfl rfl rfl rfl ?_
   refine W_end ?_
   exact E_keepJ (J107 _ _ _ ⟨rfl, rfl, rfl⟩) (List.Perm.refl _) ⟨rfl, (by show some (Value.bool (true)) = some (Value.bool ((((((decide (24 < (p0_n.Nodes.length : Int))) || (decide (32 < (p0_n.Switches.length : Int)))) || (decide (24 < (p0_n.Branches.length : Int)))) || (decide (10 < (p0_n.Gens.length : Int)))) || (decide (12 < (p0_n.Loads.length : Int)))) || (decide (4 < (p0_n.Stores.length : Int))))); first | (simp only [hb361, Bool.and_true, Bool.true_and, Bool.false_and, Bool.and_false, Bool.or_true, Bool.true_or, Bool.or_false, Bool.false_or, Bool.not_true, Bool.not_false]; done) | (simp only [hb361]; first | done | simp only [Bool.and_true, Bool.true_and, Bool.false_and, Bool.and_false, Bool.or_true, Bool.true_or, Bool.or_false, Bool.false_or, Bool.not_true, Bool.not_false])), trivial⟩

theorem m_blackstart_gen_1_c {B : Nat} {w0 w : World} {H : Hp} {M : List Res} {p0_g : S_api_Gen} {p1_c1 : ByteArray} {b0 : Nat} {r : Bool} (hm : m_blackstart_gen_1 p0_g p1_c1 = r) (ht : St B w0 H (.obj b0 (.cells ([.string (p1_c1)] : List Value).toArray 9 (0, 0)) :: M) w) :
  Calls prog 45 [.agg [.string (p0_g.Name), .string (p0_g.Node), .int .i64 (p0_g.Least), .int .i64 (p0_g.Most), .int .i64 (p0_g.Ramp)].toArray, .pointer (some ⟨b0, 0, none⟩)].toArray w (Ret B w0 fun H' M' v => H = H' ∧ .obj b0 (.cells ([.string (p1_c1)] : List Value).toArray 9 (0, 0)) :: M = M' ∧ .bool (r) = v) := by
 unfold m_blackstart_gen_1 at hm
 refine enter func45 rfl rfl rfl ht ?_
 refine C_seq (C_region ?_)
 refine W_box (cs := [.string (p0_g.Name), .string (p0_g.Node), .int .i64 (p0_g.Least), .int .i64 (p0_g.Most), .int .i64 (p0_g.Ramp)]) rfl rfl rfl rfl (fun b101 => ?_)
 refine W_assign rfl rfl rfl ?_
 refine W_end (E_then (C_seq (C_region ?_)))
 refine W_field (o := 0) rfl rfl runUnderlying46 rfl sizeOf9 rfl rfl rfl ?_
 refine W_load rfl rfl isAgg9 rfl (own_at (List.mem_cons_self ..) rfl) ?_
 refine W_load rfl rfl isAgg9 rfl (own_at (List.mem_cons_of_mem _ (List.mem_cons_self ..)) rfl) ?_
 refine W_bin rfl rfl rfl rfl rfl ?_
 refine W_assign rfl rfl rfl ?_
 refine W_end (E_then (C_ret ?_))
 obtain rfl := hm
 refine E_drop (List.Sublist.cons _ (List.Sublist.refl _)) ?_
 refine E_weak (Hp.le_refl _) ?_
 exact end1 rfl rfl ⟨rfl, rfl, rfl⟩

theorem m_slices_IndexFunc_api_Gen_api_Gen__blackstart_gen_1_c {B : Nat} {w0 w : World} {H : Hp} {M : List Res} {p0_s : (List S_api_Gen)} {p1_f_0 : ByteArray} {v0 : Value} {b0 : Nat} {r : Int} (hm : m_slices_IndexFunc_api_Gen_api_Gen__blackstart_gen_1 p0_s p1_f_0 = some r) (h0 : RdS H v0 p0_s) (ht : St B w0 H (.obj b0 (.cells ([.string (p1_f_0)] : List Value).toArray 9 (0, 0)) :: M) w) :
  Calls prog 44 [v0, .func (.func 45) [].toArray [.pointer (some ⟨b0, 0, none⟩)].toArray].toArray w (Ret B w0 fun H' M' v => H = H' ∧ .obj b0 (.cells ([.string (p1_f_0)] : List Value).toArray 9 (0, 0)) :: M = M' ∧ .int .i64 (r) = v) := by
 unfold m_slices_IndexFunc_api_Gen_api_Gen__blackstart_gen_1 at hm
 refine enter func44 rfl rfl rfl ht ?_
 refine C_seq (C_region ?_)
 refine W_assign rfl rfl rfl ?_
 refine W_end (E_then (C_seq (C_seq (C_region ?_))))
 refine W_move rfl rfl rfl ?_
 refine W_lenR rfl rfl runUnderlying25 rfl h0 ?_
 refine W_move rfl rfl rfl ?_
 refine W_end (E_then (C_block ?_))
 refine C_keep (L' := [(0, v0), (1, .func (.func 45) [].toArray [.pointer (some ⟨b0, 0, none⟩)].toArray), (7, .int .i64 ((p0_s.length : Int))), (8, .int .i64 (((0 : Nat) : Int)))]) ⟨rfl, rfl, rfl, rfl, trivial⟩ (List.Perm.refl _) ?_
 refine C_loop (fun n H' M' L' => ∃ (k101 : Nat) (zs119' : Nat), k101 + zs119' = ((p0_s.length : Int) : Int).toNat ∧ zs119' = n ∧ forN (fun k s114 n => m_slices_IndexFunc_api_Gen_api_Gen__blackstart_gen_1_b1 p0_s p1_f_0 k n) (fun _ => some (-1)) zs119' k101 () = some r ∧ H.le H' ∧ .obj b0 (.cells ([.string (p1_f_0)] : List Value).toArray 9 (0, 0)) :: M = M' ∧ [(0, v0), (1, .func (.func 45) [].toArray [.pointer (some ⟨b0, 0, none⟩)].toArray), (7, .int .i64 ((p0_s.length : Int))), (8, .int .i64 ((k101 : Int)))] = L') _ ⟨0, _, Nat.zero_add _, rfl, hm, (Hp.le_refl _), rfl, rfl⟩ ?_
 rintro _ H112 _ _ ⟨k101, zs119', hd121, rfl, hm, hle113, rfl, rfl⟩
 refine C_seq (C_region ?_)
 refine W_bin rfl rfl rfl rfl rfl ?_
 refine W_end (E_then (C_seq ?_))
 refine C_cond (b := decide ((k101 : Int) < (p0_s.length : Int))) rfl (fun hb123 => ?_) (fun hb123 => ?_)
 ·obtain ⟨zs119, rfl, hd122, hy120⟩ := rngN_t hd121 hb123
  have hm : m_slices_IndexFunc_api_Gen_api_Gen__blackstart_gen_1_b1 p0_s p1_f_0 k101 (forN (fun k s114 n => m_slices_IndexFunc_api_Gen_api_Gen__blackstart_gen_1_b1 p0_s p1_f_0 k n) (fun _ => some (-1)) zs119 (k101 + 1)) = some r := hm
  generalize hn116 : forN (fun k s114 n => m_slices_IndexFunc_api_Gen_api_Gen__blackstart_gen_1_b1 p0_s p1_f_0 k n) (fun _ => some (-1)) zs119 (k101 + 1) = nx115 at hm
  unfold m_slices_IndexFunc_api_Gen_api_Gen__blackstart_gen_1_b1 at hm
  refine C_skip (E_then (C_seq (C_block (C_seq (C_region ?_)))))
  refine W_move rfl rfl rfl ?_
  refine W_assign rfl rfl rfl ?_
  refine W_end (E_then (C_seq (C_region ?_)))
  refine W_move rfl rfl rfl ?_
  refine W_move rfl rfl rfl ?_
  refine W_move rfl rfl rfl ?_
  obtain ⟨y124, h125, he126, hm⟩ := idx_some hm
  obtain ⟨_, ⟨rfl⟩, hc127⟩ := (h0).elem he126
  refine W_indexS rfl rfl runUnderlying25 sizeOf46 rfl (h0.mono hle113) rfl h125 he126 ?_
  refine W_loadAgg rfl rfl isAgg46 sizeOf46 rfl (hc127.mono hle113).at rfl ?_
  refine W_callv call45 rfl rfl rfl rfl (fun w ht => by have h := m_blackstart_gen_1_c (hm := (rfl : m_blackstart_gen_1 y124 p1_f_0 = _))  ht; exact h) ?_
  rintro _ _ _ ⟨rfl, rfl, rfl⟩
  refine W_end (E_then ?_)
  refine C_cond (b := (m_blackstart_gen_1 y124 p1_f_0)) rfl (fun hb128 => ?_) (fun hb128 => ?_)
  ·have hm := ite_t' hb128 hm
   refine C_seq (C_region ?_)
   refine W_move rfl rfl rfl ?_
   refine W_assign rfl rfl rfl ?_
   refine W_end (E_then (C_ret (E_ret_block (E_ret_then (E_ret_then (E_ret_block (E_ret_then ?_)))))))
   obtain rfl := Option.some.inj hm
   refine E_weak hle113 ?_
   exact end1 rfl rfl ⟨rfl, rfl, rfl⟩
  ·have hm := ite_f' hb128 hm
   refine C_skip (E_normal_block (E_then (C_region ?_)))
   refine W_bin rfl rfl rfl rfl rfl ?_
   refine W_move rfl rfl rfl ?_
   refine W_end ?_
   exact E_keepJ (E_back (Nat.lt_succ_self _) ⟨k101 + 1, zs119, hd122, rfl, (by rw [hn116]; exact hm), hle113, rfl, rfl⟩) (List.Perm.refl _) ⟨rfl, rfl, rfl, (congrArg (fun z => some (Value.int .i64 z)) (i64_succN hy120 (toNat_max (len_max (h0).lenMax)))), trivial⟩
 ·obtain rfl := rngN_f hd121 hb123
  have hm : (some (-1)) = some r := hm
  refine C_exit (E_exit_then (E_exit_then (E_exit_hit (E_then (C_seq (C_region ?_))))))
  refine W_assign rfl rfl rfl ?_
  refine W_end (E_then (C_ret ?_))
  obtain rfl := Option.some.inj hm
  refine E_weak hle113 ?_
  exact end1 rfl rfl ⟨rfl, rfl, rfl⟩

theorem m_blackstart_gen_c {B : Nat} {w0 w : World} {H : Hp} {M : List Res} {p0_n : S_api_Network} {name : ByteArray} {v0 : Value} {v1 : Value} {v2 : Value} {v3 : Value} {v4 : Value} {v5 : Value} {r : Int} (hm : m_blackstart_gen p0_n name = some r) (h0 : RdS H v0 p0_n.Nodes) (h1 : RdS H v1 p0_n.Switches) (h2 : RdS H v2 p0_n.Branches) (h3 : RdS H v3 p0_n.Gens) (h4 : RdS H v4 p0_n.Loads) (h5 : RdS H v5 p0_n.Stores) (ht : St B w0 H (M) w) :
  Calls prog 26 [.agg [v0, v1, v2, v3, v4, v5].toArray, .string (name)].toArray w (Ret B w0 fun H' M' v => H = H' ∧ M = M' ∧ .int .i64 (r) = v) := by
 unfold m_blackstart_gen at hm
 refine enter func26 rfl rfl rfl ht ?_
 refine C_seq (C_region ?_)
 refine W_box (cs := [v0, v1, v2, v3, v4, v5]) rfl rfl rfl rfl (fun b101 => ?_)
 refine W_box (cs := [.string (name)]) rfl rfl rfl rfl (fun b102 => ?_)
 refine W_assign rfl rfl rfl ?_
 refine W_end (E_then (C_seq (C_region ?_)))
 refine W_field (o := 3) rfl rfl runUnderlying29 rfl sizeOf25 rfl rfl rfl ?_
 refine W_load rfl rfl isAgg25 rfl (own_at (List.mem_cons_of_mem _ (List.mem_cons_self ..)) rfl) ?_
 refine W_makeFunc rfl rfl rfl rfl ?_
 obtain ⟨r103, hc104, hm⟩ := bind_some hm
 refine W_call call44 rfl rfl rfl (fun w ht => by have h := m_slices_IndexFunc_api_Gen_api_Gen__blackstart_gen_1_c (hm := hc104) h3 ht; exact h) ?_
 rintro _ _ _ ⟨rfl, rfl, rfl⟩
 refine W_assign rfl rfl rfl ?_
 refine W_end (E_then (C_ret ?_))
 obtain rfl := Option.some.inj hm
 refine E_drop (List.Sublist.cons _ (List.Sublist.cons _ (List.Sublist.refl _))) ?_
 refine E_weak (Hp.le_refl _) ?_
 exact end1 rfl rfl ⟨rfl, rfl, rfl⟩

theorem m_blackstart_check_c {B : Nat} {w0 w : World} {H : Hp} {M : List Res} {p0_n : S_api_Network} {sources : (List ByteArray)} {v0 : Value} {v1 : Value} {v2 : Value} {v3 : Value} {v4 : Value} {v5 : Value} {v6 : Value} {r : Int} (hm : m_blackstart_check p0_n sources = some r) (h0 : RdS H v0 p0_n.Nodes) (h1 : RdS H v1 p0_n.Switches) (h2 : RdS H v2 p0_n.Branches) (h3 : RdS H v3 p0_n.Gens) (h4 : RdS H v4 p0_n.Loads) (h5 : RdS H v5 p0_n.Stores) (h6 : RdS H v6 sources) (ht : St B w0 H (M) w) :
  Calls prog 22 [.agg [v0, v1, v2, v3, v4, v5].toArray, v6].toArray w (Ret B w0 fun H' M' v => H = H' ∧ M = M' ∧ .int .i64 (r) = v) := by
 unfold m_blackstart_check at hm
 refine enter func22 rfl rfl rfl ht ?_
 refine C_seq (C_region ?_)
 refine W_box (cs := [v0, v1, v2, v3, v4, v5]) rfl rfl rfl rfl (fun b101 => ?_)
 refine W_assign rfl rfl rfl ?_
 refine W_end (E_then (C_seq (C_seq (C_region ?_))))
 refine W_loadAgg rfl rfl isAgg29 sizeOf29 rfl (own_all (List.mem_cons_self ..)) rfl ?_
 obtain ⟨r102, hc103, hm⟩ := bind_some hm
 refine W_call call16 rfl rfl rfl (fun w ht => by have h := m_netmodel_Check_c (hm := hc103) h0 h1 h2 h3 h4 h5 ht; exact h) ?_
 rintro _ _ _ ⟨rfl, rfl, rfl⟩
 refine W_assign rfl rfl rfl ?_
 refine W_end (E_then (C_seq (C_region ?_)))
 refine W_move rfl rfl rfl ?_
 refine W_bin rfl rfl rfl rfl rfl ?_
 refine W_end (E_then ?_)
 refine C_cond (b := !decide (r102 = 0)) rfl (fun hb104 => ?_) (fun hb104 => ?_)
 ·have hm := ite_t' hb104 hm
  refine C_seq (C_region ?_)
  refine W_move rfl rfl rfl ?_
  refine W_assign rfl rfl rfl ?_
  refine W_end (E_then (C_ret (E_ret_then ?_)))
  obtain rfl := Option.some.inj hm
  refine E_drop (List.Sublist.cons _ (List.Sublist.refl _)) ?_
  refine E_weak (Hp.le_refl _) ?_
  exact end1 rfl rfl ⟨rfl, rfl, rfl⟩
 ·have hm := ite_f' hb104 hm
  refine C_skip (E_then (C_seq (C_seq (C_region ?_))))
  refine W_move rfl rfl rfl ?_
  refine W_lenR rfl rfl runUnderlying22 rfl h6 ?_
  refine W_move rfl rfl rfl ?_
  refine W_end (E_then (C_block ?_))
  refine C_keep (L' := [(1, v6), (2, .pointer (some ⟨b101, 0, none⟩)), (13, v6), (14, .int .i64 ((sources.length : Int))), (15, .int .i64 (((0 : Nat) : Int)))]) ⟨rfl, rfl, rfl, rfl, rfl, trivial⟩ (List.Perm.refl _) ?_
  refine C_loop (fun n H' M' L' => ∃ (k105 : Nat) (zs135' : List ByteArray), (sources).drop k105 = zs135' ∧ zs135'.length = n ∧ forI (fun k y s130 n => m_blackstart_check_b1 p0_n sources k y n) (fun _ => some 0) k105 zs135' () = some r ∧ H.le H' ∧ .obj b101 (.cells [v0, v1, v2, v3, v4, v5].toArray 29 (0, 0)) :: M = M' ∧ [(1, v6), (2, .pointer (some ⟨b101, 0, none⟩)), (13, v6), (14, .int .i64 ((sources.length : Int))), (15, .int .i64 ((k105 : Int)))] = L') _ ⟨0, _, rfl, rfl, hm, (Hp.le_refl _), rfl, rfl⟩ ?_
  rintro _ H128 _ _ ⟨k105, zs135', hd137, rfl, hm, hle129, rfl, rfl⟩
  refine C_seq (C_region ?_)
  refine W_bin rfl rfl rfl rfl rfl ?_
  refine W_end (E_then (C_seq ?_))
  refine C_cond (b := decide ((k105 : Int) < (sources.length : Int))) rfl (fun hb139 => ?_) (fun hb139 => ?_)
  ·obtain ⟨y134, zs135, rfl, hy136, hd138⟩ := rng_t hd137 hb139
   have hm : m_blackstart_check_b1 p0_n sources k105 y134 (forI (fun k y s130 n => m_blackstart_check_b1 p0_n sources k y n) (fun _ => some 0) (k105 + 1) zs135) = some r := hm
   generalize hn132 : forI (fun k y s130 n => m_blackstart_check_b1 p0_n sources k y n) (fun _ => some 0) (k105 + 1) zs135 = nx131 at hm
   unfold m_blackstart_check_b1 at hm
   refine C_skip (E_then (C_seq (C_block (C_seq (C_region ?_)))))
   refine W_move rfl rfl rfl ?_
   obtain ⟨_, rfl, hc140⟩ := (h6).elem hy136
   refine W_indexS rfl rfl runUnderlying22 sizeOf9 rfl (h6.mono hle129) rfl (Int.natCast_nonneg _) hy136 ?_
   refine W_load rfl rfl isAgg9 rfl (HCells.one (hc140.mono hle129) 0 rfl).at ?_
   refine W_assign rfl rfl rfl ?_
   refine W_assign rfl rfl rfl ?_
   refine W_end (E_then (C_block (C_seq (C_region ?_))))
   refine W_loadAgg rfl rfl isAgg29 sizeOf29 rfl (own_all (List.mem_cons_self ..)) rfl ?_
   refine W_move rfl rfl rfl ?_
   obtain ⟨r141, hc142, hm⟩ := bind_some hm
   refine W_call call26 rfl rfl rfl (fun w ht => by have h := m_blackstart_gen_c (hm := hc142) (h0.mono hle129) (h1.mono hle129) (h2.mono hle129) (h3.mono hle129) (h4.mono hle129) (h5.mono hle129) ht; exact h) ?_
   rintro _ _ _ ⟨rfl, rfl, rfl⟩
   refine W_bin rfl rfl rfl rfl rfl ?_
   refine W_assign rfl rfl rfl ?_
   refine W_end (E_then ?_)
   refine C_cond (b := decide (r141 < 0)) rfl (fun hb143 => ?_) (fun hb143 => ?_)
   ·have hm := ite_t' hb143 hm
    refine C_seq (C_region ?_)
    refine W_assign rfl rfl rfl ?_
    refine W_end (E_then (C_ret (E_ret_block (E_ret_block (E_ret_then (E_ret_then (E_ret_block (E_ret_then ?_))))))))
    obtain rfl := Option.some.inj hm
    refine E_drop (List.Sublist.cons _ (List.Sublist.refl _)) ?_
    refine E_weak hle129 ?_
    exact end1 rfl rfl ⟨rfl, rfl, rfl⟩
   ·have hm := ite_f' hb143 hm
    refine C_seq (C_region ?_)
    refine W_move rfl rfl rfl ?_
    refine W_move rfl rfl rfl ?_
    obtain ⟨hz144, hm⟩ := need_some hm
    refine W_sliceR (α := ByteArray) (l := 0) (h := ((k105 : Int) : Int).toNat) (xs := sources) rfl rfl runUnderlying22 sizeOf9 rfl (h6.mono hle129) (by omega) (by omega) (.inl rfl) (fun cap hcap => by rw [if_pos rfl]; exact (.inl ⟨rfl, rfl⟩)) (fun m hmm => (.inr ⟨_, _, _, rfl, rfl, by omega, by omega, rfl⟩)) (.inl ⟨rfl, rfl⟩) ?_
    intro v145 h146 hc147
    refine W_move rfl rfl rfl ?_
    obtain ⟨r148, hc149, hm⟩ := bind_some hm
    refine W_call call24 rfl rfl rfl (fun w ht => by have h := m_slices_Contains_string_string_c (hm := hc149) h146 ht; exact h) ?_
    rintro _ _ _ ⟨rfl, rfl, rfl⟩
    refine W_assign rfl rfl rfl ?_
    refine W_end (E_then ?_)
    refine C_cond (b := r148) rfl (fun hb150 => ?_) (fun hb150 => ?_)
    ·have hm := ite_t' hb150 hm
     refine C_seq (C_region ?_)
     refine W_assign rfl rfl rfl ?_
     refine W_end (E_then (C_ret (E_ret_block (E_ret_block (E_ret_then (E_ret_then (E_ret_block (E_ret_then ?_))))))))
     obtain rfl := Option.some.inj hm
     refine E_drop (List.Sublist.cons _ (List.Sublist.refl _)) ?_
     refine E_weak hle129 ?_
     exact end1 rfl rfl ⟨rfl, rfl, rfl⟩
    ·have hm := ite_f' hb150 hm
     refine C_skip (E_normal_block (E_normal_block (E_then (C_region ?_))))
     refine W_bin rfl rfl rfl rfl rfl ?_
     refine W_move rfl rfl rfl ?_
     refine W_end ?_
     exact E_keepJ (E_back (Nat.lt_succ_self _) ⟨k105 + 1, zs135, hd138, rfl, (by rw [hn132]; exact hm), hle129, rfl, rfl⟩) (List.Perm.refl _) ⟨rfl, rfl, rfl, rfl, (congrArg (fun z => some (Value.int .i64 z)) (i64_succ hy136 ((h6.mono hle129)).lenMax)), trivial⟩
  ·obtain rfl := rng_f hd137 hb139
   have hm : (some 0) = some r := hm
   refine C_exit (E_exit_then (E_exit_then (E_exit_hit (E_then (C_seq (C_region ?_))))))
   refine W_assign rfl rfl rfl ?_
   refine W_end (E_then (C_ret ?_))
   obtain rfl := Option.some.inj hm
   refine E_drop (List.Sublist.cons _ (List.Sublist.refl _)) ?_
   refine E_weak hle129 ?_
   exact end1 rfl rfl ⟨rfl, rfl, rfl⟩

theorem clone21_c {B : Nat} {w0 w : World} {H : Hp} {M : List Res} {s : List ByteArray} {v0 : Value} (h0 : RdS H v0 s) (hz : s.length * 16 ≤ 140737488355328) (ht : St B w0 H M w) :
  Calls prog 21 [v0].toArray w (Ret B w0 fun H' M' v => H = H' ∧ ∃ (v' : Value) (xs' : List Value), .row v' 9 (Rep.sz ByteArray) s.length xs' :: M = M' ∧ v' = v ∧ RwF v' xs' s) := by
 refine enter func21 rfl rfl rfl ht ?_
 obtain ⟨o, n, c, rfl⟩ := h0.shape
 refine C_seq (C_region ?_)
 refine W_assign rfl rfl rfl ?_
 refine W_end (E_then (C_seq (C_seq (C_region ?_))))
 refine W_move rfl rfl rfl ?_
 refine W_eqNil rfl rfl runUnderlying22 rfl rfl ?_
 refine W_end (E_then ?_)
 cases o with
 | none =>
  refine C_cond (b := true) rfl (fun _ => ?_) (fun hb => Bool.noConfusion hb)
  obtain rfl := h0.isNil
  refine C_seq (C_region ?_)
  refine W_assign rfl rfl rfl ?_
  refine W_end (E_then ?_)
  refine C_ret (E_ret_then ?_)
  refine E_nilRow 9 (Rep.sz ByteArray) ?_
  exact end1 rfl rfl ⟨rfl, .slice none 0 0, [], rfl, rfl, (Rw.nil (H := H)).toF⟩
 | some a =>
  refine C_cond (b := false) rfl (fun hb => Bool.noConfusion hb) (fun _ => ?_)
  refine C_skip (E_then (C_seq (C_region ?_)))
  refine W_build0 ByteArray rfl rfl runUnderlying22 sizeOf9 ?_
  intro v1 xs1 h1
  refine W_move rfl rfl rfl ?_
  refine W_appendO (α := ByteArray) (l := []) (ys := s) (bytes := 16) rfl rfl underlying22 ⟨_, rfl, rfl, rfl, rfl⟩ rfl rfl rfl rfl rfl h1 h0 (by simpa using hz) ?_
  intro v2 xs2 h2
  refine W_assign rfl rfl rfl ?_
  refine W_end (E_then (C_ret ?_))
  exact end1 rfl rfl ⟨rfl, v2, xs2, rfl, rfl, h2.toF⟩

theorem clone37_c {B : Nat} {w0 w : World} {H : Hp} {M : List Res} {s : List S_api_Switch} {v0 : Value} (h0 : RdS H v0 s) (hz : s.length * 56 ≤ 140737488355328) (ht : St B w0 H M w) :
  Calls prog 37 [v0].toArray w (Ret B w0 fun H' M' v => H = H' ∧ ∃ (v' : Value) (xs' : List Value), .row v' 70 (Rep.sz S_api_Switch) s.length xs' :: M = M' ∧ v' = v ∧ RwF v' xs' s) := by
 refine enter func37 rfl rfl rfl ht ?_
 obtain ⟨o, n, c, rfl⟩ := h0.shape
 refine C_seq (C_region ?_)
 refine W_assign rfl rfl rfl ?_
 refine W_end (E_then (C_seq (C_seq (C_region ?_))))
 refine W_move rfl rfl rfl ?_
 refine W_eqNil rfl rfl runUnderlying23 rfl rfl ?_
 refine W_end (E_then ?_)
 cases o with
 | none =>
  refine C_cond (b := true) rfl (fun _ => ?_) (fun hb => Bool.noConfusion hb)
  obtain rfl := h0.isNil
  refine C_seq (C_region ?_)
  refine W_assign rfl rfl rfl ?_
  refine W_end (E_then ?_)
  refine C_ret (E_ret_then ?_)
  refine E_nilRow 70 (Rep.sz S_api_Switch) ?_
  exact end1 rfl rfl ⟨rfl, .slice none 0 0, [], rfl, rfl, (Rw.nil (H := H)).toF⟩
 | some a =>
  refine C_cond (b := false) rfl (fun hb => Bool.noConfusion hb) (fun _ => ?_)
  refine C_skip (E_then (C_seq (C_region ?_)))
  refine W_build0 S_api_Switch rfl rfl runUnderlying23 sizeOf70 ?_
  intro v1 xs1 h1
  refine W_move rfl rfl rfl ?_
  refine W_appendO (α := S_api_Switch) (l := []) (ys := s) (bytes := 56) rfl rfl underlying23 ⟨_, rfl, rfl, rfl, rfl⟩ rfl rfl rfl rfl rfl h1 h0 (by simpa using hz) ?_
  intro v2 xs2 h2
  refine W_assign rfl rfl rfl ?_
  refine W_end (E_then (C_ret ?_))
  exact end1 rfl rfl ⟨rfl, v2, xs2, rfl, rfl, h2.toF⟩

theorem clone38_c {B : Nat} {w0 w : World} {H : Hp} {M : List Res} {s : List S_api_Branch} {v0 : Value} (h0 : RdS H v0 s) (hz : s.length * 96 ≤ 140737488355328) (ht : St B w0 H M w) :
  Calls prog 38 [v0].toArray w (Ret B w0 fun H' M' v => H = H' ∧ ∃ (v' : Value) (xs' : List Value), .row v' 83 (Rep.sz S_api_Branch) s.length xs' :: M = M' ∧ v' = v ∧ RwF v' xs' s) := by
 refine enter func38 rfl rfl rfl ht ?_
 obtain ⟨o, n, c, rfl⟩ := h0.shape
 refine C_seq (C_region ?_)
 refine W_assign rfl rfl rfl ?_
 refine W_end (E_then (C_seq (C_seq (C_region ?_))))
 refine W_move rfl rfl rfl ?_
 refine W_eqNil rfl rfl runUnderlying24 rfl rfl ?_
 refine W_end (E_then ?_)
 cases o with
 | none =>
  refine C_cond (b := true) rfl (fun _ => ?_) (fun hb => Bool.noConfusion hb)
  obtain rfl := h0.isNil
  refine C_seq (C_region ?_)
  refine W_assign rfl rfl rfl ?_
  refine W_end (E_then ?_)
  refine C_ret (E_ret_then ?_)
  refine E_nilRow 83 (Rep.sz S_api_Branch) ?_
  exact end1 rfl rfl ⟨rfl, .slice none 0 0, [], rfl, rfl, (Rw.nil (H := H)).toF⟩
 | some a =>
  refine C_cond (b := false) rfl (fun hb => Bool.noConfusion hb) (fun _ => ?_)
  refine C_skip (E_then (C_seq (C_region ?_)))
  refine W_build0 S_api_Branch rfl rfl runUnderlying24 sizeOf83 ?_
  intro v1 xs1 h1
  refine W_move rfl rfl rfl ?_
  refine W_appendO (α := S_api_Branch) (l := []) (ys := s) (bytes := 96) rfl rfl underlying24 ⟨_, rfl, rfl, rfl, rfl⟩ rfl rfl rfl rfl rfl h1 h0 (by simpa using hz) ?_
  intro v2 xs2 h2
  refine W_assign rfl rfl rfl ?_
  refine W_end (E_then (C_ret ?_))
  exact end1 rfl rfl ⟨rfl, v2, xs2, rfl, rfl, h2.toF⟩

theorem clone39_c {B : Nat} {w0 w : World} {H : Hp} {M : List Res} {s : List S_api_Gen} {v0 : Value} (h0 : RdS H v0 s) (hz : s.length * 56 ≤ 140737488355328) (ht : St B w0 H M w) :
  Calls prog 39 [v0].toArray w (Ret B w0 fun H' M' v => H = H' ∧ ∃ (v' : Value) (xs' : List Value), .row v' 46 (Rep.sz S_api_Gen) s.length xs' :: M = M' ∧ v' = v ∧ RwF v' xs' s) := by
 refine enter func39 rfl rfl rfl ht ?_
 obtain ⟨o, n, c, rfl⟩ := h0.shape
 refine C_seq (C_region ?_)
 refine W_assign rfl rfl rfl ?_
 refine W_end (E_then (C_seq (C_seq (C_region ?_))))
 refine W_move rfl rfl rfl ?_
 refine W_eqNil rfl rfl runUnderlying25 rfl rfl ?_
 refine W_end (E_then ?_)
 cases o with
 | none =>
  refine C_cond (b := true) rfl (fun _ => ?_) (fun hb => Bool.noConfusion hb)
  obtain rfl := h0.isNil
  refine C_seq (C_region ?_)
  refine W_assign rfl rfl rfl ?_
  refine W_end (E_then ?_)
  refine C_ret (E_ret_then ?_)
  refine E_nilRow 46 (Rep.sz S_api_Gen) ?_
  exact end1 rfl rfl ⟨rfl, .slice none 0 0, [], rfl, rfl, (Rw.nil (H := H)).toF⟩
 | some a =>
  refine C_cond (b := false) rfl (fun hb => Bool.noConfusion hb) (fun _ => ?_)
  refine C_skip (E_then (C_seq (C_region ?_)))
  refine W_build0 S_api_Gen rfl rfl runUnderlying25 sizeOf46 ?_
  intro v1 xs1 h1
  refine W_move rfl rfl rfl ?_
  refine W_appendO (α := S_api_Gen) (l := []) (ys := s) (bytes := 56) rfl rfl underlying25 ⟨_, rfl, rfl, rfl, rfl⟩ rfl rfl rfl rfl rfl h1 h0 (by simpa using hz) ?_
  intro v2 xs2 h2
  refine W_assign rfl rfl rfl ?_
  refine W_end (E_then (C_ret ?_))
  exact end1 rfl rfl ⟨rfl, v2, xs2, rfl, rfl, h2.toF⟩

theorem clone40_c {B : Nat} {w0 w : World} {H : Hp} {M : List Res} {s : List S_api_Load} {v0 : Value} (h0 : RdS H v0 s) (hz : s.length * 40 ≤ 140737488355328) (ht : St B w0 H M w) :
  Calls prog 40 [v0].toArray w (Ret B w0 fun H' M' v => H = H' ∧ ∃ (v' : Value) (xs' : List Value), .row v' 93 (Rep.sz S_api_Load) s.length xs' :: M = M' ∧ v' = v ∧ RwF v' xs' s) := by
 refine enter func40 rfl rfl rfl ht ?_
 obtain ⟨o, n, c, rfl⟩ := h0.shape
 refine C_seq (C_region ?_)
 refine W_assign rfl rfl rfl ?_
 refine W_end (E_then (C_seq (C_seq (C_region ?_))))
 refine W_move rfl rfl rfl ?_
 refine W_eqNil rfl rfl runUnderlying26 rfl rfl ?_
 refine W_end (E_then ?_)
 cases o with
 | none =>
  refine C_cond (b := true) rfl (fun _ => ?_) (fun hb => Bool.noConfusion hb)
  obtain rfl := h0.isNil
  refine C_seq (C_region ?_)
  refine W_assign rfl rfl rfl ?_
  refine W_end (E_then ?_)
  refine C_ret (E_ret_then ?_)
  refine E_nilRow 93 (Rep.sz S_api_Load) ?_
  exact end1 rfl rfl ⟨rfl, .slice none 0 0, [], rfl, rfl, (Rw.nil (H := H)).toF⟩
 | some a =>
  refine C_cond (b := false) rfl (fun hb => Bool.noConfusion hb) (fun _ => ?_)
  refine C_skip (E_then (C_seq (C_region ?_)))
  refine W_build0 S_api_Load rfl rfl runUnderlying26 sizeOf93 ?_
  intro v1 xs1 h1
  refine W_move rfl rfl rfl ?_
  refine W_appendO (α := S_api_Load) (l := []) (ys := s) (bytes := 40) rfl rfl underlying26 ⟨_, rfl, rfl, rfl, rfl⟩ rfl rfl rfl rfl rfl h1 h0 (by simpa using hz) ?_
  intro v2 xs2 h2
  refine W_assign rfl rfl rfl ?_
  refine W_end (E_then (C_ret ?_))
  exact end1 rfl rfl ⟨rfl, v2, xs2, rfl, rfl, h2.toF⟩

theorem clone41_c {B : Nat} {w0 w : World} {H : Hp} {M : List Res} {s : List S_api_Store} {v0 : Value} (h0 : RdS H v0 s) (hz : s.length * 56 ≤ 140737488355328) (ht : St B w0 H M w) :
  Calls prog 41 [v0].toArray w (Ret B w0 fun H' M' v => H = H' ∧ ∃ (v' : Value) (xs' : List Value), .row v' 96 (Rep.sz S_api_Store) s.length xs' :: M = M' ∧ v' = v ∧ RwF v' xs' s) := by
 refine enter func41 rfl rfl rfl ht ?_
 obtain ⟨o, n, c, rfl⟩ := h0.shape
 refine C_seq (C_region ?_)
 refine W_assign rfl rfl rfl ?_
 refine W_end (E_then (C_seq (C_seq (C_region ?_))))
 refine W_move rfl rfl rfl ?_
 refine W_eqNil rfl rfl runUnderlying27 rfl rfl ?_
 refine W_end (E_then ?_)
 cases o with
 | none =>
  refine C_cond (b := true) rfl (fun _ => ?_) (fun hb => Bool.noConfusion hb)
  obtain rfl := h0.isNil
  refine C_seq (C_region ?_)
  refine W_assign rfl rfl rfl ?_
  refine W_end (E_then ?_)
  refine C_ret (E_ret_then ?_)
  refine E_nilRow 96 (Rep.sz S_api_Store) ?_
  exact end1 rfl rfl ⟨rfl, .slice none 0 0, [], rfl, rfl, (Rw.nil (H := H)).toF⟩
 | some a =>
  refine C_cond (b := false) rfl (fun hb => Bool.noConfusion hb) (fun _ => ?_)
  refine C_skip (E_then (C_seq (C_region ?_)))
  refine W_build0 S_api_Store rfl rfl runUnderlying27 sizeOf96 ?_
  intro v1 xs1 h1
  refine W_move rfl rfl rfl ?_
  refine W_appendO (α := S_api_Store) (l := []) (ys := s) (bytes := 56) rfl rfl underlying27 ⟨_, rfl, rfl, rfl, rfl⟩ rfl rfl rfl rfl rfl h1 h0 (by simpa using hz) ?_
  intro v2 xs2 h2
  refine W_assign rfl rfl rfl ?_
  refine W_end (E_then (C_ret ?_))
  exact end1 rfl rfl ⟨rfl, v2, xs2, rfl, rfl, h2.toF⟩

theorem m_netmodel_Copy_c {B : Nat} {w0 w : World} {H : Hp} {M : List Res} {p0_n : S_api_Network} {v0 : Value} {v1 : Value} {v2 : Value} {v3 : Value} {v4 : Value} {v5 : Value} {r : S_api_Network} (hm : m_netmodel_Copy p0_n = some r) (h0 : RdS H v0 p0_n.Nodes) (h1 : RdS H v1 p0_n.Switches) (h2 : RdS H v2 p0_n.Branches) (h3 : RdS H v3 p0_n.Gens) (h4 : RdS H v4 p0_n.Loads) (h5 : RdS H v5 p0_n.Stores) (ht : St B w0 H (M) w) :
  Calls prog 23 [.agg [v0, v1, v2, v3, v4, v5].toArray].toArray w (Ret B w0 fun H' M' v => H = H' ∧ ∃ qv0 : Value, ∃ qxs0 : List Value, ∃ qv1 : Value, ∃ qxs1 : List Value, ∃ qv2 : Value, ∃ qxs2 : List Value, ∃ qv3 : Value, ∃ qxs3 : List Value, ∃ qv4 : Value, ∃ qxs4 : List Value, ∃ qv5 : Value, ∃ qxs5 : List Value, .row qv0 9 (Rep.sz ByteArray) r.Nodes.length qxs0 :: .row qv1 70 (Rep.sz S_api_Switch) r.Switches.length qxs1 :: .row qv2 83 (Rep.sz S_api_Branch) r.Branches.length qxs2 :: .row qv3 46 (Rep.sz S_api_Gen) r.Gens.length qxs3 :: .row qv4 93 (Rep.sz S_api_Load) r.Loads.length qxs4 :: .row qv5 96 (Rep.sz S_api_Store) r.Stores.length qxs5 :: M = M' ∧ .agg [qv0, qv1, qv2, qv3, qv4, qv5].toArray = v ∧ RwF qv0 qxs0 r.Nodes ∧ RwF qv1 qxs1 r.Switches ∧ RwF qv2 qxs2 r.Branches ∧ RwF qv3 qxs3 r.Gens ∧ RwF qv4 qxs4 r.Loads ∧ RwF qv5 qxs5 r.Stores) := by
 unfold m_netmodel_Copy at hm
 refine enter func23 rfl rfl rfl ht ?_
 refine C_seq (C_region ?_)
 refine W_box (cs := [v0, v1, v2, v3, v4, v5]) rfl rfl rfl rfl (fun b101 => ?_)
 refine W_alloc (cs := [.slice none 0 0, .slice none 0 0, .slice none 0 0, .slice none 0 0, .slice none 0 0, .slice none 0 0]) rfl rfl zeroValue29 rfl (fun b102 => ?_)
 refine W_end (E_then (C_seq ?_))
 obtain ⟨hz103, hm⟩ := need_some hm
 obtain ⟨hz107, hm⟩ := need_some hm
 obtain ⟨hz111, hm⟩ := need_some hm
 obtain ⟨hz115, hm⟩ := need_some hm
 obtain ⟨hz119, hm⟩ := need_some hm
 refine C_region_tok0 17 (phiT [(fun H rs v => [] = rs ∧ .pointer (some ⟨b101, 0, none⟩) = v), (fun H rs v => [] = rs ∧ v0 = v), (fun H rs v => ∃ v123 : Value, ∃ xs124 : List Value, [.row v123 9 (Rep.sz ByteArray) p0_n.Nodes.length xs124] = rs ∧ v123 = v ∧ Rw H v123 xs124 p0_n.Nodes), (fun H rs v => [] = rs ∧ .pointer (some ⟨b101, 1, none⟩) = v), (fun H rs v => [] = rs ∧ v1 = v), (fun H rs v => ∃ v126 : Value, ∃ xs127 : List Value, [.row v126 70 (Rep.sz S_api_Switch) p0_n.Switches.length xs127] = rs ∧ v126 = v ∧ Rw H v126 xs127 p0_n.Switches), (fun H rs v => [] = rs ∧ .pointer (some ⟨b101, 2, none⟩) = v), (fun H rs v => [] = rs ∧ v2 = v), (fun H rs v => ∃ v129 : Value, ∃ xs130 : List Value, [.row v129 83 (Rep.sz S_api_Branch) p0_n.Branches.length xs130] = rs ∧ v129 = v ∧ Rw H v129 xs130 p0_n.Branches), (fun H rs v => [] = rs ∧ .pointer (some ⟨b101, 3, none⟩) = v), (fun H rs v => [] = rs ∧ v3 = v), (fun H rs v => ∃ v132 : Value, ∃ xs133 : List Value, [.row v132 46 (Rep.sz S_api_Gen) p0_n.Gens.length xs133] = rs ∧ v132 = v ∧ Rw H v132 xs133 p0_n.Gens), (fun H rs v => [] = rs ∧ .pointer (some ⟨b101, 4, none⟩) = v), (fun H rs v => [] = rs ∧ v4 = v), (fun H rs v => ∃ v135 : Value, ∃ xs136 : List Value, [.row v135 93 (Rep.sz S_api_Load) p0_n.Loads.length xs136] = rs ∧ v135 = v ∧ Rw H v135 xs136 p0_n.Loads), (fun H rs v => [] = rs ∧ .pointer (some ⟨b101, 5, none⟩) = v), (fun H rs v => [] = rs ∧ v5 = v)]) [[], [], [], [], [], [], [], [], [], [], [], [], [], [], [], [], []] [[], [], [], [], [], [], [], [], [], [], [], [], [], [], [], [], []] [] [0, 1, 2, 3, 4, 5, 6, 7, 8, 9, 10, 11, 12, 13, 14, 15, 16] Facts.mixed (by kernel_rfl) (by rfl) (by rfl) (by rfl) (by kernel_rfl) (phiT_mono ⟨eq_monoT _ _, eq_monoT _ _, (by rintro H1 H2 rs v hle ⟨v123, xs124, rfl, rfl, hr125⟩; exact ⟨v123, xs124, rfl, rfl, (hr125.mono hle)⟩), eq_monoT _ _, eq_monoT _ _, (by rintro H1 H2 rs v hle ⟨v126, xs127, rfl, rfl, hr128⟩; exact ⟨v126, xs127, rfl, rfl, (hr128.mono hle)⟩), eq_monoT _ _, eq_monoT _ _, (by rintro H1 H2 rs v hle ⟨v129, xs130, rfl, rfl, hr131⟩; exact ⟨v129, xs130, rfl, rfl, (hr131.mono hle)⟩), eq_monoT _ _, eq_monoT _ _, (by rintro H1 H2 rs v hle ⟨v132, xs133, rfl, rfl, hr134⟩; exact ⟨v132, xs133, rfl, rfl, (hr134.mono hle)⟩), eq_monoT _ _, eq_monoT _ _, (by rintro H1 H2 rs v hle ⟨v135, xs136, rfl, rfl, hr137⟩; exact ⟨v135, xs136, rfl, rfl, (hr137.mono hle)⟩), eq_monoT _ _, eq_monoT _ _, trivial⟩) ⟨?_, ?_, ?_, ?_, ?_, ?_, ?_, ?_, ?_, ?_, ?_, ?_, ?_, ?_, ?_, ?_, ?_, trivial⟩ ?_
 ·intro HX hX X Rest hR
  intro hU hUp
  refine W_field (o := 0) rfl rfl runUnderlying29 rfl sizeOf22 rfl rfl rfl ?_
  exact W_end (OneT_end [] (Hp.le_refl _) ⟨rfl, rfl⟩)
 ·intro HX hX X Rest hR
  rintro _ _ ⟨rfl, rfl⟩
  intro hU hUp
  refine W_load rfl rfl isAgg22 rfl (own_at (hR _ (List.mem_cons_of_mem _ (List.mem_cons_self ..))) rfl) ?_
  exact W_end (OneT_end [] (Hp.le_refl _) ⟨rfl, rfl⟩)
 ·intro HX hX X Rest hR
  rintro _ _ ⟨rfl, rfl⟩
  intro hU hUp
  refine W_call call21 rfl rfl rfl (fun w ht => by have h := clone21_c (s := p0_n.Nodes) (h0.mono hX) hz103 ht; exact h) ?_
  rintro _ _ _ ⟨rfl, v123, xs124, rfl, rfl, hr125⟩
  have hr125 := hr125 HX
  exact W_end (OneT_end [.row v123 9 (Rep.sz ByteArray) p0_n.Nodes.length xs124] (Hp.le_refl _) ⟨v123, xs124, rfl, rfl, (hr125)⟩)
 ·intro HX hX X Rest hR
  intro hU hUp
  refine W_field (o := 1) rfl rfl runUnderlying29 rfl sizeOf23 rfl rfl rfl ?_
  exact W_end (OneT_end [] (Hp.le_refl _) ⟨rfl, rfl⟩)
 ·intro HX hX X Rest hR
  rintro _ _ ⟨rfl, rfl⟩
  intro hU hUp
  refine W_load rfl rfl isAgg23 rfl (own_at (hR _ (List.mem_cons_of_mem _ (List.mem_cons_self ..))) rfl) ?_
  exact W_end (OneT_end [] (Hp.le_refl _) ⟨rfl, rfl⟩)
 ·intro HX hX X Rest hR
  rintro _ _ ⟨rfl, rfl⟩
  rintro _ _ ⟨v123, xs124, rfl, rfl, hr125⟩
  intro hU hUp
  refine W_call call37 rfl rfl rfl (fun w ht => by have h := clone37_c (s := p0_n.Switches) (h1.mono hX) hz107 ht; exact h) ?_
  rintro _ _ _ ⟨rfl, v126, xs127, rfl, rfl, hr128⟩
  have hr128 := hr128 HX
  exact W_end (OneT_end [.row v126 70 (Rep.sz S_api_Switch) p0_n.Switches.length xs127] (Hp.le_refl _) ⟨v126, xs127, rfl, rfl, (hr128)⟩)
 ·intro HX hX X Rest hR
  intro hU hUp
  refine W_field (o := 2) rfl rfl runUnderlying29 rfl sizeOf24 rfl rfl rfl ?_
  exact W_end (OneT_end [] (Hp.le_refl _) ⟨rfl, rfl⟩)
 ·intro HX hX X Rest hR
  rintro _ _ ⟨rfl, rfl⟩
  intro hU hUp
  refine W_load rfl rfl isAgg24 rfl (own_at (hR _ (List.mem_cons_of_mem _ (List.mem_cons_self ..))) rfl) ?_
  exact W_end (OneT_end [] (Hp.le_refl _) ⟨rfl, rfl⟩)
 ·intro HX hX X Rest hR
  rintro _ _ ⟨rfl, rfl⟩
  rintro _ _ ⟨v126, xs127, rfl, rfl, hr128⟩
  intro hU hUp
  refine W_call call38 rfl rfl rfl (fun w ht => by have h := clone38_c (s := p0_n.Branches) (h2.mono hX) hz111 ht; exact h) ?_
  rintro _ _ _ ⟨rfl, v129, xs130, rfl, rfl, hr131⟩
  have hr131 := hr131 HX
  exact W_end (OneT_end [.row v129 83 (Rep.sz S_api_Branch) p0_n.Branches.length xs130] (Hp.le_refl _) ⟨v129, xs130, rfl, rfl, (hr131)⟩)
 ·intro HX hX X Rest hR
  intro hU hUp
  refine W_field (o := 3) rfl rfl runUnderlying29 rfl sizeOf25 rfl rfl rfl ?_
  exact W_end (OneT_end [] (Hp.le_refl _) ⟨rfl, rfl⟩)
 ·intro HX hX X Rest hR
  rintro _ _ ⟨rfl, rfl⟩
  intro hU hUp
  refine W_load rfl rfl isAgg25 rfl (own_at (hR _ (List.mem_cons_of_mem _ (List.mem_cons_self ..))) rfl) ?_
  exact W_end (OneT_end [] (Hp.le_refl _) ⟨rfl, rfl⟩)
 ·intro HX hX X Rest hR
  rintro _ _ ⟨rfl, rfl⟩
  rintro _ _ ⟨v129, xs130, rfl, rfl, hr131⟩
  intro hU hUp
  refine W_call call39 rfl rfl rfl (fun w ht => by have h := clone39_c (s := p0_n.Gens) (h3.mono hX) hz115 ht; exact h) ?_
  rintro _ _ _ ⟨rfl, v132, xs133, rfl, rfl, hr134⟩
  have hr134 := hr134 HX
  exact W_end (OneT_end [.row v132 46 (Rep.sz S_api_Gen) p0_n.Gens.length xs133] (Hp.le_refl _) ⟨v132, xs133, rfl, rfl, (hr134)⟩)
 ·intro HX hX X Rest hR
  intro hU hUp
  refine W_field (o := 4) rfl rfl runUnderlying29 rfl sizeOf26 rfl rfl rfl ?_
  exact W_end (OneT_end [] (Hp.le_refl _) ⟨rfl, rfl⟩)
 ·intro HX hX X Rest hR
  rintro _ _ ⟨rfl, rfl⟩
  intro hU hUp
  refine W_load rfl rfl isAgg26 rfl (own_at (hR _ (List.mem_cons_of_mem _ (List.mem_cons_self ..))) rfl) ?_
  exact W_end (OneT_end [] (Hp.le_refl _) ⟨rfl, rfl⟩)
 ·intro HX hX X Rest hR
  rintro _ _ ⟨rfl, rfl⟩
  rintro _ _ ⟨v132, xs133, rfl, rfl, hr134⟩
  intro hU hUp
  refine W_call call40 rfl rfl rfl (fun w ht => by have h := clone40_c (s := p0_n.Loads) (h4.mono hX) hz119 ht; exact h) ?_
  rintro _ _ _ ⟨rfl, v135, xs136, rfl, rfl, hr137⟩
  have hr137 := hr137 HX
  exact W_end (OneT_end [.row v135 93 (Rep.sz S_api_Load) p0_n.Loads.length xs136] (Hp.le_refl _) ⟨v135, xs136, rfl, rfl, (hr137)⟩)
 ·intro HX hX X Rest hR
  intro hU hUp
  refine W_field (o := 5) rfl rfl runUnderlying29 rfl sizeOf27 rfl rfl rfl ?_
  exact W_end (OneT_end [] (Hp.le_refl _) ⟨rfl, rfl⟩)
 ·intro HX hX X Rest hR
  rintro _ _ ⟨rfl, rfl⟩
  intro hU hUp
  refine W_load rfl rfl isAgg27 rfl (own_at (hR _ (List.mem_cons_of_mem _ (List.mem_cons_self ..))) rfl) ?_
  exact W_end (OneT_end [] (Hp.le_refl _) ⟨rfl, rfl⟩)
 intro H138 hle139
 rintro _ _ ⟨rfl, rfl⟩
 rintro _ _ ⟨rfl, rfl⟩
 rintro _ _ ⟨v123, xs124, rfl, rfl, hr125⟩
 rintro _ _ ⟨rfl, rfl⟩
 rintro _ _ ⟨rfl, rfl⟩
 rintro _ _ ⟨v126, xs127, rfl, rfl, hr128⟩
 rintro _ _ ⟨rfl, rfl⟩
 rintro _ _ ⟨rfl, rfl⟩
 rintro _ _ ⟨v129, xs130, rfl, rfl, hr131⟩
 rintro _ _ ⟨rfl, rfl⟩
 rintro _ _ ⟨rfl, rfl⟩
 rintro _ _ ⟨v132, xs133, rfl, rfl, hr134⟩
 rintro _ _ ⟨rfl, rfl⟩
 rintro _ _ ⟨rfl, rfl⟩
 rintro _ _ ⟨v135, xs136, rfl, rfl, hr137⟩
 rintro _ _ ⟨rfl, rfl⟩
 rintro _ _ ⟨rfl, rfl⟩
 refine W_as (M' := .row v123 9 (Rep.sz ByteArray) p0_n.Nodes.length xs124 :: .row v126 70 (Rep.sz S_api_Switch) p0_n.Switches.length xs127 :: .row v129 83 (Rep.sz S_api_Branch) p0_n.Branches.length xs130 :: .row v132 46 (Rep.sz S_api_Gen) p0_n.Gens.length xs133 :: .row v135 93 (Rep.sz S_api_Load) p0_n.Loads.length xs136 :: .obj b102 (.cells ([.slice none 0 0, .slice none 0 0, .slice none 0 0, .slice none 0 0, .slice none 0 0, .slice none 0 0] : List Value).toArray 29 (0, 0)) :: .obj b101 (.cells [v0, v1, v2, v3, v4, v5].toArray 29 (0, 0)) :: M) rfl ?_
 obtain ⟨hz140, hm⟩ := need_some hm
 refine W_call call41 rfl rfl rfl (fun w ht => by have h := clone41_c (s := p0_n.Stores) (h5.mono hle139) hz140 ht; exact h) ?_
 rintro _ _ _ ⟨rfl, v141, xs142, rfl, rfl, hr143⟩
 have hr143 := hr143 H138
 refine W_build (css := [[v123], [v126], [v129], [v132], [v135], [v141]]) (zs := [.slice none 0 0, .slice none 0 0, .slice none 0 0, .slice none 0 0, .slice none 0 0, .slice none 0 0]) (out := [v123, v126, v129, v132, v135, v141]) (places := [(0, 1), (1, 1), (2, 1), (3, 1), (4, 1), (5, 1)]) rfl rfl rfl ⟨(Rw.cells hr125), (Rw.cells hr128), (Rw.cells hr131), (Rw.cells hr134), (Rw.cells hr137), (Rw.cells hr143), trivial⟩ zeroValue29 rfl runUnderlying29 (fun w => by kernel_rfl) rfl ?_
 refine W_perm (List.Perm.trans (List.Perm.cons _ (List.Perm.cons _ (List.Perm.cons _ (List.Perm.cons _ (List.Perm.cons _ (List.Perm.swap _ _ _)))))) (List.Perm.trans (List.Perm.cons _ (List.Perm.cons _ (List.Perm.cons _ (List.Perm.cons _ (List.Perm.swap _ _ _))))) (List.Perm.trans (List.Perm.cons _ (List.Perm.cons _ (List.Perm.cons _ (List.Perm.swap _ _ _)))) (List.Perm.trans (List.Perm.cons _ (List.Perm.cons _ (List.Perm.swap _ _ _))) (List.Perm.trans (List.Perm.cons _ (List.Perm.swap _ _ _)) (List.Perm.swap _ _ _)))))) ?_
 refine W_store (cs := [v123, v126, v129, v132, v135, v141]) (out := [v123, v126, v129, v132, v135, v141]) rfl sizeOf29 rfl rfl rfl rfl rfl (all_cons (Rw.one hr125) (all_cons (Rw.one hr128) (all_cons (Rw.one hr131) (all_cons (Rw.one hr134) (all_cons (Rw.one hr137) (all_cons (Rw.one hr143) all_nil)))))) (over_all rfl) ?_
 refine W_end (E_then (C_ret ?_))
 obtain rfl := Option.some.inj hm
 exact endC1 hle139 rfl (ResV.agg rfl isAgg29 sizeOf29 (List.mem_cons_self ..) rfl) (List.Sublist.cons _ (List.Sublist.cons_cons _ (List.Sublist.cons_cons _ (List.Sublist.cons_cons _ (List.Sublist.cons_cons _ (List.Sublist.cons_cons _ (List.Sublist.cons_cons _ (List.Sublist.cons _ (List.Sublist.refl _))))))))) (List.Perm.trans (List.Perm.swap _ _ _) (List.Perm.trans (List.Perm.cons _ (List.Perm.swap _ _ _)) (List.Perm.trans (List.Perm.cons _ (List.Perm.cons _ (List.Perm.swap _ _ _))) (List.Perm.trans (List.Perm.cons _ (List.Perm.cons _ (List.Perm.cons _ (List.Perm.swap _ _ _)))) (List.Perm.cons _ (List.Perm.cons _ (List.Perm.cons _ (List.Perm.cons _ (List.Perm.swap _ _ _))))))))) ⟨rfl, v123, xs124, v126, xs127, v129, xs130, v132, xs133, v135, xs136, v141, xs142, rfl, rfl, (hr125).toF, (hr128).toF, (hr131).toF, (hr134).toF, (hr137).toF, (hr143).toF⟩

theorem m_station_edges_c {B : Nat} {w0 w : World} {H : Hp} {M : List Res} {p0_n : S_api_Network} {p1_open : Bool} {v0 : Value} {v1 : Value} {v2 : Value} {v3 : Value} {v4 : Value} {v5 : Value} {r : (List S_A2_Int) × (List Int)} (hm : m_station_edges p0_n p1_open = some r) (h0 : RdS H v0 p0_n.Nodes) (h1 : RdS H v1 p0_n.Switches) (h2 : RdS H v2 p0_n.Branches) (h3 : RdS H v3 p0_n.Gens) (h4 : RdS H v4 p0_n.Loads) (h5 : RdS H v5 p0_n.Stores) (ht : St B w0 H (M) w) :
  Calls prog 60 [.agg [v0, v1, v2, v3, v4, v5].toArray, .bool (p1_open)].toArray w (Ret B w0 fun H' M' v => H = H' ∧ ∃ qv0 : Value, ∃ qxs0 : List Value, ∃ qv1 : Value, ∃ qxs1 : List Value, .row qv0 98 (Rep.sz S_A2_Int) r.1.length qxs0 :: .row qv1 3 (Rep.sz Int) r.2.length qxs1 :: M = M' ∧ .tuple #[qv0, qv1] = v ∧ RwF qv0 qxs0 r.1 ∧ RwF qv1 qxs1 r.2) := by
 unfold m_station_edges at hm
 refine enter func60 rfl rfl rfl ht ?_
 refine C_seq (C_region ?_)
 refine W_box (cs := [v0, v1, v2, v3, v4, v5]) rfl rfl rfl rfl (fun b101 => ?_)
 refine W_assign rfl rfl rfl ?_
 refine W_assign rfl rfl rfl ?_
 refine W_end (E_then (C_seq (C_region ?_)))
 refine W_assign rfl rfl rfl ?_
 refine W_end (E_then (C_seq (C_region ?_)))
 refine W_assign rfl rfl rfl ?_
 refine W_end (E_then (C_seq (C_seq (C_region ?_))))
 refine W_field (o := 1) rfl rfl runUnderlying29 rfl sizeOf23 rfl rfl rfl ?_
 refine W_load rfl rfl isAgg23 rfl (own_at (List.mem_cons_self ..) rfl) ?_
 refine W_lenR rfl rfl runUnderlying23 rfl h1 ?_
 refine W_move rfl rfl rfl ?_
 refine W_end (E_then (C_block ?_))
 refine C_nilRow 98 (Rep.sz S_A2_Int) ?_
 refine C_nilRow 3 (Rep.sz Int) ?_
 refine C_keep (L' := [(1, .bool (p1_open)), (2, .pointer (some ⟨b101, 0, none⟩)), (6, (.slice none 0 0)), (7, (.slice none 0 0)), (11, v1), (12, .int .i64 ((p0_n.Switches.length : Int))), (13, .int .i64 (((0 : Nat) : Int)))]) ⟨rfl, rfl, rfl, rfl, rfl, rfl, rfl, trivial⟩ (List.Perm.swap _ _ _) ?_
 refine C_loop (fun n H' M' L' => ∃ (k102 : Nat) (zs312' : List S_api_Switch), ∃ l299 : List S_A2_Int, ∃ l303 : List Int, ∃ v297 : Value, ∃ xs298 : List Value, ∃ v301 : Value, ∃ xs302 : List Value, (p0_n.Switches).drop k102 = zs312' ∧ zs312'.length = n ∧ forI (fun k y s307 n => m_station_edges_b3 p0_n p1_open k y s307.1 s307.2 n) (fun s307 => some (s307.1, s307.2)) k102 zs312' (l299, l303) = some r ∧ Rw H' v297 xs298 l299 ∧ Rw H' v301 xs302 l303 ∧ H.le H' ∧ .row v297 98 (Rep.sz S_A2_Int) l299.length xs298 :: .row v301 3 (Rep.sz Int) l303.length xs302 :: .obj b101 (.cells [v0, v1, v2, v3, v4, v5].toArray 29 (0, 0)) :: M = M' ∧ [(1, .bool (p1_open)), (2, .pointer (some ⟨b101, 0, none⟩)), (6, v297), (7, v301), (11, v1), (12, .int .i64 ((p0_n.Switches.length : Int))), (13, .int .i64 ((k102 : Int)))] = L') _ ⟨0, _, ([] : List S_A2_Int), ([] : List Int), (.slice none 0 0), ([]), (.slice none 0 0), ([]), rfl, rfl, hm, Rw.nil, Rw.nil, (Hp.le_refl _), rfl, rfl⟩ ?_
 rintro _ H305 _ _ ⟨k102, zs312', l299, l303, v297, xs298, v301, xs302, hd314, rfl, hm, hr300, hr304, hle306, rfl, rfl⟩
 refine C_seq (C_region ?_)
 refine W_bin rfl rfl rfl rfl rfl ?_
 refine W_end (E_then (C_seq ?_))
 refine C_cond (b := decide ((k102 : Int) < (p0_n.Switches.length : Int))) rfl (fun hb316 => ?_) (fun hb316 => ?_)
 ·obtain ⟨y311, zs312, rfl, hy313, hd315⟩ := rng_t hd314 hb316
  have hm : m_station_edges_b3 p0_n p1_open k102 y311 l299 l303 (forI (fun k y s307 n => m_station_edges_b3 p0_n p1_open k y s307.1 s307.2 n) (fun s307 => some (s307.1, s307.2)) (k102 + 1) zs312) = some r := hm
  generalize hn309 : forI (fun k y s307 n => m_station_edges_b3 p0_n p1_open k y s307.1 s307.2 n) (fun s307 => some (s307.1, s307.2)) (k102 + 1) zs312 = nx308 at hm
  unfold m_station_edges_b3 at hm
  refine C_skip (E_then ?_)
  refine C_seq_join (fun H' M' L' => ∃ l357 : List S_A2_Int, ∃ l361 : List Int, ∃ v355 : Value, ∃ xs356 : List Value, ∃ v359 : Value, ∃ xs360 : List Value, m_station_edges_b4 nx308 l357 l361 = some r ∧ Rw H' v355 xs356 l357 ∧ Rw H' v359 xs360 l361 ∧ H305.le H' ∧ .row v355 98 (Rep.sz S_A2_Int) l357.length xs356 :: .row v359 3 (Rep.sz Int) l361.length xs360 :: .obj b101 (.cells [v0, v1, v2, v3, v4, v5].toArray 29 (0, 0)) :: M = M' ∧ [(1, .bool (p1_open)), (2, .pointer (some ⟨b101, 0, none⟩)), (6, v355), (7, v359), (11, v1), (12, .int .i64 ((p0_n.Switches.length : Int))), (13, .int .i64 ((k102 : Int)))] = L') ?_ (fun J365 => ?_)
  ·rintro H363 _ _ ⟨l357, l361, v355, xs356, v359, xs360, hm, hr358, hr362, hle364, rfl, rfl⟩
   unfold m_station_edges_b4 at hm
   refine C_region ?_
   refine W_bin rfl rfl rfl rfl rfl ?_
   refine W_move rfl rfl rfl ?_
   refine W_end ?_
   exact E_keepJ (E_back (Nat.lt_succ_self _) ⟨k102 + 1, zs312, l357, l361, v355, xs356, v359, xs360, hd315, rfl, (by rw [hn309]; exact hm), hr358, hr362, (Hp.le_trans hle306 hle364), rfl, rfl⟩) (List.Perm.refl _) ⟨rfl, rfl, rfl, rfl, rfl, rfl, (congrArg (fun z => some (Value.int .i64 z)) (i64_succ hy313 ((h1.mono hle306)).lenMax)), trivial⟩
  ·refine C_block (C_seq (C_region ?_))
   refine W_move rfl rfl rfl ?_
   obtain ⟨_, ⟨rfl⟩, hc366⟩ := (h1).elem hy313
   refine W_indexS rfl rfl runUnderlying23 sizeOf70 rfl (h1.mono hle306) rfl (Int.natCast_nonneg _) hy313 ?_
   refine W_loadAgg rfl rfl isAgg70 sizeOf70 rfl (hc366.mono hle306).at rfl ?_
   refine W_alloc (cs := [.string (⟨#[]⟩), .string (⟨#[]⟩), .string (⟨#[]⟩), .bool (false), .bool (false)]) rfl rfl zeroValue70 rfl (fun b367 => ?_)
   refine W_assign rfl rfl rfl ?_
   refine W_store (cs := [.string (y311.Name), .string (y311.A), .string (y311.B_), .bool (y311.Breaker), .bool (y311.Open)]) (out := [.string (y311.Name), .string (y311.A), .string (y311.B_), .bool (y311.Breaker), .bool (y311.Open)]) rfl sizeOf70 rfl rfl rfl rfl rfl (all_cons rfl (all_cons rfl (all_cons rfl (all_cons rfl (all_cons rfl all_nil))))) (over_all rfl) ?_
   refine W_end (E_then (C_seq (C_region ?_)))
   refine W_field (o := 4) rfl rfl runUnderlying70 rfl sizeOf4 rfl rfl rfl ?_
   refine W_load rfl rfl isAgg4 rfl (own_at (List.mem_cons_self ..) rfl) ?_
   refine W_move rfl rfl rfl ?_
   refine W_eqBool rfl rfl runUnderlying4 rfl rfl ?_
   refine W_end (E_then ?_)
   refine C_cond (b := decide (y311.Open = p1_open)) rfl (fun hb368 => ?_) (fun hb368 => ?_)
   ·have hm := ite_t' hb368 hm
    refine C_seq ?_
    obtain ⟨r369, hc370, hm⟩ := bind_some hm
    obtain ⟨r371, hc372, hm⟩ := bind_some hm
    refine C_region_tok0 13 (phiT [(fun H rs v => [] = rs ∧ v297 = v), (fun H rs v => [] = rs ∧ .pointer (some ⟨b101, 0, none⟩) = v), (fun H rs v => [] = rs ∧ v0 = v), (fun H rs v => [] = rs ∧ .pointer (some ⟨b367, 1, none⟩) = v), (fun H rs v => [] = rs ∧ .string (y311.A) = v), (fun H rs v => [] = rs ∧ .int .i64 (r369) = v), (fun H rs v => [] = rs ∧ .pointer (some ⟨b101, 0, none⟩) = v), (fun H rs v => [] = rs ∧ v0 = v), (fun H rs v => [] = rs ∧ .pointer (some ⟨b367, 2, none⟩) = v), (fun H rs v => [] = rs ∧ .string (y311.B_) = v), (fun H rs v => [] = rs ∧ .int .i64 (r371) = v), (fun H rs v => [] = rs ∧ .agg [.int .i64 (r369), .int .i64 (r371)].toArray = v), (fun H rs v => ∃ v381 : Value, [] = rs ∧ v381 = v ∧ RdS H v381 ([(S_A2_Int.mk r369 r371)]) ∧ Value.cap' v381 = ([(S_A2_Int.mk r369 r371)]).length)]) [[], [], [], [], [], [], [], [], [], [], [], [], []] [[], [], [], [], [], [], [], [], [], [], [], [], []] [] [0, 1, 2, 3, 4, 5, 6, 7, 8, 9, 10, 11, 12] Facts.mixed (by kernel_rfl) (by rfl) (by rfl) (by rfl) (by kernel_rfl) (phiT_mono ⟨eq_monoT _ _, eq_monoT _ _, eq_monoT _ _, eq_monoT _ _, eq_monoT _ _, eq_monoT _ _, eq_monoT _ _, eq_monoT _ _, eq_monoT _ _, eq_monoT _ _, eq_monoT _ _, eq_monoT _ _, (by rintro H1 H2 rs v hle ⟨v381, rfl, rfl, h385, hc386⟩; exact ⟨v381, rfl, rfl, (h385.mono hle), (hc386)⟩), trivial⟩) ⟨?_, ?_, ?_, ?_, ?_, ?_, ?_, ?_, ?_, ?_, ?_, ?_, ?_, trivial⟩ ?_
    ·intro HX hX X Rest hR
     intro hU hUp
     refine W_move rfl rfl rfl ?_
     exact W_end (OneT_end [] (Hp.le_refl _) ⟨rfl, rfl⟩)
    ·intro HX hX X Rest hR
     intro hU hUp
     refine W_field (o := 0) rfl rfl runUnderlying29 rfl sizeOf22 rfl rfl rfl ?_
     exact W_end (OneT_end [] (Hp.le_refl _) ⟨rfl, rfl⟩)
    ·intro HX hX X Rest hR
     rintro _ _ ⟨rfl, rfl⟩
     intro hU hUp
     refine W_load rfl rfl isAgg22 rfl (own_at (hR _ (List.mem_cons_of_mem _ (List.mem_cons_of_mem _ (List.mem_cons_of_mem _ (List.mem_cons_self ..))))) rfl) ?_
     exact W_end (OneT_end [] (Hp.le_refl _) ⟨rfl, rfl⟩)
    ·intro HX hX X Rest hR
     intro hU hUp
     refine W_field (o := 1) rfl rfl runUnderlying70 rfl sizeOf9 rfl rfl rfl ?_
     exact W_end (OneT_end [] (Hp.le_refl _) ⟨rfl, rfl⟩)
    ·intro HX hX X Rest hR
     rintro _ _ ⟨rfl, rfl⟩
     intro hU hUp
     refine W_load rfl rfl isAgg9 rfl (own_at (hR _ (List.mem_cons_self ..)) rfl) ?_
     exact W_end (OneT_end [] (Hp.le_refl _) ⟨rfl, rfl⟩)
    ·intro HX hX X Rest hR
     rintro _ _ ⟨rfl, rfl⟩
     rintro _ _ ⟨rfl, rfl⟩
     intro hU hUp
     refine W_call call31 rfl rfl rfl (fun w ht => by have h := m_slices_Index_string_string_c (hm := hc370) ((h0.mono hle306).mono hX) ht; exact h) ?_
     rintro _ _ _ ⟨rfl, rfl, rfl⟩
     exact W_end (OneT_end [] (Hp.le_refl _) ⟨rfl, rfl⟩)
    ·intro HX hX X Rest hR
     intro hU hUp
     refine W_field (o := 0) rfl rfl runUnderlying29 rfl sizeOf22 rfl rfl rfl ?_
     exact W_end (OneT_end [] (Hp.le_refl _) ⟨rfl, rfl⟩)
    ·intro HX hX X Rest hR
     rintro _ _ ⟨rfl, rfl⟩
     intro hU hUp
     refine W_load rfl rfl isAgg22 rfl (own_at (hR _ (List.mem_cons_of_mem _ (List.mem_cons_of_mem _ (List.mem_cons_of_mem _ (List.mem_cons_self ..))))) rfl) ?_
     exact W_end (OneT_end [] (Hp.le_refl _) ⟨rfl, rfl⟩)
    ·intro HX hX X Rest hR
     intro hU hUp
     refine W_field (o := 2) rfl rfl runUnderlying70 rfl sizeOf9 rfl rfl rfl ?_
     exact W_end (OneT_end [] (Hp.le_refl _) ⟨rfl, rfl⟩)
    ·intro HX hX X Rest hR
     rintro _ _ ⟨rfl, rfl⟩
     intro hU hUp
     refine W_load rfl rfl isAgg9 rfl (own_at (hR _ (List.mem_cons_self ..)) rfl) ?_
     exact W_end (OneT_end [] (Hp.le_refl _) ⟨rfl, rfl⟩)
    ·intro HX hX X Rest hR
     rintro _ _ ⟨rfl, rfl⟩
     rintro _ _ ⟨rfl, rfl⟩
     rintro _ _ ⟨rfl, rfl⟩
     intro hU hUp
     refine W_call call31 rfl rfl rfl (fun w ht => by have h := m_slices_Index_string_string_c (hm := hc372) ((h0.mono hle306).mono hX) ht; exact h) ?_
     rintro _ _ _ ⟨rfl, rfl, rfl⟩
     exact W_end (OneT_end [] (Hp.le_refl _) ⟨rfl, rfl⟩)
    ·intro HX hX X Rest hR
     rintro _ _ ⟨rfl, rfl⟩
     rintro _ _ ⟨rfl, rfl⟩
     intro hU hUp
     refine W_buildArr (css := [[.int .i64 (r369)], [.int .i64 (r371)]]) (zs := [.int .i64 (0), .int .i64 (0)]) (out := [.int .i64 (r369), .int .i64 (r371)]) (places := [(0, 1), (1, 1)]) rfl rfl rfl ⟨rfl, rfl, trivial⟩ zeroValue98 rfl runUnderlying98 sizeOf3 rfl rfl ?_
     exact W_end (OneT_end [] (Hp.le_refl _) ⟨rfl, rfl⟩)
    ·intro HX hX X Rest hR
     rintro _ _ ⟨rfl, rfl⟩
     intro hU hUp
     refine W_buildSlice (α := S_A2_Int) (css := [[.int .i64 (r369), .int .i64 (r371)]]) (zs := [.int .i64 (0), .int .i64 (0)]) (out := [.int .i64 (r369), .int .i64 (r371)]) (ys := [(S_A2_Int.mk r369 r371)]) rfl rfl rfl ⟨rfl, trivial⟩ runUnderlying97 sizeOf98 rfl zeroValue98 (by kernel_rfl) rfl rfl rfl rfl ⟨[.int .i64 (r369), .int .i64 (r371)], [], rfl, rfl, rfl⟩ rfl ?_
     intro b380 v381 H382 hv383 hle384 h385
     have hc386 : Value.cap' v381 = ([(S_A2_Int.mk r369 r371)]).length := by rw [hv383]; rfl
     exact W_end (OneT_end [] hle384 ⟨v381, rfl, rfl, (h385), (hc386)⟩)
    intro H387 hle388
    rintro _ _ ⟨rfl, rfl⟩
    rintro _ _ ⟨rfl, rfl⟩
    rintro _ _ ⟨rfl, rfl⟩
    rintro _ _ ⟨rfl, rfl⟩
    rintro _ _ ⟨rfl, rfl⟩
    rintro _ _ ⟨rfl, rfl⟩
    rintro _ _ ⟨rfl, rfl⟩
    rintro _ _ ⟨rfl, rfl⟩
    rintro _ _ ⟨rfl, rfl⟩
    rintro _ _ ⟨rfl, rfl⟩
    rintro _ _ ⟨rfl, rfl⟩
    rintro _ _ ⟨rfl, rfl⟩
    rintro _ _ ⟨v381, rfl, rfl, h385, hc386⟩
    obtain ⟨hz389, hm⟩ := need_some hm
    refine W_perm (List.Perm.swap _ _ _) ?_
    refine W_appendO (α := S_A2_Int) (l := l299) (ys := [(S_A2_Int.mk r369 r371)]) rfl rfl underlying97 ⟨_, rfl, rfl, rfl, rfl⟩ rfl rfl rfl rfl rfl (hr300.mono hle388) h385 hz389 ?_
    intro v390 xs391 hr392
    refine W_assign rfl rfl rfl ?_
    refine W_end (E_then (C_region ?_))
    refine W_move rfl rfl rfl ?_
    refine W_move rfl rfl rfl ?_
    refine W_buildSlice (α := Int) (css := [[.int .i64 ((k102 : Int))]]) (zs := [.int .i64 (0)]) (out := [.int .i64 ((k102 : Int))]) (ys := ([((k102 : Int))] : List Int)) rfl rfl rfl ⟨rfl, trivial⟩ runUnderlying42 sizeOf3 rfl zeroValue3 (by kernel_rfl) rfl rfl rfl rfl ⟨[.int .i64 ((k102 : Int))], [], rfl, rfl, rfl⟩ rfl ?_
    intro b393 v394 H395 hv396 hle397 h398
    have hc399 : Value.cap' v394 = ([((k102 : Int))] : List Int).length := by rw [hv396]; rfl
    obtain ⟨hz400, hm⟩ := need_some hm
    refine W_perm (List.Perm.trans (List.Perm.cons _ (List.Perm.swap _ _ _)) (List.Perm.swap _ _ _)) ?_
    refine W_appendO (α := Int) (l := l303) (ys := ([((k102 : Int))] : List Int)) rfl rfl underlying42 ⟨_, rfl, rfl, rfl, rfl⟩ rfl rfl rfl rfl rfl ((hr304.mono hle388).mono hle397) h398 hz400 ?_
    intro v401 xs402 hr403
    refine W_assign rfl rfl rfl ?_
    refine W_end (E_normal_block ?_)
    refine E_drop (List.Sublist.cons_cons _ (List.Sublist.cons_cons _ (List.Sublist.cons _ (List.Sublist.refl _)))) ?_
    exact E_keepJ (J365 _ _ _ ⟨(l299 ++ ([(S_A2_Int.mk r369 r371)])), (l303 ++ ([((k102 : Int))] : List Int)), v390, xs391, v401, xs402, hm, (hr392.mono hle397), hr403, (Hp.le_trans hle388 hle397), rfl, rfl⟩) (List.Perm.swap _ _ _) ⟨rfl, rfl, rfl, rfl, rfl, rfl, rfl, trivial⟩
   ·have hm := ite_f' hb368 hm
    refine C_skip (E_normal_block ?_)
    refine E_drop (List.Sublist.cons _ (List.Sublist.refl _)) ?_
    exact E_keepJ (J365 _ _ _ ⟨l299, l303, v297, xs298, v301, xs302, hm, hr300, hr304, (Hp.le_refl _), rfl, rfl⟩) (List.Perm.refl _) ⟨rfl, rfl, rfl, rfl, rfl, rfl, rfl, trivial⟩
 ·obtain rfl := rng_f hd314 hb316
  have hm : (some (l299, l303)) = some r := hm
  refine C_exit (E_exit_then (E_exit_then (E_exit_hit (E_then (C_seq (C_region ?_))))))
  refine W_move rfl rfl rfl ?_
  refine W_move rfl rfl rfl ?_
  refine W_assign rfl rfl rfl ?_
  refine W_assign rfl rfl rfl ?_
  refine W_end (E_then (C_ret ?_))
  obtain rfl := Option.some.inj hm
  refine E_drop (List.Sublist.cons_cons _ (List.Sublist.cons_cons _ (List.Sublist.cons _ (List.Sublist.refl _)))) ?_
  refine E_weak hle306 ?_
  exact end2 rfl rfl rfl ⟨rfl, v297, xs298, v301, xs302, rfl, rfl, (hr300).toF, (hr304).toF⟩

theorem m_graph_Check_c {B : Nat} {w0 w : World} {H : Hp} {M : List Res} {p0_n : Int} {p1_l : (List S_A2_Int)} {v0 : Value} {r : Int} (hm : m_graph_Check p0_n p1_l = some r) (h0 : RdS H v0 p1_l) (ht : St B w0 H (M) w) :
  Calls prog 57 [.int .i64 (p0_n), v0].toArray w (Ret B w0 fun H' M' v => H = H' ∧ M = M' ∧ .int .i64 (r) = v) := by
 unfold m_graph_Check at hm
 refine enter func57 rfl rfl rfl ht ?_
 refine C_seq (C_region ?_)
 refine W_assign rfl rfl rfl ?_
 refine W_end (E_then (C_seq ?_))
 refine C_seq_join (fun H' M' L' => H = H' ∧ M = M' ∧ [(0, .int .i64 (p0_n)), (1, v0), (17, .bool (((decide (p0_n < 0)) || (decide (24 < p0_n))) || (decide (64 < (p1_l.length : Int)))))] = L') ?_ (fun J103 => ?_)
 ·rintro _ _ _ ⟨rfl, rfl, rfl⟩
  refine C_cond (b := ((decide (p0_n < 0)) || (decide (24 < p0_n))) || (decide (64 < (p1_l.length : Int)))) rfl (fun hb104 => ?_) (fun hb104 => ?_)
  ·have hm := ite_t' hb104 hm
   refine C_seq (C_region ?_)
   refine W_assign rfl rfl rfl ?_
   refine W_end (E_then (C_ret (E_ret_then ?_)))
   obtain rfl := Option.some.inj hm
   refine E_weak (Hp.le_refl _) ?_
   exact end1 rfl rfl ⟨rfl, rfl, rfl⟩
  ·have hm := ite_f' hb104 hm
   refine C_skip (E_then (C_seq (C_seq (C_region ?_))))
   refine W_move rfl rfl rfl ?_
   refine W_lenR rfl rfl runUnderlying97 rfl h0 ?_
   refine W_move rfl rfl rfl ?_
   refine W_end (E_then (C_block ?_))
   refine C_keep (L' := [(0, .int .i64 (p0_n)), (18, v0), (19, .int .i64 ((p1_l.length : Int))), (20, .int .i64 (((0 : Nat) : Int)))]) ⟨rfl, rfl, rfl, rfl, trivial⟩ (List.Perm.refl _) ?_
   refine C_loop (fun n H' M' L' => ∃ (k105 : Nat) (zs125' : List S_A2_Int), (p1_l).drop k105 = zs125' ∧ zs125'.length = n ∧ forI (fun k y s120 n => m_graph_Check_b1 p0_n k y n) (fun _ => some 0) k105 zs125' () = some r ∧ H.le H' ∧ M = M' ∧ [(0, .int .i64 (p0_n)), (18, v0), (19, .int .i64 ((p1_l.length : Int))), (20, .int .i64 ((k105 : Int)))] = L') _ ⟨0, _, rfl, rfl, hm, (Hp.le_refl _), rfl, rfl⟩ ?_
   rintro _ H118 _ _ ⟨k105, zs125', hd127, rfl, hm, hle119, rfl, rfl⟩
   refine C_seq (C_region ?_)
   refine W_bin rfl rfl rfl rfl rfl ?_
   refine W_end (E_then (C_seq ?_))
   refine C_cond (b := decide ((k105 : Int) < (p1_l.length : Int))) rfl (fun hb129 => ?_) (fun hb129 => ?_)
   ·obtain ⟨y124, zs125, rfl, hy126, hd128⟩ := rng_t hd127 hb129
    have hm : m_graph_Check_b1 p0_n k105 y124 (forI (fun k y s120 n => m_graph_Check_b1 p0_n k y n) (fun _ => some 0) (k105 + 1) zs125) = some r := hm
    generalize hn122 : forI (fun k y s120 n => m_graph_Check_b1 p0_n k y n) (fun _ => some 0) (k105 + 1) zs125 = nx121 at hm
    unfold m_graph_Check_b1 at hm
    refine C_skip (E_then (C_seq (C_block (C_seq (C_region ?_)))))
    obtain ⟨_, ⟨rfl⟩, hc130⟩ := (h0).elem hy126
    refine W_indexS rfl rfl runUnderlying97 sizeOf98 rfl (h0.mono hle119) rfl (Int.natCast_nonneg _) hy126 ?_
    refine W_loadAgg rfl rfl isAgg98 sizeOf98 rfl (hc130.mono hle119).at rfl ?_
    refine W_alloc (cs := [.int .i64 (0), .int .i64 (0)]) rfl rfl zeroValue98 rfl (fun b131 => ?_)
    refine W_store (cs := [.int .i64 (y124.a0), .int .i64 (y124.a1)]) (out := [.int .i64 (y124.a0), .int .i64 (y124.a1)]) rfl sizeOf98 rfl rfl rfl rfl rfl (all_cons rfl (all_cons rfl all_nil)) (over_all rfl) ?_
    refine W_end (E_then (C_seq (C_region ?_)))
    refine W_indexAd rfl rfl runUnderlying98 sizeOf3 rfl rfl (by decide) (by decide) ?_
    refine W_load rfl rfl isAgg3 rfl (own_at (List.mem_cons_self ..) rfl) ?_
    refine W_bin rfl rfl rfl rfl rfl ?_
    refine W_move rfl rfl rfl ?_
    cases hb132 : (decide (y124.a0 < 0))
    ·have hm := ite_f' hb132 hm
     refine W_indexAd rfl rfl runUnderlying98 sizeOf3 rfl rfl (by decide) (by decide) ?_
     refine W_load rfl rfl isAgg3 rfl (own_at (List.mem_cons_self ..) rfl) ?_
     refine W_move rfl rfl rfl ?_
     refine W_bin rfl rfl rfl rfl rfl ?_
     refine W_pick rfl rfl rfl rfl ?_
     refine W_move rfl rfl rfl ?_
     cases hb133 : (decide (p0_n ≤ y124.a0))
     ·have hm := ite_f' hb133 hm
      refine W_indexAd rfl rfl runUnderlying98 sizeOf3 rfl rfl (by decide) (by decide) ?_
      refine W_load rfl rfl isAgg3 rfl (own_at (List.mem_cons_self ..) rfl) ?_
      refine W_bin rfl rfl rfl rfl rfl ?_
      refine W_pick rfl rfl rfl rfl ?_
      refine W_move rfl rfl rfl ?_
      cases hb134 : (decide (y124.a1 < 0))
      ·have hm := ite_f' hb134 hm
       refine W_indexAd rfl rfl runUnderlying98 sizeOf3 rfl rfl (by decide) (by decide) ?_
       refine W_load rfl rfl isAgg3 rfl (own_at (List.mem_cons_self ..) rfl) ?_
       refine W_move rfl rfl rfl ?_
       refine W_bin rfl rfl rfl rfl rfl ?_
       refine W_pick rfl rfl rfl rfl ?_
       refine W_end (E_then ?_)
       refine C_cond (b := decide (p0_n ≤ y124.a1)) rfl (fun hb135 => ?_) (fun hb135 => ?_)
       ·have hm := ite_t' hb135 hm
        refine C_seq (C_region ?_)
        refine W_assign rfl rfl rfl ?_
        refine W_end (E_then (C_ret (E_ret_block (E_ret_then (E_ret_then (E_ret_block (E_ret_then ?_)))))))
        obtain rfl := Option.some.inj hm
        refine E_drop (List.Sublist.cons _ (List.Sublist.refl _)) ?_
        refine E_weak hle119 ?_
        exact end1 rfl rfl ⟨rfl, rfl, rfl⟩
       ·have hm := ite_f' hb135 hm
        refine C_skip (E_normal_block (E_then (C_region ?_)))
        refine W_bin rfl rfl rfl rfl rfl ?_
        refine W_move rfl rfl rfl ?_
        refine W_end ?_
        refine E_drop (List.Sublist.cons _ (List.Sublist.refl _)) ?_
        exact E_keepJ (E_back (Nat.lt_succ_self _) ⟨k105 + 1, zs125, hd128, rfl, (by rw [hn122]; exact hm), hle119, rfl, rfl⟩) (List.Perm.refl _) ⟨rfl, rfl, rfl, (congrArg (fun z => some (Value.int .i64 z)) (i64_succ hy126 ((h0.mono hle119)).lenMax)), trivial⟩
      ·have hm := ite_t' hb134 hm
       refine W_no rfl rfl rfl ?_
       refine W_no rfl rfl rfl ?_
       refine W_no rfl rfl rfl ?_
       refine W_no rfl rfl rfl ?_
       refine W_pick rfl rfl rfl rfl ?_
       refine W_end (E_then ?_)
       refine C_cond (b := true) rfl (fun _ => ?_) (fun hb => Bool.noConfusion hb)
       refine C_seq (C_region ?_)
       refine W_assign rfl rfl rfl ?_
       refine W_end (E_then (C_ret (E_ret_block (E_ret_then (E_ret_then (E_ret_block (E_ret_then ?_)))))))
       obtain rfl := Option.some.inj hm
       refine E_drop (List.Sublist.cons _ (List.Sublist.refl _)) ?_
       refine E_weak hle119 ?_
       exact end1 rfl rfl ⟨rfl, rfl, rfl⟩
     ·have hm := ite_t' hb133 hm
      refine W_no rfl rfl rfl ?_
      refine W_no rfl rfl rfl ?_
      refine W_no rfl rfl rfl ?_
      refine W_pick rfl rfl rfl rfl ?_
      refine W_move rfl rfl rfl ?_
      refine W_no rfl rfl rfl ?_
      refine W_no rfl rfl rfl ?_
      refine W_no rfl rfl rfl ?_
      refine W_no rfl rfl rfl ?_
      refine W_pick rfl rfl rfl rfl ?_
      refine W_end (E_then ?_)
      refine C_cond (b := true) rfl (fun _ => ?_) (fun hb => Bool.noConfusion hb)
      refine C_seq (C_region ?_)
      refine W_assign rfl rfl rfl ?_
      refine W_end (E_then (C_ret (E_ret_block (E_ret_then (E_ret_then (E_ret_block (E_ret_then ?_)))))))
      obtain rfl := Option.some.inj hm
      refine E_drop (List.Sublist.cons _ (List.Sublist.refl _)) ?_
      refine E_weak hle119 ?_
      exact end1 rfl rfl ⟨rfl, rfl, rfl⟩
    ·have hm := ite_t' hb132 hm
     refine W_no rfl rfl rfl ?_
     refine W_no rfl rfl rfl ?_
     refine W_no rfl rfl rfl ?_
     refine W_no rfl rfl rfl ?_
     refine W_pick rfl rfl rfl rfl ?_
     refine W_move rfl rfl rfl ?_
     refine W_no rfl rfl rfl ?_
     refine W_no rfl rfl rfl ?_
     refine W_no rfl rfl rfl ?_
     refine W_pick rfl rfl rfl rfl ?_
     refine W_move rfl rfl rfl ?_
     refine W_no rfl rfl rfl ?_
     refine W_no rfl rfl rfl ?_
     refine W_no rfl rfl rfl ?_
     refine W_no rfl rfl rfl ?_
     refine W_pick rfl rfl rfl rfl ?_
     refine W_end (E_then ?_)
     refine C_cond (b := true) rfl (fun _ => ?_) (fun hb => Bool.noConfusion hb)
     refine C_seq (C_region ?_)
     refine W_assign rfl rfl rfl ?_
     refine W_end (E_then (C_ret (E_ret_block (E_ret_then (E_ret_then (E_ret_block (E_ret_then ?_)))))))
     obtain rfl := Option.some.inj hm
     refine E_drop (List.Sublist.cons _ (List.Sublist.refl _)) ?_
     refine E_weak hle119 ?_
     exact end1 rfl rfl ⟨rfl, rfl, rfl⟩
   ·obtain rfl := rng_f hd127 hb129
    have hm : (some 0) = some r := hm
    refine C_exit (E_exit_then (E_exit_then (E_exit_hit (E_then (C_seq (C_region ?_))))))
    refine W_assign rfl rfl rfl ?_
    refine W_end (E_then (C_ret ?_))
    obtain rfl := Option.some.inj hm
    refine E_weak hle119 ?_
    exact end1 rfl rfl ⟨rfl, rfl, rfl⟩
 ·refine C_region ?_
  refine W_move rfl rfl rfl ?_
  refine W_bin rfl rfl rfl rfl rfl ?_
  refine W_move rfl rfl rfl ?_
  cases hb136 : (decide (p0_n < 0))
  ·refine W_move rfl rfl rfl ?_
   refine W_bin rfl rfl rfl rfl rfl ?_
   refine W_pick rfl rfl rfl rfl ?_
   refine W_move rfl rfl rfl ?_
   cases hb137 : (decide (24 < p0_n))
   ·refine W_move rfl rfl rfl ?_
    refine W_lenR rfl rfl runUnderlying97 rfl h0 ?_
    refine W_bin rfl rfl rfl rfl rfl ?_
    refine W_pick rfl rfl rfl rfl ?_
    refine W_end ?_
    exact E_keepJ (J103 _ _ _ ⟨rfl, rfl, rfl⟩) (List.Perm.refl _) ⟨rfl, rfl, (by show some (Value.bool (decide (64 < (p1_l.length : Int)))) = some (Value.bool (((decide (p0_n < 0)) || (decide (24 < p0_n))) || (decide (64 < (p1_l.length : Int))))); first | (simp only [hb136, hb137, Bool.and_true, Bool.true_and, Bool.false_and, Bool.and_false, Bool.or_true, Bool.true_or, Bool.or_false, Bool.false_or, Bool.not_true, Bool.not_false]; done) | (simp only [hb136, hb137]; first | done | simp only [Bool.and_true, Bool.true_and, Bool.false_and, Bool.and_false, Bool.or_true, Bool.true_or, Bool.or_false, Bool.false_or, Bool.not_true, Bool.not_false])), trivial⟩
   ·refine W_no rfl rfl rfl ?_
    refine W_no rfl rfl rfl ?_
    refine W_no rfl rfl rfl ?_
    refine W_pick rfl rfl rfl rfl ?_
    refine W_end ?_
    exact E_keepJ (J103 _ _ _ ⟨rfl, rfl, rfl⟩) (List.Perm.refl _) ⟨rfl, rfl, (by show some (Value.bool (true)) = some (Value.bool (((decide (p0_n < 0)) || (decide (24 < p0_n))) || (decide (64 < (p1_l.length : Int))))); first | (simp only [hb136, hb137, Bool.and_true, Bool.true_and, Bool.false_and, Bool.and_false, Bool.or_true, Bool.true_or, Bool.or_false, Bool.false_or, Bool.not_true, Bool.not_false]; done) | (simp only [hb136, hb137]; first | done | simp only [Bool.and_true, Bool.true_and, Bool.false_and, Bool.and_false, Bool.or_true, Bool.true_or, Bool.or_false, Bool.false_or, Bool.not_true, Bool.not_false])), trivial⟩
  ·refine W_no rfl rfl rfl ?_
   refine W_no rfl rfl rfl ?_
   refine W_pick rfl rfl rfl rfl ?_
   refine W_move rfl rfl rfl ?_
   refine W_no rfl rfl rfl ?_
   refine W_no rfl rfl rfl ?_
   refine W_no rfl rfl rfl ?_
   refine W_pick rfl rfl rfl rfl ?_
   refine W_end ?_
   exact E_keepJ (J103 _ _ _ ⟨rfl, rfl, rfl⟩) (List.Perm.refl _) ⟨rfl, rfl, (by show some (Value.bool (true)) = some (Value.bool (((decide (p0_n < 0)) || (decide (24 < p0_n))) || (decide (64 < (p1_l.length : Int))))); first | (simp only [hb136, Bool.and_true, Bool.true_and, Bool.false_and, Bool.and_false, Bool.or_true, Bool.true_or, Bool.or_false, Bool.false_or, Bool.not_true, Bool.not_false]; done) | (simp only [hb136]; first | done | simp only [Bool.and_true, Bool.true_and, Bool.false_and, Bool.and_false, Bool.or_true, Bool.true_or, Bool.or_false, Bool.false_or, Bool.not_true, Bool.not_false])), trivial⟩

theorem m_math_bits_Mul64_c {B : Nat} {w0 w : World} {H : Hp} {M : List Res} {p0_x : Int} {p1_y : Int} {r : Int × Int} (hm : m_math_bits_Mul64 p0_x p1_y = r) (ht : St B w0 H (M) w) :
  Calls prog 73 [.int .u64 (p0_x), .int .u64 (p1_y)].toArray w (Ret B w0 fun H' M' v => H = H' ∧ M = M' ∧ .tuple #[.int .u64 (r.1), .int .u64 (r.2)] = v) := by
 unfold m_math_bits_Mul64 at hm
 refine enter func73 rfl rfl rfl ht ?_
 refine C_seq (C_region ?_)
 refine W_assign rfl rfl rfl ?_
 refine W_assign rfl rfl rfl ?_
 refine W_end (E_then (C_seq (C_region ?_)))
 refine W_move rfl rfl rfl ?_
 refine W_bin rfl rfl rfl rfl rfl ?_
 refine W_assign rfl rfl rfl ?_
 refine W_end (E_then (C_seq (C_region ?_)))
 refine W_move rfl rfl rfl ?_
 refine W_shr rfl rfl rfl rfl (by decide) ?_
 refine W_assign rfl rfl rfl ?_
 refine W_end (E_then (C_seq (C_region ?_)))
 refine W_move rfl rfl rfl ?_
 refine W_bin rfl rfl rfl rfl rfl ?_
 refine W_assign rfl rfl rfl ?_
 refine W_end (E_then (C_seq (C_region ?_)))
 refine W_move rfl rfl rfl ?_
 refine W_shr rfl rfl rfl rfl (by decide) ?_
 refine W_assign rfl rfl rfl ?_
 refine W_end (E_then (C_seq (C_region ?_)))
 refine W_move rfl rfl rfl ?_
 refine W_move rfl rfl rfl ?_
 refine W_bin rfl rfl rfl rfl rfl ?_
 refine W_assign rfl rfl rfl ?_
 refine W_end (E_then (C_seq (C_region ?_)))
 refine W_move rfl rfl rfl ?_
 refine W_move rfl rfl rfl ?_
 refine W_bin rfl rfl rfl rfl rfl ?_
 refine W_move rfl rfl rfl ?_
 refine W_shr rfl rfl rfl rfl (by decide) ?_
 refine W_bin rfl rfl rfl rfl rfl ?_
 refine W_assign rfl rfl rfl ?_
 refine W_end (E_then (C_seq (C_region ?_)))
 refine W_move rfl rfl rfl ?_
 refine W_bin rfl rfl rfl rfl rfl ?_
 refine W_assign rfl rfl rfl ?_
 refine W_end (E_then (C_seq (C_region ?_)))
 refine W_move rfl rfl rfl ?_
 refine W_shr rfl rfl rfl rfl (by decide) ?_
 refine W_assign rfl rfl rfl ?_
 refine W_end (E_then (C_seq (C_region ?_)))
 refine W_move rfl rfl rfl ?_
 refine W_move rfl rfl rfl ?_
 refine W_move rfl rfl rfl ?_
 refine W_bin rfl rfl rfl rfl rfl ?_
 refine W_bin rfl rfl rfl rfl rfl ?_
 refine W_assign rfl rfl rfl ?_
 refine W_end (E_then (C_seq (C_region ?_)))
 refine W_move rfl rfl rfl ?_
 refine W_move rfl rfl rfl ?_
 refine W_bin rfl rfl rfl rfl rfl ?_
 refine W_move rfl rfl rfl ?_
 refine W_bin rfl rfl rfl rfl rfl ?_
 refine W_move rfl rfl rfl ?_
 refine W_shr rfl rfl rfl rfl (by decide) ?_
 refine W_bin rfl rfl rfl rfl rfl ?_
 refine W_assign rfl rfl rfl ?_
 refine W_end (E_then (C_seq (C_region ?_)))
 refine W_move rfl rfl rfl ?_
 refine W_move rfl rfl rfl ?_
 refine W_bin rfl rfl rfl rfl rfl ?_
 refine W_assign rfl rfl rfl ?_
 refine W_end (E_then (C_ret ?_))
 obtain rfl := hm
 refine E_weak (Hp.le_refl _) ?_
 exact end2 rfl rfl rfl ⟨rfl, rfl, rfl⟩

theorem m_math_bits_Mul_c {B : Nat} {w0 w : World} {H : Hp} {M : List Res} {p0_x : Int} {p1_y : Int} {r : Int × Int} (hm : m_math_bits_Mul p0_x p1_y = r) (ht : St B w0 H (M) w) :
  Calls prog 71 [.int .u64 (p0_x), .int .u64 (p1_y)].toArray w (Ret B w0 fun H' M' v => H = H' ∧ M = M' ∧ .tuple #[.int .u64 (r.1), .int .u64 (r.2)] = v) := by
 unfold m_math_bits_Mul at hm
 refine enter func71 rfl rfl rfl ht ?_
 refine C_seq (C_region ?_)
 refine W_assign rfl rfl rfl ?_
 refine W_assign rfl rfl rfl ?_
 refine W_end (E_then (C_seq ?_))
 refine C_cond (b := false) rfl (fun hb => Bool.noConfusion hb) (fun _ => ?_)
 refine C_skip (E_then (C_seq (C_region ?_)))
 refine W_move rfl rfl rfl ?_
 refine W_move rfl rfl rfl ?_
 refine W_call call73 rfl rfl rfl (fun w ht => by have h := m_math_bits_Mul64_c (hm := (rfl : m_math_bits_Mul64 p0_x p1_y = _))  ht; exact h) ?_
 rintro _ _ _ ⟨rfl, rfl, rfl⟩
 refine W_move rfl rfl rfl ?_
 refine W_extract rfl rfl rfl rfl ?_
 refine W_extract rfl rfl rfl rfl ?_
 refine W_assign rfl rfl rfl ?_
 refine W_assign rfl rfl rfl ?_
 refine W_end (E_then (C_seq (C_region ?_)))
 refine W_move rfl rfl rfl ?_
 refine W_move rfl rfl rfl ?_
 refine W_assign rfl rfl rfl ?_
 refine W_assign rfl rfl rfl ?_
 refine W_end (E_then (C_ret ?_))
 obtain rfl := hm
 refine E_weak (Hp.le_refl _) ?_
 exact end2 rfl rfl rfl ⟨rfl, rfl, rfl⟩

theorem mul_one_u64 (m : Nat) (hm : m < 9223372036854775808) : m_math_bits_Mul (IntKind.u64.wrap (1 : Int)) (IntKind.u64.wrap (m : Int)) = (0, (m : Int)) := by
 have hw : IntKind.u64.wrap (m : Int) = m := by rw [IntKind.wrap_u64]; omega
 have h1 : IntKind.u64.wrap (1 : Int) = 1 := rfl
 have hand : IntKind.u64.wrap ((BitVec.ofInt (IntKind.u64).bits (m : Int) &&& BitVec.ofInt (IntKind.u64).bits 4294967295).toNat) = ((m % 4294967296 : Nat) : Int) := by
  have h := bits_and_u64_nat m 4294967295 (by omega) (by omega)
  have e : m &&& 4294967295 = m % 4294967296 := Nat.and_two_pow_sub_one_eq_mod m 32
  rw [e] at h
  exact h
 have hand2 : IntKind.u64.wrap ((BitVec.ofInt (IntKind.u64).bits ((m / 4294967296 % 4294967296 : Nat) : Int) &&& BitVec.ofInt (IntKind.u64).bits 4294967295).toNat) = ((m / 4294967296 % 4294967296 : Nat) : Int) := by
  have h := bits_and_u64_nat (m / 4294967296 % 4294967296) 4294967295 (by omega) (by omega)
  have e : (m / 4294967296 % 4294967296) &&& 4294967295 = (m / 4294967296 % 4294967296) % 4294967296 := Nat.and_two_pow_sub_one_eq_mod _ 32
  rw [e, Nat.mod_mod] at h
  exact h
 have hs0 : shrV .u64 (1 : Int) 32 = 0 := rfl
 have hs00 : shrV .u64 (0 : Int) 32 = 0 := rfl
 have hand1 : IntKind.u64.wrap ((BitVec.ofInt (IntKind.u64).bits (1 : Int) &&& BitVec.ofInt (IntKind.u64).bits 4294967295).toNat) = 1 := rfl
 have hand0 : IntKind.u64.wrap ((BitVec.ofInt (IntKind.u64).bits (0 : Int) &&& BitVec.ofInt (IntKind.u64).bits 4294967295).toNat) = 0 := rfl
 have hsm : ∀ k : Nat, shrV .u64 (k : Int) 32 = ((k / 4294967296 : Nat) : Int) := fun k => shr_u64_32 k
 have e0 : ((m % 4294967296 : Nat) : Int) = ((m % 4294967296 : Nat) : Int) := rfl
 have w1 : IntKind.u64.wrap ((m % 4294967296 : Nat) : Int) = ((m % 4294967296 : Nat) : Int) := by rw [IntKind.wrap_u64]; omega
 have w2 : IntKind.u64.wrap ((m / 4294967296 : Nat) : Int) = ((m / 4294967296 : Nat) : Int) := by rw [IntKind.wrap_u64]; omega
 have d1 : m % 4294967296 / 4294967296 = 0 := by omega
 have d2 : m / 4294967296 / 4294967296 = 0 := by omega
 have z0 : IntKind.u64.wrap (0 : Int) = 0 := rfl
 unfold m_math_bits_Mul m_math_bits_Mul64
 rw [hw, h1]
 simp only [hs0, hs00, hand1, hand, hsm, Int.zero_mul, Int.one_mul, z0, Int.zero_add, w1, d1, Int.ofNat_zero, Int.natCast_zero, Int.add_zero, hand0, w2, d2, hw]
end Go.Sim
