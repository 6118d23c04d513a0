/-
  Printed by a program: each Go function computes its model.
-/
import Derived.Test.YtfmhkgnbceoclaaConB2
namespace Go.Sim
open Go Go.Proofs.Try
set_option linter.unusedVariables false
set_option linter.unusedSimpArgs false
set_option maxRecDepth 100000
theorem m_blackstart_Plan_c {B : Nat} {w0 w : World} {H : Hp} {M : List Res} {p0_n : S_api_Network} {sources : (List ByteArray)} {v0 : Value} {v1 : Value} {v2 : Value} {v3 : Value} {v4 : Value} {v5 : Value} {v6 : Value} {r : (List S_api_BlackstartStep) × Int} (hm : m_blackstart_Plan p0_n sources = some r) (h0 : RdS H v0 p0_n.Nodes) (h1 : RdS H v1 p0_n.Switches) (h2 : RdS H v2 p0_n.Branches) (h3 : RdS H v3 p0_n.Gens) (h4 : RdS H v4 p0_n.Loads) (h5 : RdS H v5 p0_n.Stores) (h6 : RdS H v6 sources) (ht : St B w0 H (M) w) :
  Calls prog 7 [.agg [v0, v1, v2, v3, v4, v5].toArray, v6].toArray w (Ret B w0 fun H' M' v => H.le H' ∧ ∃ qv0 : Value, ∃ qxs0 : List Value, .row qv0 38 (Rep.sz S_api_BlackstartStep) r.1.length qxs0 :: M = M' ∧ .tuple #[qv0, .int .i64 (r.2)] = v ∧ Rw H' qv0 qxs0 r.1) := by
 unfold m_blackstart_Plan at hm
 refine enter func7 rfl rfl rfl ht ?_
 refine C_seq (C_region ?_)
 refine W_box (cs := [v0, v1, v2, v3, v4, v5]) rfl rfl rfl rfl (fun b101 => ?_)
 refine W_assign rfl rfl rfl ?_
 refine W_assign rfl rfl rfl ?_
 refine W_end (E_then (C_seq (C_seq (C_region ?_))))
 refine W_loadAgg rfl rfl isAgg29 sizeOf29 rfl (own_all (List.mem_cons_self ..)) rfl ?_
 refine W_move rfl rfl rfl ?_
 obtain ⟨r102, hc103, hm⟩ := bind_some hm
 refine W_call call22 rfl rfl rfl (fun w ht => by have h := m_blackstart_check_c (hm := hc103) h0 h1 h2 h3 h4 h5 h6 ht; exact h) ?_
 rintro _ _ _ ⟨rfl, rfl, rfl⟩
 refine W_assign rfl rfl rfl ?_
 refine W_end (E_then (C_seq (C_region ?_)))
 refine W_move rfl rfl rfl ?_
 refine W_bin rfl rfl rfl rfl rfl ?_
 refine W_end (E_then ?_)
 refine C_cond (b := !decide (r102 = 0)) rfl (fun hb104 => ?_) (fun hb104 => ?_)
 ·have hm := ite_t' hb104 hm
  refine C_seq (C_region ?_)
  refine W_move rfl rfl rfl ?_
  refine W_assign rfl rfl rfl ?_
  refine W_assign rfl rfl rfl ?_
  refine W_end (E_then (C_ret (E_ret_then ?_)))
  refine E_nilRow 38 (Rep.sz S_api_BlackstartStep) ?_
  obtain rfl := Option.some.inj hm
  refine E_drop (List.Sublist.cons_cons _ (List.Sublist.cons _ (List.Sublist.refl _))) ?_
  exact end2 rfl rfl rfl ⟨(Hp.le_refl _), (.slice none 0 0), [], rfl, rfl, Rw.nil⟩
 ·have hm := ite_f' hb104 hm
  refine C_skip (E_then (C_seq (C_region ?_)))
  refine W_loadAgg rfl rfl isAgg29 sizeOf29 rfl (own_all (List.mem_cons_self ..)) rfl ?_
  obtain ⟨r105, hc106, hm⟩ := bind_some hm
  refine W_call call23 rfl rfl rfl (fun w ht => by have h := m_netmodel_Copy_c (hm := hc106) h0 h1 h2 h3 h4 h5 ht; exact h) ?_
  rintro _ _ _ ⟨rfl, v107, xs108, v110, xs111, v113, xs114, v116, xs117, v119, xs120, v122, xs123, rfl, rfl, h109, h112, h115, h118, h121, h124⟩
  have h109 := h109 H
  have h112 := h112 H
  have h115 := h115 H
  have h118 := h118 H
  have h121 := h121 H
  have h124 := h124 H
  refine W_perm (List.Perm.trans (List.Perm.cons _ (List.Perm.cons _ (List.Perm.cons _ (List.Perm.cons _ (List.Perm.cons _ (List.Perm.swap _ _ _)))))) (List.Perm.trans (List.Perm.cons _ (List.Perm.cons _ (List.Perm.cons _ (List.Perm.cons _ (List.Perm.swap _ _ _))))) (List.Perm.trans (List.Perm.cons _ (List.Perm.cons _ (List.Perm.cons _ (List.Perm.swap _ _ _)))) (List.Perm.trans (List.Perm.cons _ (List.Perm.cons _ (List.Perm.swap _ _ _))) (List.Perm.trans (List.Perm.cons _ (List.Perm.swap _ _ _)) (List.Perm.swap _ _ _)))))) ?_
  refine W_store (cs := [v107, v110, v113, v116, v119, v122]) (out := [v107, v110, v113, v116, v119, v122]) rfl sizeOf29 rfl rfl rfl rfl rfl (all_cons (Rw.one h109) (all_cons (Rw.one h112) (all_cons (Rw.one h115) (all_cons (Rw.one h118) (all_cons (Rw.one h121) (all_cons (Rw.one h124) all_nil)))))) (over_all rfl) ?_
  refine W_end (E_then (C_seq (C_region ?_)))
  refine W_move rfl rfl rfl ?_
  obtain ⟨hz125, hm⟩ := need_some hm
  refine W_call call21 rfl rfl rfl (fun w ht => by have h := clone21_c (s := sources) h6 hz125 ht; exact h) ?_
  rintro _ _ _ ⟨rfl, v126, xs127, rfl, rfl, hr128⟩
  have hr128 := hr128 H
  refine W_assign rfl rfl rfl ?_
  refine W_end (E_then (C_seq (C_region ?_)))
  refine W_assign rfl rfl rfl ?_
  refine W_end (E_then ?_)
  refine C_seq_join (fun H' M' L' => ∃ l4521 : List S_api_BlackstartStep, ∃ v4519 : Value, ∃ xs4520 : List Value, m_blackstart_Plan_b89 l4521 = some r ∧ Rw H' v4519 xs4520 l4521 ∧ H.le H' ∧ .row v4519 38 (Rep.sz S_api_BlackstartStep) l4521.length xs4520 :: M = M' ∧ [(8, v4519)] = L') ?_ (fun J4525 => ?_)
  ·rintro H4523 _ _ ⟨l4521, v4519, xs4520, hm, hr4522, hle4524, rfl, rfl⟩
   unfold m_blackstart_Plan_b89 at hm
   refine C_seq (C_region ?_)
   refine W_move rfl rfl rfl ?_
   refine W_assign rfl rfl rfl ?_
   refine W_assign rfl rfl rfl ?_
   refine W_end (E_then (C_ret ?_))
   obtain rfl := Option.some.inj hm
   exact end2 rfl rfl rfl ⟨hle4524, v4519, xs4520, rfl, rfl, hr4522⟩
  ·refine C_block ?_
   refine C_perm (List.Perm.trans (List.Perm.cons _ (List.Perm.swap _ _ _)) (List.Perm.swap _ _ _)) ?_
   refine C_freeze (h109).rd rfl (fun H8901 hle8902 h8903 => ?_)
   refine C_perm (List.Perm.trans (List.Perm.cons _ (List.Perm.cons _ (List.Perm.swap _ _ _))) (List.Perm.trans (List.Perm.cons _ (List.Perm.swap _ _ _)) (List.Perm.swap _ _ _))) ?_
   refine C_freeze ((h115.mono hle8902)).rd rfl (fun H8904 hle8905 h8906 => ?_)
   refine C_perm (List.Perm.trans (List.Perm.cons _ (List.Perm.cons _ (List.Perm.swap _ _ _))) (List.Perm.trans (List.Perm.cons _ (List.Perm.swap _ _ _)) (List.Perm.swap _ _ _))) ?_
   refine C_freeze (((h118.mono hle8902).mono hle8905)).rd rfl (fun H8907 hle8908 h8909 => ?_)
   refine C_perm (List.Perm.trans (List.Perm.cons _ (List.Perm.cons _ (List.Perm.swap _ _ _))) (List.Perm.trans (List.Perm.cons _ (List.Perm.swap _ _ _)) (List.Perm.swap _ _ _))) ?_
   refine C_freeze ((((h121.mono hle8902).mono hle8905).mono hle8908)).rd rfl (fun H8910 hle8911 h8912 => ?_)
   refine C_perm (List.Perm.trans (List.Perm.cons _ (List.Perm.cons _ (List.Perm.swap _ _ _))) (List.Perm.trans (List.Perm.cons _ (List.Perm.swap _ _ _)) (List.Perm.swap _ _ _))) ?_
   refine C_freeze (((((h124.mono hle8902).mono hle8905).mono hle8908).mono hle8911)).rd rfl (fun H8913 hle8914 h8915 => ?_)
   refine C_nilRow 38 (Rep.sz S_api_BlackstartStep) ?_
   refine C_keep (L' := [(2, .pointer (some ⟨b101, 0, none⟩)), (7, v126), (8, (.slice none 0 0))]) ⟨rfl, rfl, rfl, trivial⟩ (List.Perm.trans (List.Perm.swap _ _ _) (List.Perm.cons _ (List.Perm.cons _ (List.Perm.swap _ _ _)))) ?_
   refine C_loop (fun n H' M' L' => ∃ l7449 : List ByteArray, ∃ l7453 : List S_api_BlackstartStep, ∃ l7456 : (List ByteArray), ∃ l7460 : List S_api_Switch, ∃ l7463 : (List S_api_Branch), ∃ l7466 : (List S_api_Gen), ∃ l7469 : (List S_api_Load), ∃ l7472 : (List S_api_Store), ∃ v7447 : Value, ∃ xs7448 : List Value, ∃ v7451 : Value, ∃ xs7452 : List Value, ∃ v7455 : Value, ∃ v7458 : Value, ∃ xs7459 : List Value, ∃ v7462 : Value, ∃ v7465 : Value, ∃ v7468 : Value, ∃ v7471 : Value, loopF (fun s7476 n => m_blackstart_Plan_b148 s7476.1 s7476.2.1 s7476.2.2.1 s7476.2.2.2.1 s7476.2.2.2.2.1 s7476.2.2.2.2.2.1 s7476.2.2.2.2.2.2.1 s7476.2.2.2.2.2.2.2 n) n (l7449, l7453, l7456, l7460, l7463, l7466, l7469, l7472) = some r ∧ Rw H' v7447 xs7448 l7449 ∧ Rw H' v7451 xs7452 l7453 ∧ RdS H' v7455 l7456 ∧ Rw H' v7458 xs7459 l7460 ∧ RdS H' v7462 l7463 ∧ RdS H' v7465 l7466 ∧ RdS H' v7468 l7469 ∧ RdS H' v7471 l7472 ∧ H.le H' ∧ .row v7447 9 (Rep.sz ByteArray) l7449.length xs7448 :: .row v7451 38 (Rep.sz S_api_BlackstartStep) l7453.length xs7452 :: .row v7458 70 (Rep.sz S_api_Switch) l7460.length xs7459 :: .obj b101 (.cells [v7455, v7458, v7462, v7465, v7468, v7471].toArray 29 (0, 0)) :: M = M' ∧ [(2, .pointer (some ⟨b101, 0, none⟩)), (7, v7447), (8, v7451)] = L') FUEL ⟨sources, ([] : List S_api_BlackstartStep), r105.Nodes, r105.Switches, r105.Branches, r105.Gens, r105.Loads, r105.Stores, v126, xs127, (.slice none 0 0), ([]), v107, v110, xs111, v113, v116, v119, v122, hm, (((((hr128.mono hle8902).mono hle8905).mono hle8908).mono hle8911).mono hle8914), Rw.nil, ((((h8903.mono hle8905).mono hle8908).mono hle8911).mono hle8914), (((((h112.mono hle8902).mono hle8905).mono hle8908).mono hle8911).mono hle8914), (((h8906.mono hle8908).mono hle8911).mono hle8914), ((h8909.mono hle8911).mono hle8914), (h8912.mono hle8914), h8915, (Hp.le_trans (Hp.le_trans (Hp.le_trans (Hp.le_trans hle8902 hle8905) hle8908) hle8911) hle8914), rfl, rfl⟩ ?_
   rintro n7479 H7474 _ _ ⟨l7449, l7453, l7456, l7460, l7463, l7466, l7469, l7472, v7447, xs7448, v7451, xs7452, v7455, v7458, xs7459, v7462, v7465, v7468, v7471, hm, hr7450, hr7454, h7457, hr7461, h7464, h7467, h7470, h7473, hle7475, rfl, rfl⟩
   cases n7479 with
   | zero => cases hm
   | succ n7479 =>
    have hm : m_blackstart_Plan_b148 l7449 l7453 l7456 l7460 l7463 l7466 l7469 l7472 (loopF (fun s7476 n => m_blackstart_Plan_b148 s7476.1 s7476.2.1 s7476.2.2.1 s7476.2.2.2.1 s7476.2.2.2.2.1 s7476.2.2.2.2.2.1 s7476.2.2.2.2.2.2.1 s7476.2.2.2.2.2.2.2 n) n7479) = some r := hm
    generalize hn7478 : loopF (fun s7476 n => m_blackstart_Plan_b148 s7476.1 s7476.2.1 s7476.2.2.1 s7476.2.2.2.1 s7476.2.2.2.2.1 s7476.2.2.2.2.2.1 s7476.2.2.2.2.2.2.1 s7476.2.2.2.2.2.2.2 n) n7479 = nx7477 at hm
    unfold m_blackstart_Plan_b148 at hm
    refine C_seq (C_seq (C_region ?_))
    refine W_move rfl rfl rfl ?_
    refine W_lenO (List.mem_cons_self ..) rfl rfl runUnderlying22 rfl ?_
    refine W_field (o := 3) rfl rfl runUnderlying29 rfl sizeOf25 rfl rfl rfl ?_
    refine W_load rfl rfl isAgg25 rfl (own_at (List.mem_cons_of_mem _ (List.mem_cons_of_mem _ (List.mem_cons_of_mem _ (List.mem_cons_self ..)))) rfl) ?_
    refine W_lenR rfl rfl runUnderlying25 rfl h7467 ?_
    refine W_bin rfl rfl rfl rfl rfl ?_
    refine W_end (E_then ?_)
    refine C_cond (b := decide ((l7449.length : Int) < (l7466.length : Int))) rfl (fun hb7485 => ?_) (fun hb7485 => ?_)
    ·have hm := ite_t' hb7485 hm
     refine C_skip (E_then (C_block (C_seq (C_region ?_))))
     refine W_build (css := []) (zs := [.string (⟨#[]⟩), .slice none 0 0]) (out := [.string (⟨#[]⟩), .slice none 0 0]) (places := [(0, 1), (1, 1)]) rfl rfl rfl trivial zeroValue38 rfl runUnderlying38 (fun w => by kernel_rfl) rfl ?_
     refine W_alloc (cs := [.string (⟨#[]⟩), .slice none 0 0]) rfl rfl zeroValue38 rfl (fun b7486 => ?_)
     refine W_store (cs := [.string (⟨#[]⟩), .slice none 0 0]) (out := [.string (⟨#[]⟩), .slice none 0 0]) rfl sizeOf38 rfl rfl rfl rfl rfl (all_cons rfl (all_cons rfl all_nil)) (over_all rfl) ?_
     refine W_end (E_then (C_seq (C_seq (C_region ?_))))
     refine W_field (o := 3) rfl rfl runUnderlying29 rfl sizeOf25 rfl rfl rfl ?_
     refine W_load rfl rfl isAgg25 rfl (own_at (List.mem_cons_of_mem _ (List.mem_cons_of_mem _ (List.mem_cons_of_mem _ (List.mem_cons_of_mem _ (List.mem_cons_self ..))))) rfl) ?_
     refine W_lenR rfl rfl runUnderlying25 rfl h7467 ?_
     refine W_move rfl rfl rfl ?_
     refine W_end (E_then (C_block ?_))
     refine C_nilRow 9 (Rep.sz ByteArray) ?_
     refine C_keep (L' := [(2, .pointer (some ⟨b101, 0, none⟩)), (7, v7447), (8, v7451), (9, .pointer (some ⟨b7486, 0, none⟩)), (36, v7465), (37, .int .i64 ((l7466.length : Int))), (38, .int .i64 (((0 : Nat) : Int)))]) ⟨rfl, rfl, rfl, rfl, rfl, rfl, rfl, trivial⟩ (List.Perm.refl _) ?_
     refine C_loop (fun n H' M' L' => ∃ (k7487 : Nat) (zs8330' : List S_api_Gen), ∃ s8318 : ByteArray, ∃ l8321 : List ByteArray, ∃ v8319 : Value, ∃ xs8320 : List Value, (l7466).drop k7487 = zs8330' ∧ zs8330'.length = n ∧ forI (fun k y s8325 n => m_blackstart_Plan_b167 l7449 l7456 l7460 l7463 l7466 l7469 l7472 k y s8325.1 s8325.2 n) (fun s8325 => if decide (s8325.1 = (⟨#[]⟩)) then (some (([] : List S_api_BlackstartStep), 8)) else (forI (fun k y s8846 n => m_blackstart_Plan_b177 k y s8846.1 s8846.2.1 s8846.2.2.1 s8846.2.2.2.1 s8846.2.2.2.2.1 s8846.2.2.2.2.2 n) (fun s8846 => need ((l7449.length + ([s8325.1]).length) * 16 ≤ 140737488355328) (need ((l7453.length + ([(S_api_BlackstartStep.mk s8325.1 s8325.2)]).length) * 40 ≤ 140737488355328) (nx7477 ((l7449 ++ ([s8325.1])), (l7453 ++ ([(S_api_BlackstartStep.mk s8325.1 s8325.2)])), s8846.1, s8846.2.1, s8846.2.2.1, s8846.2.2.2.1, s8846.2.2.2.2.1, s8846.2.2.2.2.2)))) 0 s8325.2 (l7456, l7460, l7463, l7466, l7469, l7472))) k7487 zs8330' (s8318, l8321) = some r ∧ Rw H' v8319 xs8320 l8321 ∧ H7474.le H' ∧ .row v8319 9 (Rep.sz ByteArray) l8321.length xs8320 :: .obj b7486 (.cells [.string (s8318), v8319].toArray 38 (0, 0)) :: .row v7447 9 (Rep.sz ByteArray) l7449.length xs7448 :: .row v7451 38 (Rep.sz S_api_BlackstartStep) l7453.length xs7452 :: .row v7458 70 (Rep.sz S_api_Switch) l7460.length xs7459 :: .obj b101 (.cells [v7455, v7458, v7462, v7465, v7468, v7471].toArray 29 (0, 0)) :: M = M' ∧ [(2, .pointer (some ⟨b101, 0, none⟩)), (7, v7447), (8, v7451), (9, .pointer (some ⟨b7486, 0, none⟩)), (36, v7465), (37, .int .i64 ((l7466.length : Int))), (38, .int .i64 ((k7487 : Int)))] = L') _ ⟨0, _, ⟨#[]⟩, ([] : List ByteArray), (.slice none 0 0), ([]), rfl, rfl, hm, Rw.nil, (Hp.le_refl _), rfl, rfl⟩ ?_
     rintro _ H8323 _ _ ⟨k7487, zs8330', s8318, l8321, v8319, xs8320, hd8332, rfl, hm, hr8322, hle8324, rfl, rfl⟩
     refine C_seq (C_region ?_)
     refine W_bin rfl rfl rfl rfl rfl ?_
     refine W_end (E_then (C_seq ?_))
     refine C_cond (b := decide ((k7487 : Int) < (l7466.length : Int))) rfl (fun hb8334 => ?_) (fun hb8334 => ?_)
     ·obtain ⟨y8329, zs8330, rfl, hy8331, hd8333⟩ := rng_t hd8332 hb8334
      have hm : m_blackstart_Plan_b167 l7449 l7456 l7460 l7463 l7466 l7469 l7472 k7487 y8329 s8318 l8321 (forI (fun k y s8325 n => m_blackstart_Plan_b167 l7449 l7456 l7460 l7463 l7466 l7469 l7472 k y s8325.1 s8325.2 n) (fun s8325 => if decide (s8325.1 = (⟨#[]⟩)) then (some (([] : List S_api_BlackstartStep), 8)) else (forI (fun k y s8846 n => m_blackstart_Plan_b177 k y s8846.1 s8846.2.1 s8846.2.2.1 s8846.2.2.2.1 s8846.2.2.2.2.1 s8846.2.2.2.2.2 n) (fun s8846 => need ((l7449.length + ([s8325.1]).length) * 16 ≤ 140737488355328) (need ((l7453.length + ([(S_api_BlackstartStep.mk s8325.1 s8325.2)]).length) * 40 ≤ 140737488355328) (nx7477 ((l7449 ++ ([s8325.1])), (l7453 ++ ([(S_api_BlackstartStep.mk s8325.1 s8325.2)])), s8846.1, s8846.2.1, s8846.2.2.1, s8846.2.2.2.1, s8846.2.2.2.2.1, s8846.2.2.2.2.2)))) 0 s8325.2 (l7456, l7460, l7463, l7466, l7469, l7472))) (k7487 + 1) zs8330) = some r := hm
      generalize hn8327 : forI (fun k y s8325 n => m_blackstart_Plan_b167 l7449 l7456 l7460 l7463 l7466 l7469 l7472 k y s8325.1 s8325.2 n) (fun s8325 => if decide (s8325.1 = (⟨#[]⟩)) then (some (([] : List S_api_BlackstartStep), 8)) else (forI (fun k y s8846 n => m_blackstart_Plan_b177 k y s8846.1 s8846.2.1 s8846.2.2.1 s8846.2.2.2.1 s8846.2.2.2.2.1 s8846.2.2.2.2.2 n) (fun s8846 => need ((l7449.length + ([s8325.1]).length) * 16 ≤ 140737488355328) (need ((l7453.length + ([(S_api_BlackstartStep.mk s8325.1 s8325.2)]).length) * 40 ≤ 140737488355328) (nx7477 ((l7449 ++ ([s8325.1])), (l7453 ++ ([(S_api_BlackstartStep.mk s8325.1 s8325.2)])), s8846.1, s8846.2.1, s8846.2.2.1, s8846.2.2.2.1, s8846.2.2.2.2.1, s8846.2.2.2.2.2)))) 0 s8325.2 (l7456, l7460, l7463, l7466, l7469, l7472))) (k7487 + 1) zs8330 = nx8326 at hm
      unfold m_blackstart_Plan_b167 at hm
      refine C_skip (E_then ?_)
      refine C_seq_join (fun H' M' L' => ∃ s8535 : ByteArray, ∃ l8538 : List ByteArray, ∃ v8536 : Value, ∃ xs8537 : List Value, m_blackstart_Plan_b172 nx8326 s8535 l8538 = some r ∧ Rw H' v8536 xs8537 l8538 ∧ H8323.le H' ∧ .row v8536 9 (Rep.sz ByteArray) l8538.length xs8537 :: .obj b7486 (.cells [.string (s8535), v8536].toArray 38 (0, 0)) :: .row v7447 9 (Rep.sz ByteArray) l7449.length xs7448 :: .row v7451 38 (Rep.sz S_api_BlackstartStep) l7453.length xs7452 :: .row v7458 70 (Rep.sz S_api_Switch) l7460.length xs7459 :: .obj b101 (.cells [v7455, v7458, v7462, v7465, v7468, v7471].toArray 29 (0, 0)) :: M = M' ∧ [(2, .pointer (some ⟨b101, 0, none⟩)), (7, v7447), (8, v7451), (9, .pointer (some ⟨b7486, 0, none⟩)), (36, v7465), (37, .int .i64 ((l7466.length : Int))), (38, .int .i64 ((k7487 : Int)))] = L') ?_ (fun J8542 => ?_)
      ·rintro H8540 _ _ ⟨s8535, l8538, v8536, xs8537, hm, hr8539, hle8541, rfl, rfl⟩
       unfold m_blackstart_Plan_b172 at hm
       refine C_region ?_
       refine W_bin rfl rfl rfl rfl rfl ?_
       refine W_move rfl rfl rfl ?_
       refine W_end ?_
       exact E_keepJ (E_back (Nat.lt_succ_self _) ⟨k7487 + 1, zs8330, s8535, l8538, v8536, xs8537, hd8333, rfl, (by rw [hn8327]; exact hm), hr8539, (Hp.le_trans hle8324 hle8541), rfl, rfl⟩) (List.Perm.refl _) ⟨rfl, rfl, rfl, rfl, rfl, rfl, (congrArg (fun z => some (Value.int .i64 z)) (i64_succ hy8331 ((h7467.mono hle8324)).lenMax)), trivial⟩
      ·refine C_block (C_seq (C_region ?_))
       obtain ⟨_, ⟨rfl⟩, hc8543⟩ := (h7467).elem hy8331
       refine W_indexS rfl rfl runUnderlying25 sizeOf46 rfl (h7467.mono hle8324) rfl (Int.natCast_nonneg _) hy8331 ?_
       refine W_loadAgg rfl rfl isAgg46 sizeOf46 rfl (hc8543.mono hle8324).at rfl ?_
       refine W_alloc (cs := [.string (⟨#[]⟩), .string (⟨#[]⟩), .int .i64 (0), .int .i64 (0), .int .i64 (0)]) rfl rfl zeroValue46 rfl (fun b8544 => ?_)
       refine W_store (cs := [.string (y8329.Name), .string (y8329.Node), .int .i64 (y8329.Least), .int .i64 (y8329.Most), .int .i64 (y8329.Ramp)]) (out := [.string (y8329.Name), .string (y8329.Node), .int .i64 (y8329.Least), .int .i64 (y8329.Most), .int .i64 (y8329.Ramp)]) rfl sizeOf46 rfl rfl rfl rfl rfl (all_cons rfl (all_cons rfl (all_cons rfl (all_cons rfl (all_cons rfl all_nil))))) (over_all rfl) ?_
       refine W_end (E_then (C_seq (C_seq (C_region ?_))))
       refine W_move rfl rfl rfl ?_
       refine W_field (o := 0) rfl rfl runUnderlying46 rfl sizeOf9 rfl rfl rfl ?_
       refine W_load rfl rfl isAgg9 rfl (own_at (List.mem_cons_self ..) rfl) ?_
       refine W_perm (List.Perm.trans (List.Perm.cons _ (List.Perm.cons _ (List.Perm.swap _ _ _))) (List.Perm.trans (List.Perm.cons _ (List.Perm.swap _ _ _)) (List.Perm.swap _ _ _))) ?_
       obtain ⟨r8545, hc8546, hm⟩ := bind_some hm
       refine W_call call24 rfl rfl rfl (fun w ht => by obtain ⟨H0_, hl0_, ht0_, hr0_, bk0_⟩ := ht.lendRow (hr7450.mono hle8324) rfl; have h := m_slices_Contains_string_string_c (hm := hc8546) hr0_ ht0_; exact lend_back bk0_ (h)) ?_
       rintro _ _ _ ⟨rfl, ⟨_, rfl, rfl, rfl⟩⟩
       refine W_end (E_then ?_)
       refine C_cond (b := r8545) rfl (fun hb8547 => ?_) (fun hb8547 => ?_)
       ·have hm := ite_t' hb8547 hm
        refine C_exit (E_exit_then (E_exit_hit ?_))
        refine E_drop (List.Sublist.cons_cons _ (List.Sublist.cons _ (List.Sublist.refl _))) ?_
        exact E_keepJ (J8542 _ _ _ ⟨s8318, l8321, v8319, xs8320, hm, hr8322, (Hp.le_refl _), rfl, rfl⟩) (List.Perm.trans (List.Perm.swap _ _ _) (List.Perm.cons _ (List.Perm.swap _ _ _))) ⟨rfl, rfl, rfl, rfl, rfl, rfl, rfl, trivial⟩
       ·have hm := ite_f' hb8547 hm
        refine C_skip (E_then (C_seq (C_region ?_)))
        refine W_move rfl rfl rfl ?_
        refine W_lenO (List.mem_cons_self ..) rfl rfl runUnderlying22 rfl ?_
        refine W_move rfl rfl rfl ?_
        refine W_end (E_then (C_block ?_))
        refine C_rowMax (List.mem_cons_self ..) (fun hmx8682 => ?_)
        refine C_keep (L' := [(2, .pointer (some ⟨b101, 0, none⟩)), (7, v7447), (8, v7451), (9, .pointer (some ⟨b7486, 0, none⟩)), (11, .pointer (some ⟨b8544, 0, none⟩)), (36, v7465), (37, .int .i64 ((l7466.length : Int))), (38, .int .i64 ((k7487 : Int))), (46, v7447), (47, .int .i64 ((l7449.length : Int))), (48, .int .i64 (((0 : Nat) : Int)))]) ⟨rfl, rfl, rfl, rfl, rfl, rfl, rfl, rfl, rfl, rfl, rfl, trivial⟩ (List.Perm.trans (List.Perm.cons _ (List.Perm.swap _ _ _)) (List.Perm.swap _ _ _)) ?_
        refine C_loop (fun n H' M' L' => ∃ (k8548 : Nat) (zs8684' : List ByteArray), ∃ s8671 : ByteArray, ∃ l8674 : List ByteArray, ∃ v8672 : Value, ∃ xs8673 : List Value, (l7449).drop k8548 = zs8684' ∧ zs8684'.length = n ∧ forI (fun k y s8678 n => m_blackstart_Plan_b175 l7456 l7460 l7463 l7466 l7469 l7472 y8329 k y s8678.1 s8678.2 n) (fun s8678 => m_blackstart_Plan_b172 nx8326 s8678.1 s8678.2) k8548 zs8684' (s8671, l8674) = some r ∧ Rw H' v8672 xs8673 l8674 ∧ H8323.le H' ∧ .row v8672 9 (Rep.sz ByteArray) l8674.length xs8673 :: .row v7447 9 (Rep.sz ByteArray) l7449.length xs7448 :: .obj b8544 (.cells ([.string (y8329.Name), .string (y8329.Node), .int .i64 (y8329.Least), .int .i64 (y8329.Most), .int .i64 (y8329.Ramp)] : List Value).toArray 46 (0, 0)) :: .obj b7486 (.cells [.string (s8671), v8672].toArray 38 (0, 0)) :: .row v7451 38 (Rep.sz S_api_BlackstartStep) l7453.length xs7452 :: .row v7458 70 (Rep.sz S_api_Switch) l7460.length xs7459 :: .obj b101 (.cells [v7455, v7458, v7462, v7465, v7468, v7471].toArray 29 (0, 0)) :: M = M' ∧ [(2, .pointer (some ⟨b101, 0, none⟩)), (7, v7447), (8, v7451), (9, .pointer (some ⟨b7486, 0, none⟩)), (11, .pointer (some ⟨b8544, 0, none⟩)), (36, v7465), (37, .int .i64 ((l7466.length : Int))), (38, .int .i64 ((k7487 : Int))), (46, v7447), (47, .int .i64 ((l7449.length : Int))), (48, .int .i64 ((k8548 : Int)))] = L') _ ⟨0, _, s8318, l8321, v8319, xs8320, rfl, rfl, hm, hr8322, (Hp.le_refl _), rfl, rfl⟩ ?_
        rintro _ H8676 _ _ ⟨k8548, zs8684', s8671, l8674, v8672, xs8673, hd8686, rfl, hm, hr8675, hle8677, rfl, rfl⟩
        refine C_seq (C_region ?_)
        refine W_bin rfl rfl rfl rfl rfl ?_
        refine W_end (E_then (C_seq ?_))
        refine C_cond (b := decide ((k8548 : Int) < (l7449.length : Int))) rfl (fun hb8688 => ?_) (fun hb8688 => ?_)
        ·obtain ⟨y8683, zs8684, rfl, hy8685, hd8687⟩ := rng_t hd8686 hb8688
         have hm : m_blackstart_Plan_b175 l7456 l7460 l7463 l7466 l7469 l7472 y8329 k8548 y8683 s8671 l8674 (forI (fun k y s8678 n => m_blackstart_Plan_b175 l7456 l7460 l7463 l7466 l7469 l7472 y8329 k y s8678.1 s8678.2 n) (fun s8678 => m_blackstart_Plan_b172 nx8326 s8678.1 s8678.2) (k8548 + 1) zs8684) = some r := hm
         generalize hn8680 : forI (fun k y s8678 n => m_blackstart_Plan_b175 l7456 l7460 l7463 l7466 l7469 l7472 y8329 k y s8678.1 s8678.2 n) (fun s8678 => m_blackstart_Plan_b172 nx8326 s8678.1 s8678.2) (k8548 + 1) zs8684 = nx8679 at hm
         unfold m_blackstart_Plan_b175 at hm
         refine C_skip (E_then ?_)
         refine C_seq_join (fun H' M' L' => ∃ s8712 : ByteArray, ∃ l8715 : List ByteArray, ∃ v8713 : Value, ∃ xs8714 : List Value, m_blackstart_Plan_b176 nx8679 s8712 l8715 = some r ∧ Rw H' v8713 xs8714 l8715 ∧ H8676.le H' ∧ .row v8713 9 (Rep.sz ByteArray) l8715.length xs8714 :: .row v7447 9 (Rep.sz ByteArray) l7449.length xs7448 :: .obj b8544 (.cells ([.string (y8329.Name), .string (y8329.Node), .int .i64 (y8329.Least), .int .i64 (y8329.Most), .int .i64 (y8329.Ramp)] : List Value).toArray 46 (0, 0)) :: .obj b7486 (.cells [.string (s8712), v8713].toArray 38 (0, 0)) :: .row v7451 38 (Rep.sz S_api_BlackstartStep) l7453.length xs7452 :: .row v7458 70 (Rep.sz S_api_Switch) l7460.length xs7459 :: .obj b101 (.cells [v7455, v7458, v7462, v7465, v7468, v7471].toArray 29 (0, 0)) :: M = M' ∧ [(2, .pointer (some ⟨b101, 0, none⟩)), (7, v7447), (8, v7451), (9, .pointer (some ⟨b7486, 0, none⟩)), (11, .pointer (some ⟨b8544, 0, none⟩)), (36, v7465), (37, .int .i64 ((l7466.length : Int))), (38, .int .i64 ((k7487 : Int))), (46, v7447), (47, .int .i64 ((l7449.length : Int))), (48, .int .i64 ((k8548 : Int)))] = L') ?_ (fun J8719 => ?_)
         ·rintro H8717 _ _ ⟨s8712, l8715, v8713, xs8714, hm, hr8716, hle8718, rfl, rfl⟩
          unfold m_blackstart_Plan_b176 at hm
          refine C_region ?_
          refine W_bin rfl rfl rfl rfl rfl ?_
          refine W_move rfl rfl rfl ?_
          refine W_end ?_
          exact E_keepJ (E_back (Nat.lt_succ_self _) ⟨k8548 + 1, zs8684, s8712, l8715, v8713, xs8714, hd8687, rfl, (by rw [hn8680]; exact hm), hr8716, (Hp.le_trans hle8677 hle8718), rfl, rfl⟩) (List.Perm.refl _) ⟨rfl, rfl, rfl, rfl, rfl, rfl, rfl, rfl, rfl, rfl, (congrArg (fun z => some (Value.int .i64 z)) (i64_succ hy8685 hmx8682)), trivial⟩
         ·refine C_block (C_seq (C_region ?_))
          refine W_indexO (List.mem_cons_of_mem _ (List.mem_cons_self ..)) rfl rfl runUnderlying22 sizeOf9 rfl rfl (Int.natCast_nonneg _) (List.getElem?_eq_some_iff.1 hy8685).1 ?_
          obtain ⟨_, rfl, hg8720⟩ := (hr7450).elem hy8685
          refine W_load rfl rfl isAgg9 rfl (row_one0 (List.mem_cons_of_mem _ (List.mem_cons_self ..)) hg8720 rfl) ?_
          refine W_assign rfl rfl rfl ?_
          refine W_end (E_then (C_seq ?_))
          obtain ⟨r8721, hc8722, hm⟩ := bind_some hm
          obtain ⟨y8723, h8724, he8725, hm⟩ := idx_some hm
          obtain ⟨_, ⟨rfl⟩, hc8726⟩ := (h7467).elem he8725
          obtain ⟨r8727, hc8728, hm⟩ := bind_some hm
          refine C_perm (List.Perm.trans (List.Perm.cons _ (List.Perm.cons _ (List.Perm.cons _ (List.Perm.cons _ (List.Perm.swap _ _ _))))) (List.Perm.trans (List.Perm.cons _ (List.Perm.cons _ (List.Perm.cons _ (List.Perm.swap _ _ _)))) (List.Perm.trans (List.Perm.cons _ (List.Perm.cons _ (List.Perm.swap _ _ _))) (List.Perm.trans (List.Perm.cons _ (List.Perm.swap _ _ _)) (List.Perm.swap _ _ _))))) ?_
          refine C_as (M' := [[.row v7458 70 (Rep.sz S_api_Switch) l7460.length xs7459]].flatten ++ (.row v8672 9 (Rep.sz ByteArray) l8674.length xs8673 :: .row v7447 9 (Rep.sz ByteArray) l7449.length xs7448 :: .obj b8544 (.cells ([.string (y8329.Name), .string (y8329.Node), .int .i64 (y8329.Least), .int .i64 (y8329.Most), .int .i64 (y8329.Ramp)] : List Value).toArray 46 (0, 0)) :: .obj b7486 (.cells [.string (s8671), v8672].toArray 38 (0, 0)) :: .row v7451 38 (Rep.sz S_api_BlackstartStep) l7453.length xs7452 :: .obj b101 (.cells [v7455, v7458, v7462, v7465, v7468, v7471].toArray 29 (0, 0)) :: M)) rfl ?_
          refine C_region_tok0 16 (phiT [(fun H rs v => [] = rs ∧ .agg [v7455, v7458, v7462, v7465, v7468, v7471].toArray = v), (fun H rs v => [] = rs ∧ .pointer (some ⟨b101, 3, none⟩) = v), (fun H rs v => [] = rs ∧ v7465 = v), (fun H rs v => [] = rs ∧ .agg [v7455, v7458, v7462, v7465, v7468, v7471].toArray = v), (fun H rs v => [] = rs ∧ .string (y8683) = v), (fun H rs v => [.row v7458 70 (Rep.sz S_api_Switch) l7460.length xs7459] = rs ∧ .int .i64 (r8721) = v), (fun H rs v => [] = rs ∧ .pointer (some ((Value.base (v7465)).add ((r8721 : Int).toNat * 5))) = v), (fun H rs v => [] = rs ∧ .pointer (some (((Value.base (v7465)).add ((r8721 : Int).toNat * 5)).add 1)) = v), (fun H rs v => [] = rs ∧ .string (y8723.Node) = v), (fun H rs v => [] = rs ∧ .pointer (some ⟨b8544, 1, none⟩) = v), (fun H rs v => [] = rs ∧ .string (y8329.Node) = v), (fun H rs v => ∃ v8732 : Value, ∃ xs8733 : List Value, [.row v7458 70 (Rep.sz S_api_Switch) l7460.length xs7459, .row v8732 9 (Rep.sz ByteArray) r8727.1.length xs8733] = rs ∧ .tuple #[v8732, .bool (r8727.2)] = v ∧ Rw H v8732 xs8733 r8727.1), (fun H rs v => ∃ v8732 : Value, ∃ xs8733 : List Value, [.row v7458 70 (Rep.sz S_api_Switch) l7460.length xs7459, .row v8732 9 (Rep.sz ByteArray) r8727.1.length xs8733] = rs ∧ .tuple #[v8732, .bool (r8727.2)] = v ∧ Rw H v8732 xs8733 r8727.1), (fun H rs v => ∃ v8732 : Value, ∃ xs8733 : List Value, [.row v7458 70 (Rep.sz S_api_Switch) l7460.length xs7459, .row v8732 9 (Rep.sz ByteArray) r8727.1.length xs8733] = rs ∧ v8732 = v ∧ Rw H v8732 xs8733 r8727.1), (fun H rs v => [] = rs ∧ .bool (r8727.2) = v), (fun H rs v => ∃ v8732 : Value, ∃ xs8733 : List Value, [.row v7458 70 (Rep.sz S_api_Switch) l7460.length xs7459, .row v8732 9 (Rep.sz ByteArray) r8727.1.length xs8733] = rs ∧ v8732 = v ∧ Rw H v8732 xs8733 r8727.1)]) [[], [], [], [], [], [16], [], [], [], [], [], [5], [11], [12], [], [13]] [[], [], [], [], [], [], [], [], [], [], [], [], [], [], [], []] [[.row v7458 70 (Rep.sz S_api_Switch) l7460.length xs7459]] [0, 1, 2, 3, 4, 6, 7, 8, 9, 10, 14, 15] Facts.mixed (by kernel_rfl) (by rfl) (by rfl) (by rfl) (by kernel_rfl) (phiT_mono ⟨eq_monoT _ _, eq_monoT _ _, eq_monoT _ _, eq_monoT _ _, eq_monoT _ _, eq_monoT _ _, eq_monoT _ _, eq_monoT _ _, eq_monoT _ _, eq_monoT _ _, eq_monoT _ _, (by rintro H1 H2 rs v hle ⟨v8732, xs8733, rfl, rfl, h8734⟩; exact ⟨v8732, xs8733, rfl, rfl, (h8734.mono hle)⟩), (by rintro H1 H2 rs v hle ⟨v8732, xs8733, rfl, rfl, h8734⟩; exact ⟨v8732, xs8733, rfl, rfl, (h8734.mono hle)⟩), (by rintro H1 H2 rs v hle ⟨v8732, xs8733, rfl, rfl, h8734⟩; exact ⟨v8732, xs8733, rfl, rfl, (h8734.mono hle)⟩), eq_monoT _ _, (by rintro H1 H2 rs v hle ⟨v8732, xs8733, rfl, rfl, h8734⟩; exact ⟨v8732, xs8733, rfl, rfl, (h8734.mono hle)⟩), trivial⟩) ⟨?_, ?_, ?_, ?_, ?_, ?_, ?_, ?_, ?_, ?_, ?_, ?_, ?_, ?_, ?_, ?_, trivial⟩ ?_
          ·intro HX hX X Rest hR
           intro hU hUp
           refine W_loadAgg rfl rfl isAgg29 sizeOf29 rfl (own_all (hR _ (List.mem_cons_of_mem _ (List.mem_cons_of_mem _ (List.mem_cons_of_mem _ (List.mem_cons_of_mem _ (List.mem_cons_of_mem _ (List.mem_cons_self ..)))))))) rfl ?_
           exact W_end (OneT_end [] (Hp.le_refl _) ⟨rfl, rfl⟩)
          ·intro HX hX X Rest hR
           intro hU hUp
           refine W_field (o := 3) rfl rfl runUnderlying29 rfl sizeOf25 rfl rfl rfl ?_
           exact W_end (OneT_end [] (Hp.le_refl _) ⟨rfl, rfl⟩)
          ·intro HX hX X Rest hR
           rintro _ _ ⟨rfl, rfl⟩
           intro hU hUp
           refine W_load rfl rfl isAgg25 rfl (own_at (hR _ (List.mem_cons_of_mem _ (List.mem_cons_of_mem _ (List.mem_cons_of_mem _ (List.mem_cons_of_mem _ (List.mem_cons_of_mem _ (List.mem_cons_self ..))))))) rfl) ?_
           exact W_end (OneT_end [] (Hp.le_refl _) ⟨rfl, rfl⟩)
          ·intro HX hX X Rest hR
           intro hU hUp
           refine W_loadAgg rfl rfl isAgg29 sizeOf29 rfl (own_all (hR _ (List.mem_cons_of_mem _ (List.mem_cons_of_mem _ (List.mem_cons_of_mem _ (List.mem_cons_of_mem _ (List.mem_cons_of_mem _ (List.mem_cons_self ..)))))))) rfl ?_
           exact W_end (OneT_end [] (Hp.le_refl _) ⟨rfl, rfl⟩)
          ·intro HX hX X Rest hR
           intro hU hUp
           refine W_move rfl rfl rfl ?_
           exact W_end (OneT_end [] (Hp.le_refl _) ⟨rfl, rfl⟩)
          ·intro HX hX X Rest hR
           rintro _ _ ⟨rfl, rfl⟩
           rintro _ _ ⟨rfl, rfl⟩
           intro hU hUp
           refine W_as (M' := .row v7458 70 (Rep.sz S_api_Switch) l7460.length xs7459 :: Rest) rfl ?_
           refine W_call call26 rfl rfl rfl (fun w ht => by obtain ⟨H0_, hl0_, ht0_, hr0_, bk0_⟩ := ht.lendRow (((hr7461.mono hle8324).mono hle8677).mono hX) rfl; have h := m_blackstart_gen_c (hm := hc8722) ((((h7457.mono hle8324).mono hle8677).mono hX).mono hl0_) hr0_ ((((h7464.mono hle8324).mono hle8677).mono hX).mono hl0_) ((((h7467.mono hle8324).mono hle8677).mono hX).mono hl0_) ((((h7470.mono hle8324).mono hle8677).mono hX).mono hl0_) ((((h7473.mono hle8324).mono hle8677).mono hX).mono hl0_) ht0_; exact lend_back bk0_ (h)) ?_
           rintro _ _ _ ⟨rfl, ⟨_, rfl, rfl, rfl⟩⟩
           exact W_end (OneT_end [.row v7458 70 (Rep.sz S_api_Switch) l7460.length xs7459] (Hp.le_refl _) ⟨rfl, rfl⟩)
          ·intro HX hX X Rest hR
           rintro _ _ ⟨rfl, rfl⟩
           rintro _ _ ⟨rfl, rfl⟩
           intro hU hUp
           refine W_indexS rfl rfl runUnderlying25 sizeOf46 rfl (((h7467.mono hle8324).mono hle8677).mono hX) rfl h8724 he8725 ?_
           exact W_end (OneT_end [] (Hp.le_refl _) ⟨rfl, rfl⟩)
          ·intro HX hX X Rest hR
           rintro _ _ ⟨rfl, rfl⟩
           intro hU hUp
           refine W_field (o := 1) rfl rfl runUnderlying46 rfl sizeOf9 rfl rfl rfl ?_
           exact W_end (OneT_end [] (Hp.le_refl _) ⟨rfl, rfl⟩)
          ·intro HX hX X Rest hR
           rintro _ _ ⟨rfl, rfl⟩
           intro hU hUp
           refine W_load rfl rfl isAgg9 rfl (HCells.one (((hc8726.mono hle8324).mono hle8677).mono hX) 1 rfl).at ?_
           exact W_end (OneT_end [] (Hp.le_refl _) ⟨rfl, rfl⟩)
          ·intro HX hX X Rest hR
           intro hU hUp
           refine W_field (o := 1) rfl rfl runUnderlying46 rfl sizeOf9 rfl rfl rfl ?_
           exact W_end (OneT_end [] (Hp.le_refl _) ⟨rfl, rfl⟩)
          ·intro HX hX X Rest hR
           rintro _ _ ⟨rfl, rfl⟩
           intro hU hUp
           refine W_load rfl rfl isAgg9 rfl (own_at (hR _ (List.mem_cons_of_mem _ (List.mem_cons_of_mem _ (List.mem_cons_self ..)))) rfl) ?_
           exact W_end (OneT_end [] (Hp.le_refl _) ⟨rfl, rfl⟩)
          ·intro HX hX X Rest hR
           rintro _ _ ⟨rfl, rfl⟩
           rintro _ _ ⟨rfl, rfl⟩
           rintro _ _ ⟨rfl, rfl⟩
           rintro _ _ ⟨rfl, rfl⟩
           intro hU hUp
           refine W_as (M' := .row v7458 70 (Rep.sz S_api_Switch) l7460.length xs7459 :: Rest) rfl ?_
           refine W_call call25 rfl rfl rfl (fun w ht => by obtain ⟨H0_, hl0_, ht0_, hr0_, bk0_⟩ := ht.lendRow (((hr7461.mono hle8324).mono hle8677).mono hX) rfl; have h := m_blackstart_path_c (hm := hc8728) ((((h7457.mono hle8324).mono hle8677).mono hX).mono hl0_) hr0_ ((((h7464.mono hle8324).mono hle8677).mono hX).mono hl0_) ((((h7467.mono hle8324).mono hle8677).mono hX).mono hl0_) ((((h7470.mono hle8324).mono hle8677).mono hX).mono hl0_) ((((h7473.mono hle8324).mono hle8677).mono hX).mono hl0_) ht0_; exact lend_back bk0_ (h)) ?_
           rintro _ _ _ ⟨rfl, ⟨_, rfl, v8732, xs8733, rfl, rfl, h8734⟩⟩
           have h8734 := h8734 HX
           exact W_end (OneT_end [.row v7458 70 (Rep.sz S_api_Switch) l7460.length xs7459, .row v8732 9 (Rep.sz ByteArray) r8727.1.length xs8733] (Hp.le_refl _) ⟨v8732, xs8733, rfl, rfl, (h8734)⟩)
          ·intro HX hX X Rest hR
           rintro _ _ ⟨v8732, xs8733, rfl, rfl, h8734⟩
           intro hU hUp
           refine W_as (M' := .row v7458 70 (Rep.sz S_api_Switch) l7460.length xs7459 :: .row v8732 9 (Rep.sz ByteArray) r8727.1.length xs8733 :: Rest) rfl ?_
           refine W_move rfl rfl rfl ?_
           exact W_end (OneT_end [.row v7458 70 (Rep.sz S_api_Switch) l7460.length xs7459, .row v8732 9 (Rep.sz ByteArray) r8727.1.length xs8733] (Hp.le_refl _) ⟨v8732, xs8733, rfl, rfl, (h8734)⟩)
          ·intro HX hX X Rest hR
           rintro _ _ ⟨v8732, xs8733, rfl, rfl, h8734⟩
           intro hU hUp
           refine W_as (M' := .row v7458 70 (Rep.sz S_api_Switch) l7460.length xs7459 :: .row v8732 9 (Rep.sz ByteArray) r8727.1.length xs8733 :: Rest) rfl ?_
           refine W_extract rfl rfl rfl rfl ?_
           exact W_end (OneT_end [.row v7458 70 (Rep.sz S_api_Switch) l7460.length xs7459, .row v8732 9 (Rep.sz ByteArray) r8727.1.length xs8733] (Hp.le_refl _) ⟨v8732, xs8733, rfl, rfl, (h8734)⟩)
          ·intro HX hX X Rest hR
           rintro _ _ ⟨v8732, xs8733, rfl, rfl, h8734⟩
           intro hU hUp
           refine W_extract rfl rfl rfl rfl ?_
           exact W_end (OneT_end [] (Hp.le_refl _) ⟨rfl, rfl⟩)
          ·intro HX hX X Rest hR
           rintro _ _ ⟨v8732, xs8733, rfl, rfl, h8734⟩
           rintro _ _ ⟨v8732, xs8733, rfl, rfl, h8734⟩
           rintro _ _ ⟨rfl, rfl⟩
           rintro _ _ ⟨rfl, rfl⟩
           rintro _ _ ⟨rfl, rfl⟩
           rintro _ _ ⟨rfl, rfl⟩
           rintro _ _ ⟨rfl, rfl⟩
           rintro _ _ ⟨rfl, rfl⟩
           rintro _ _ ⟨rfl, rfl⟩
           rintro _ _ ⟨rfl, rfl⟩
           rintro _ _ ⟨rfl, rfl⟩
           rintro _ _ ⟨rfl, rfl⟩
           rintro _ _ ⟨rfl, rfl⟩
           rintro _ _ ⟨v8732, xs8733, rfl, rfl, h8734⟩
           rintro _ _ ⟨v8732, xs8733, rfl, rfl, h8734⟩
           rintro _ _ ⟨v8732, xs8733, rfl, rfl, h8734⟩
           intro hU hUp
           refine W_as (M' := .row v7458 70 (Rep.sz S_api_Switch) l7460.length xs7459 :: .row v8732 9 (Rep.sz ByteArray) r8727.1.length xs8733 :: Rest) rfl ?_
           refine W_assign rfl rfl rfl ?_
           exact W_end (OneT_end [.row v7458 70 (Rep.sz S_api_Switch) l7460.length xs7459, .row v8732 9 (Rep.sz ByteArray) r8727.1.length xs8733] (Hp.le_refl _) ⟨v8732, xs8733, rfl, rfl, (h8734)⟩)
          intro H8735 hle8736
          rintro _ _ ⟨rfl, rfl⟩
          rintro _ _ ⟨rfl, rfl⟩
          rintro _ _ ⟨rfl, rfl⟩
          rintro _ _ ⟨rfl, rfl⟩
          rintro _ _ ⟨rfl, rfl⟩
          rintro _ _ ⟨rfl, rfl⟩
          rintro _ _ ⟨rfl, rfl⟩
          rintro _ _ ⟨rfl, rfl⟩
          rintro _ _ ⟨rfl, rfl⟩
          rintro _ _ ⟨rfl, rfl⟩
          rintro _ _ ⟨rfl, rfl⟩
          rintro _ _ ⟨v8732, xs8733, rfl, rfl, h8734⟩
          rintro _ _ ⟨v8732, xs8733, rfl, rfl, h8734⟩
          rintro _ _ ⟨v8732, xs8733, rfl, rfl, h8734⟩
          rintro _ _ ⟨rfl, rfl⟩
          rintro _ _ ⟨v8732, xs8733, rfl, rfl, h8734⟩
          refine W_as (M' := .row v7458 70 (Rep.sz S_api_Switch) l7460.length xs7459 :: .row v8732 9 (Rep.sz ByteArray) r8727.1.length xs8733 :: .row v8672 9 (Rep.sz ByteArray) l8674.length xs8673 :: .row v7447 9 (Rep.sz ByteArray) l7449.length xs7448 :: .obj b8544 (.cells ([.string (y8329.Name), .string (y8329.Node), .int .i64 (y8329.Least), .int .i64 (y8329.Most), .int .i64 (y8329.Ramp)] : List Value).toArray 46 (0, 0)) :: .obj b7486 (.cells [.string (s8671), v8672].toArray 38 (0, 0)) :: .row v7451 38 (Rep.sz S_api_BlackstartStep) l7453.length xs7452 :: .obj b101 (.cells [v7455, v7458, v7462, v7465, v7468, v7471].toArray 29 (0, 0)) :: M) rfl ?_
          refine W_assign rfl rfl rfl ?_
          refine W_end (E_then ?_)
          refine C_seq_join (fun H' M' L' => H8735 = H' ∧ .row v7458 70 (Rep.sz S_api_Switch) l7460.length xs7459 :: .row v8732 9 (Rep.sz ByteArray) r8727.1.length xs8733 :: .row v8672 9 (Rep.sz ByteArray) l8674.length xs8673 :: .row v7447 9 (Rep.sz ByteArray) l7449.length xs7448 :: .obj b8544 (.cells ([.string (y8329.Name), .string (y8329.Node), .int .i64 (y8329.Least), .int .i64 (y8329.Most), .int .i64 (y8329.Ramp)] : List Value).toArray 46 (0, 0)) :: .obj b7486 (.cells [.string (s8671), v8672].toArray 38 (0, 0)) :: .row v7451 38 (Rep.sz S_api_BlackstartStep) l7453.length xs7452 :: .obj b101 (.cells [v7455, v7458, v7462, v7465, v7468, v7471].toArray 29 (0, 0)) :: M = M' ∧ [(2, .pointer (some ⟨b101, 0, none⟩)), (7, v7447), (8, v7451), (9, .pointer (some ⟨b7486, 0, none⟩)), (11, .pointer (some ⟨b8544, 0, none⟩)), (14, v8732), (36, v7465), (37, .int .i64 ((l7466.length : Int))), (38, .int .i64 ((k7487 : Int))), (46, v7447), (47, .int .i64 ((l7449.length : Int))), (48, .int .i64 ((k8548 : Int))), (80, .bool (r8727.2 && ((decide (s8671 = (⟨#[]⟩))) || (decide ((r8727.1.length : Int) < (l8674.length : Int))))))] = L') ?_ (fun J8739 => ?_)
          ·rintro _ _ _ ⟨rfl, rfl, rfl⟩
           refine C_cond (b := r8727.2 && ((decide (s8671 = (⟨#[]⟩))) || (decide ((r8727.1.length : Int) < (l8674.length : Int))))) rfl (fun hb8740 => ?_) (fun hb8740 => ?_)
           ·have hm := ite_t' hb8740 hm
            refine C_region ?_
            refine W_field (o := 0) rfl rfl runUnderlying46 rfl sizeOf9 rfl rfl rfl ?_
            refine W_load rfl rfl isAgg9 rfl (own_at (List.mem_cons_of_mem _ (List.mem_cons_of_mem _ (List.mem_cons_of_mem _ (List.mem_cons_of_mem _ (List.mem_cons_self ..))))) rfl) ?_
            refine W_move rfl rfl rfl ?_
            refine W_build (css := [[.string (y8329.Name)], [v8732]]) (zs := [.string (⟨#[]⟩), .slice none 0 0]) (out := [.string (y8329.Name), v8732]) (places := [(0, 1), (1, 1)]) rfl rfl rfl ⟨rfl, (Rw.cells h8734), trivial⟩ zeroValue38 rfl runUnderlying38 (fun w => by kernel_rfl) rfl ?_
            refine W_perm (List.Perm.trans (List.Perm.cons _ (List.Perm.cons _ (List.Perm.cons _ (List.Perm.cons _ (List.Perm.swap _ _ _))))) (List.Perm.trans (List.Perm.cons _ (List.Perm.cons _ (List.Perm.cons _ (List.Perm.swap _ _ _)))) (List.Perm.trans (List.Perm.cons _ (List.Perm.cons _ (List.Perm.swap _ _ _))) (List.Perm.trans (List.Perm.cons _ (List.Perm.swap _ _ _)) (List.Perm.swap _ _ _))))) ?_
            refine W_store (cs := [.string (y8329.Name), v8732]) (out := [.string (y8329.Name), v8732]) rfl sizeOf38 rfl rfl rfl rfl rfl (all_cons rfl (all_cons (Rw.one h8734) all_nil)) (over_all rfl) ?_
            refine W_end (E_normal_block ?_)
            refine E_drop (List.Sublist.cons_cons _ (List.Sublist.cons_cons _ (List.Sublist.cons_cons _ (List.Sublist.cons _ (List.Sublist.refl _))))) ?_
            exact E_keepJ (J8719 _ _ _ ⟨y8329.Name, r8727.1, v8732, xs8733, hm, h8734, hle8736, rfl, rfl⟩) (List.Perm.trans (List.Perm.cons _ (List.Perm.swap _ _ _)) (List.Perm.trans (List.Perm.swap _ _ _) (List.Perm.trans (List.Perm.cons _ (List.Perm.cons _ (List.Perm.swap _ _ _))) (List.Perm.trans (List.Perm.cons _ (List.Perm.swap _ _ _)) (List.Perm.trans (List.Perm.cons _ (List.Perm.cons _ (List.Perm.cons _ (List.Perm.swap _ _ _)))) (List.Perm.trans (List.Perm.cons _ (List.Perm.cons _ (List.Perm.swap _ _ _))) (List.Perm.cons _ (List.Perm.cons _ (List.Perm.cons _ (List.Perm.cons _ (List.Perm.swap _ _ _))))))))))) ⟨rfl, rfl, rfl, rfl, rfl, rfl, rfl, rfl, rfl, rfl, rfl, trivial⟩
           ·have hm := ite_f' hb8740 hm
            refine C_skip (E_normal_block ?_)
            refine E_drop (List.Sublist.cons_cons _ (List.Sublist.cons _ (List.Sublist.refl _))) ?_
            exact E_keepJ (J8719 _ _ _ ⟨s8671, l8674, v8672, xs8673, hm, (hr8675.mono hle8736), hle8736, rfl, rfl⟩) (List.Perm.trans (List.Perm.swap _ _ _) (List.Perm.trans (List.Perm.cons _ (List.Perm.swap _ _ _)) (List.Perm.trans (List.Perm.cons _ (List.Perm.cons _ (List.Perm.swap _ _ _))) (List.Perm.trans (List.Perm.cons _ (List.Perm.cons _ (List.Perm.cons _ (List.Perm.swap _ _ _)))) (List.Perm.cons _ (List.Perm.cons _ (List.Perm.cons _ (List.Perm.cons _ (List.Perm.swap _ _ _))))))))) ⟨rfl, rfl, rfl, rfl, rfl, rfl, rfl, rfl, rfl, rfl, rfl, trivial⟩
          ·refine C_region ?_
           refine W_move rfl rfl rfl ?_
           refine W_move rfl rfl rfl ?_
           cases hb8741 : (r8727.2)
           ·refine W_no rfl rfl rfl ?_
            refine W_no rfl rfl rfl ?_
            refine W_no rfl rfl rfl ?_
            refine W_no rfl rfl rfl ?_
            refine W_no rfl rfl rfl ?_
            refine W_no rfl rfl rfl ?_
            refine W_no rfl rfl rfl ?_
            refine W_no rfl rfl rfl ?_
            refine W_no rfl rfl rfl ?_
            refine W_no rfl rfl rfl ?_
            refine W_no rfl rfl rfl ?_
            refine W_pick rfl rfl rfl rfl ?_
            refine W_end ?_
            exact E_keepJ (J8739 _ _ _ ⟨rfl, rfl, rfl⟩) (List.Perm.refl _) ⟨rfl, rfl, rfl, rfl, rfl, rfl, rfl, rfl, rfl, rfl, rfl, rfl, (by show some (Value.bool (false)) = some (Value.bool (r8727.2 && ((decide (s8671 = (⟨#[]⟩))) || (decide ((r8727.1.length : Int) < (l8674.length : Int)))))); first | (simp only [hb104, hb7485, hb8547, hb8741, Bool.and_true, Bool.true_and, Bool.false_and, Bool.and_false, Bool.or_true, Bool.true_or, Bool.or_false, Bool.false_or, Bool.not_true, Bool.not_false]; done) | (simp only [hb104, hb7485, hb8547, hb8741]; first | done | simp only [Bool.and_true, Bool.true_and, Bool.false_and, Bool.and_false, Bool.or_true, Bool.true_or, Bool.or_false, Bool.false_or, Bool.not_true, Bool.not_false])), trivial⟩
           ·refine W_field (o := 0) rfl rfl runUnderlying38 rfl sizeOf9 rfl rfl rfl ?_
            refine W_load rfl rfl isAgg9 rfl (own_at (List.mem_cons_of_mem _ (List.mem_cons_of_mem _ (List.mem_cons_of_mem _ (List.mem_cons_of_mem _ (List.mem_cons_of_mem _ (List.mem_cons_self ..)))))) rfl) ?_
            refine W_bin rfl rfl rfl rfl rfl ?_
            refine W_move rfl rfl rfl ?_
            cases hb8742 : (decide (s8671 = (⟨#[]⟩)))
            ·refine W_move rfl rfl rfl ?_
             refine W_lenO (List.mem_cons_of_mem _ (List.mem_cons_self ..)) rfl rfl runUnderlying22 rfl ?_
             refine W_field (o := 1) rfl rfl runUnderlying38 rfl sizeOf22 rfl rfl rfl ?_
             refine W_load rfl rfl isAgg22 rfl (own_at (List.mem_cons_of_mem _ (List.mem_cons_of_mem _ (List.mem_cons_of_mem _ (List.mem_cons_of_mem _ (List.mem_cons_of_mem _ (List.mem_cons_self ..)))))) rfl) ?_
             refine W_lenO (List.mem_cons_of_mem _ (List.mem_cons_of_mem _ (List.mem_cons_self ..))) rfl rfl runUnderlying22 rfl ?_
             refine W_bin rfl rfl rfl rfl rfl ?_
             refine W_pick rfl rfl rfl rfl ?_
             refine W_pick rfl rfl rfl rfl ?_
             refine W_end ?_
             exact E_keepJ (J8739 _ _ _ ⟨rfl, rfl, rfl⟩) (List.Perm.refl _) ⟨rfl, rfl, rfl, rfl, rfl, rfl, rfl, rfl, rfl, rfl, rfl, rfl, (by show some (Value.bool (decide ((r8727.1.length : Int) < (l8674.length : Int)))) = some (Value.bool (r8727.2 && ((decide (s8671 = (⟨#[]⟩))) || (decide ((r8727.1.length : Int) < (l8674.length : Int)))))); first | (simp only [hb104, hb7485, hb8547, hb8741, hb8742, Bool.and_true, Bool.true_and, Bool.false_and, Bool.and_false, Bool.or_true, Bool.true_or, Bool.or_false, Bool.false_or, Bool.not_true, Bool.not_false]; done) | (simp only [hb104, hb7485, hb8547, hb8741, hb8742]; first | done | simp only [Bool.and_true, Bool.true_and, Bool.false_and, Bool.and_false, Bool.or_true, Bool.true_or, Bool.or_false, Bool.false_or, Bool.not_true, Bool.not_false])), trivial⟩
            ·refine W_no rfl rfl rfl ?_
             refine W_no rfl rfl rfl ?_
             refine W_no rfl rfl rfl ?_
             refine W_no rfl rfl rfl ?_
             refine W_no rfl rfl rfl ?_
             refine W_no rfl rfl rfl ?_
             refine W_pick rfl rfl rfl rfl ?_
             refine W_pick rfl rfl rfl rfl ?_
             refine W_end ?_
             exact E_keepJ (J8739 _ _ _ ⟨rfl, rfl, rfl⟩) (List.Perm.refl _) ⟨rfl, rfl, rfl, rfl, rfl, rfl, rfl, rfl, rfl, rfl, rfl, rfl, (by show some (Value.bool (true)) = some (Value.bool (r8727.2 && ((decide (s8671 = (⟨#[]⟩))) || (decide ((r8727.1.length : Int) < (l8674.length : Int)))))); first | (simp only [hb104, hb7485, hb8547, hb8741, hb8742, Bool.and_true, Bool.true_and, Bool.false_and, Bool.and_false, Bool.or_true, Bool.true_or, Bool.or_false, Bool.false_or, Bool.not_true, Bool.not_false]; done) | (simp only [hb104, hb7485, hb8547, hb8741, hb8742]; first | done | simp only [Bool.and_true, Bool.true_and, Bool.false_and, Bool.and_false, Bool.or_true, Bool.true_or, Bool.or_false, Bool.false_or, Bool.not_true, Bool.not_false])), trivial⟩
        ·obtain rfl := rng_f hd8686 hb8688
         have hm : (m_blackstart_Plan_b172 nx8326 s8671 l8674) = some r := hm
         refine C_exit (E_exit_then (E_exit_then (E_exit_hit (E_normal_block ?_))))
         refine E_drop (List.Sublist.cons_cons _ (List.Sublist.cons_cons _ (List.Sublist.cons _ (List.Sublist.refl _)))) ?_
         exact E_keepJ (J8542 _ _ _ ⟨s8671, l8674, v8672, xs8673, hm, hr8675, hle8677, rfl, rfl⟩) (List.Perm.cons _ (List.Perm.swap _ _ _)) ⟨rfl, rfl, rfl, rfl, rfl, rfl, rfl, trivial⟩
     ·obtain rfl := rng_f hd8332 hb8334
      have hm : (if decide (s8318 = (⟨#[]⟩)) then (some (([] : List S_api_BlackstartStep), 8)) else (forI (fun k y s8846 n => m_blackstart_Plan_b177 k y s8846.1 s8846.2.1 s8846.2.2.1 s8846.2.2.2.1 s8846.2.2.2.2.1 s8846.2.2.2.2.2 n) (fun s8846 => need ((l7449.length + ([s8318]).length) * 16 ≤ 140737488355328) (need ((l7453.length + ([(S_api_BlackstartStep.mk s8318 l8321)]).length) * 40 ≤ 140737488355328) (nx7477 ((l7449 ++ ([s8318])), (l7453 ++ ([(S_api_BlackstartStep.mk s8318 l8321)])), s8846.1, s8846.2.1, s8846.2.2.1, s8846.2.2.2.1, s8846.2.2.2.2.1, s8846.2.2.2.2.2)))) 0 l8321 (l7456, l7460, l7463, l7466, l7469, l7472))) = some r := hm
      refine C_exit (E_exit_then (E_exit_then (E_exit_hit (E_then (C_seq (C_seq (C_region ?_)))))))
      refine W_field (o := 0) rfl rfl runUnderlying38 rfl sizeOf9 rfl rfl rfl ?_
      refine W_load rfl rfl isAgg9 rfl (own_at (List.mem_cons_of_mem _ (List.mem_cons_self ..)) rfl) ?_
      refine W_bin rfl rfl rfl rfl rfl ?_
      refine W_end (E_then ?_)
      refine C_cond (b := decide (s8318 = (⟨#[]⟩))) rfl (fun hb8743 => ?_) (fun hb8743 => ?_)
      ·have hm := ite_t' hb8743 hm
       refine C_seq (C_region ?_)
       refine W_assign rfl rfl rfl ?_
       refine W_assign rfl rfl rfl ?_
       refine W_end (E_then (C_ret (E_ret_then (E_ret_block (E_ret_then (E_ret_block (E_ret_then ?_)))))))
       refine E_nilRow 38 (Rep.sz S_api_BlackstartStep) ?_
       obtain rfl := Option.some.inj hm
       refine E_drop (List.Sublist.cons_cons _ (List.Sublist.cons _ (List.Sublist.cons _ (List.Sublist.cons _ (List.Sublist.cons _ (List.Sublist.cons _ (List.Sublist.cons _ (List.Sublist.refl _)))))))) ?_
       exact end2 rfl rfl rfl ⟨(Hp.le_trans hle7475 hle8324), (.slice none 0 0), [], rfl, rfl, Rw.nil⟩
      ·have hm := ite_f' hb8743 hm
       refine C_skip (E_then (C_seq (C_seq (C_region ?_))))
       refine W_field (o := 1) rfl rfl runUnderlying38 rfl sizeOf22 rfl rfl rfl ?_
       refine W_load rfl rfl isAgg22 rfl (own_at (List.mem_cons_of_mem _ (List.mem_cons_self ..)) rfl) ?_
       refine W_lenO (List.mem_cons_self ..) rfl rfl runUnderlying22 rfl ?_
       refine W_move rfl rfl rfl ?_
       refine W_end (E_then (C_block ?_))
       refine C_rowMax (List.mem_cons_self ..) (fun hmx8850 => ?_)
       refine C_keep (L' := [(2, .pointer (some ⟨b101, 0, none⟩)), (7, v7447), (8, v7451), (9, .pointer (some ⟨b7486, 0, none⟩)), (91, v8319), (92, .int .i64 ((l8321.length : Int))), (93, .int .i64 (((0 : Nat) : Int)))]) ⟨rfl, rfl, rfl, rfl, rfl, rfl, rfl, trivial⟩ (List.Perm.trans (List.Perm.cons _ (List.Perm.cons _ (List.Perm.cons _ (List.Perm.swap _ _ _)))) (List.Perm.trans (List.Perm.cons _ (List.Perm.cons _ (List.Perm.swap _ _ _))) (List.Perm.trans (List.Perm.cons _ (List.Perm.swap _ _ _)) (List.Perm.swap _ _ _)))) ?_
       refine C_loop (fun n H' M' L' => ∃ (k8744 : Nat) (zs8852' : List ByteArray), ∃ l8826 : (List ByteArray), ∃ l8830 : List S_api_Switch, ∃ l8833 : (List S_api_Branch), ∃ l8836 : (List S_api_Gen), ∃ l8839 : (List S_api_Load), ∃ l8842 : (List S_api_Store), ∃ v8825 : Value, ∃ v8828 : Value, ∃ xs8829 : List Value, ∃ v8832 : Value, ∃ v8835 : Value, ∃ v8838 : Value, ∃ v8841 : Value, (l8321).drop k8744 = zs8852' ∧ zs8852'.length = n ∧ forI (fun k y s8846 n => m_blackstart_Plan_b177 k y s8846.1 s8846.2.1 s8846.2.2.1 s8846.2.2.2.1 s8846.2.2.2.2.1 s8846.2.2.2.2.2 n) (fun s8846 => need ((l7449.length + ([s8318]).length) * 16 ≤ 140737488355328) (need ((l7453.length + ([(S_api_BlackstartStep.mk s8318 l8321)]).length) * 40 ≤ 140737488355328) (nx7477 ((l7449 ++ ([s8318])), (l7453 ++ ([(S_api_BlackstartStep.mk s8318 l8321)])), s8846.1, s8846.2.1, s8846.2.2.1, s8846.2.2.2.1, s8846.2.2.2.2.1, s8846.2.2.2.2.2)))) k8744 zs8852' (l8826, l8830, l8833, l8836, l8839, l8842) = some r ∧ RdS H' v8825 l8826 ∧ Rw H' v8828 xs8829 l8830 ∧ RdS H' v8832 l8833 ∧ RdS H' v8835 l8836 ∧ RdS H' v8838 l8839 ∧ RdS H' v8841 l8842 ∧ H8323.le H' ∧ .row v8828 70 (Rep.sz S_api_Switch) l8830.length xs8829 :: .row v8319 9 (Rep.sz ByteArray) l8321.length xs8320 :: .obj b7486 (.cells [.string (s8318), v8319].toArray 38 (0, 0)) :: .row v7447 9 (Rep.sz ByteArray) l7449.length xs7448 :: .row v7451 38 (Rep.sz S_api_BlackstartStep) l7453.length xs7452 :: .obj b101 (.cells [v8825, v8828, v8832, v8835, v8838, v8841].toArray 29 (0, 0)) :: M = M' ∧ [(2, .pointer (some ⟨b101, 0, none⟩)), (7, v7447), (8, v7451), (9, .pointer (some ⟨b7486, 0, none⟩)), (91, v8319), (92, .int .i64 ((l8321.length : Int))), (93, .int .i64 ((k8744 : Int)))] = L') _ ⟨0, _, l7456, l7460, l7463, l7466, l7469, l7472, v7455, v7458, xs7459, v7462, v7465, v7468, v7471, rfl, rfl, hm, (h7457.mono hle8324), (hr7461.mono hle8324), (h7464.mono hle8324), (h7467.mono hle8324), (h7470.mono hle8324), (h7473.mono hle8324), (Hp.le_refl _), rfl, rfl⟩ ?_
       rintro _ H8844 _ _ ⟨k8744, zs8852', l8826, l8830, l8833, l8836, l8839, l8842, v8825, v8828, xs8829, v8832, v8835, v8838, v8841, hd8854, rfl, hm, h8827, hr8831, h8834, h8837, h8840, h8843, hle8845, rfl, rfl⟩
       refine C_seq (C_region ?_)
       refine W_bin rfl rfl rfl rfl rfl ?_
       refine W_end (E_then (C_seq ?_))
       refine C_cond (b := decide ((k8744 : Int) < (l8321.length : Int))) rfl (fun hb8856 => ?_) (fun hb8856 => ?_)
       ·obtain ⟨y8851, zs8852, rfl, hy8853, hd8855⟩ := rng_t hd8854 hb8856
        have hm : m_blackstart_Plan_b177 k8744 y8851 l8826 l8830 l8833 l8836 l8839 l8842 (forI (fun k y s8846 n => m_blackstart_Plan_b177 k y s8846.1 s8846.2.1 s8846.2.2.1 s8846.2.2.2.1 s8846.2.2.2.2.1 s8846.2.2.2.2.2 n) (fun s8846 => need ((l7449.length + ([s8318]).length) * 16 ≤ 140737488355328) (need ((l7453.length + ([(S_api_BlackstartStep.mk s8318 l8321)]).length) * 40 ≤ 140737488355328) (nx7477 ((l7449 ++ ([s8318])), (l7453 ++ ([(S_api_BlackstartStep.mk s8318 l8321)])), s8846.1, s8846.2.1, s8846.2.2.1, s8846.2.2.2.1, s8846.2.2.2.2.1, s8846.2.2.2.2.2)))) (k8744 + 1) zs8852) = some r := hm
        generalize hn8848 : forI (fun k y s8846 n => m_blackstart_Plan_b177 k y s8846.1 s8846.2.1 s8846.2.2.1 s8846.2.2.2.1 s8846.2.2.2.2.1 s8846.2.2.2.2.2 n) (fun s8846 => need ((l7449.length + ([s8318]).length) * 16 ≤ 140737488355328) (need ((l7453.length + ([(S_api_BlackstartStep.mk s8318 l8321)]).length) * 40 ≤ 140737488355328) (nx7477 ((l7449 ++ ([s8318])), (l7453 ++ ([(S_api_BlackstartStep.mk s8318 l8321)])), s8846.1, s8846.2.1, s8846.2.2.1, s8846.2.2.2.1, s8846.2.2.2.2.1, s8846.2.2.2.2.2)))) (k8744 + 1) zs8852 = nx8847 at hm
        unfold m_blackstart_Plan_b177 at hm
        refine C_skip (E_then (C_seq (C_block (C_seq (C_region ?_)))))
        refine W_indexO (List.mem_cons_of_mem _ (List.mem_cons_self ..)) rfl rfl runUnderlying22 sizeOf9 rfl rfl (Int.natCast_nonneg _) (List.getElem?_eq_some_iff.1 hy8853).1 ?_
        obtain ⟨_, rfl, hg8857⟩ := (hr8322).elem hy8853
        refine W_load rfl rfl isAgg9 rfl (row_one0 (List.mem_cons_of_mem _ (List.mem_cons_self ..)) hg8857 rfl) ?_
        refine W_assign rfl rfl rfl ?_
        refine W_end (E_then (C_region ?_))
        refine W_move rfl rfl rfl ?_
        refine W_perm (List.Perm.trans (List.Perm.cons _ (List.Perm.cons _ (List.Perm.cons _ (List.Perm.cons _ (List.Perm.swap _ _ _))))) (List.Perm.trans (List.Perm.cons _ (List.Perm.cons _ (List.Perm.cons _ (List.Perm.swap _ _ _)))) (List.Perm.trans (List.Perm.cons _ (List.Perm.cons _ (List.Perm.swap _ _ _))) (List.Perm.trans (List.Perm.cons _ (List.Perm.swap _ _ _)) (List.Perm.swap _ _ _))))) ?_
        obtain ⟨r8858, hc8859, hm⟩ := bind_some hm
        refine W_call call27 rfl rfl rfl (fun w ht => by have h := m_blackstart_closeSwitch_c (hm := hc8859) h8827 hr8831 h8834 h8837 h8840 h8843 ht; exact h) ?_
        rintro _ H8874 _ ⟨hle8875, v8861, v8863, xs8864, v8866, v8868, v8870, v8872, rfl, rfl, h8862, h8865, h8867, h8869, h8871, h8873⟩
        refine W_end (E_normal_block (E_then (C_region ?_)))
        refine W_bin rfl rfl rfl rfl rfl ?_
        refine W_move rfl rfl rfl ?_
        refine W_end ?_
        exact E_keepJ (E_back (Nat.lt_succ_self _) ⟨k8744 + 1, zs8852, r8858.Nodes, r8858.Switches, r8858.Branches, r8858.Gens, r8858.Loads, r8858.Stores, v8861, v8863, xs8864, v8866, v8868, v8870, v8872, hd8855, rfl, (by rw [hn8848]; exact hm), h8862, h8865, h8867, h8869, h8871, h8873, (Hp.le_trans hle8845 hle8875), rfl, rfl⟩) (List.Perm.trans (List.Perm.swap _ _ _) (List.Perm.trans (List.Perm.cons _ (List.Perm.swap _ _ _)) (List.Perm.trans (List.Perm.cons _ (List.Perm.cons _ (List.Perm.swap _ _ _))) (List.Perm.trans (List.Perm.cons _ (List.Perm.cons _ (List.Perm.cons _ (List.Perm.swap _ _ _)))) (List.Perm.cons _ (List.Perm.cons _ (List.Perm.cons _ (List.Perm.cons _ (List.Perm.swap _ _ _))))))))) ⟨rfl, rfl, rfl, rfl, rfl, rfl, (congrArg (fun z => some (Value.int .i64 z)) (i64_succ hy8853 hmx8850)), trivial⟩
       ·obtain rfl := rng_f hd8854 hb8856
        have hm : (need ((l7449.length + ([s8318]).length) * 16 ≤ 140737488355328) (need ((l7453.length + ([(S_api_BlackstartStep.mk s8318 l8321)]).length) * 40 ≤ 140737488355328) (nx7477 ((l7449 ++ ([s8318])), (l7453 ++ ([(S_api_BlackstartStep.mk s8318 l8321)])), l8826, l8830, l8833, l8836, l8839, l8842)))) = some r := hm
        refine C_exit (E_exit_then (E_exit_then (E_exit_hit (E_then (C_seq (C_region ?_))))))
        refine W_move rfl rfl rfl ?_
        refine W_field (o := 0) rfl rfl runUnderlying38 rfl sizeOf9 rfl rfl rfl ?_
        refine W_load rfl rfl isAgg9 rfl (own_at (List.mem_cons_of_mem _ (List.mem_cons_of_mem _ (List.mem_cons_self ..))) rfl) ?_
        refine W_buildSlice (α := ByteArray) (css := [[.string (s8318)]]) (zs := [.string (⟨#[]⟩)]) (out := [.string (s8318)]) (ys := [s8318]) rfl rfl rfl ⟨rfl, trivial⟩ runUnderlying22 sizeOf9 rfl zeroValue9 (by kernel_rfl) rfl rfl rfl rfl ⟨[.string (s8318)], [], rfl, rfl, rfl⟩ rfl ?_
        intro b8876 v8877 H8878 hv8879 hle8880 h8881
        have hc8882 : Value.cap' v8877 = ([s8318]).length := by rw [hv8879]; rfl
        obtain ⟨hz8883, hm⟩ := need_some hm
        refine W_perm (List.Perm.trans (List.Perm.cons _ (List.Perm.cons _ (List.Perm.swap _ _ _))) (List.Perm.trans (List.Perm.cons _ (List.Perm.swap _ _ _)) (List.Perm.swap _ _ _))) ?_
        refine W_appendO (α := ByteArray) (l := l7449) (ys := [s8318]) rfl rfl underlying22 ⟨_, rfl, rfl, rfl, rfl⟩ rfl rfl rfl rfl rfl (((hr7450.mono hle8324).mono hle8845).mono hle8880) h8881 hz8883 ?_
        intro v8884 xs8885 hr8886
        refine W_assign rfl rfl rfl ?_
        refine W_end (E_then (C_region ?_))
        refine W_move rfl rfl rfl ?_
        refine W_loadAgg rfl rfl isAgg38 sizeOf38 rfl (own_all (List.mem_cons_of_mem _ (List.mem_cons_of_mem _ (List.mem_cons_of_mem _ (List.mem_cons_self ..))))) rfl ?_
        refine W_perm (List.Perm.trans (List.Perm.cons _ (List.Perm.swap _ _ _)) (List.Perm.swap _ _ _)) ?_
        refine W_freeze (((hr8322.mono hle8845).mono hle8880)).rd rfl (fun H8887 hle8888 h8889 => ?_)
        refine W_buildSlice (α := S_api_BlackstartStep) (css := [[.string (s8318), v8319]]) (zs := [.string (⟨#[]⟩), .slice none 0 0]) (out := [.string (s8318), v8319]) (ys := [(S_api_BlackstartStep.mk s8318 l8321)]) rfl rfl rfl ⟨rfl, trivial⟩ runUnderlying31 sizeOf38 rfl zeroValue38 (by kernel_rfl) rfl rfl rfl rfl ⟨[.string (s8318), v8319], [], rfl, ⟨v8319, rfl, h8889⟩, rfl⟩ rfl ?_
        intro b8890 v8891 H8892 hv8893 hle8894 h8895
        have hc8896 : Value.cap' v8891 = ([(S_api_BlackstartStep.mk s8318 l8321)]).length := by rw [hv8893]; rfl
        obtain ⟨hz8897, hm⟩ := need_some hm
        refine W_perm (List.Perm.trans (List.Perm.cons _ (List.Perm.cons _ (List.Perm.swap _ _ _))) (List.Perm.trans (List.Perm.cons _ (List.Perm.swap _ _ _)) (List.Perm.swap _ _ _))) ?_
        refine W_appendO (α := S_api_BlackstartStep) (l := l7453) (ys := [(S_api_BlackstartStep.mk s8318 l8321)]) rfl rfl underlying31 ⟨_, rfl, rfl, rfl, rfl⟩ rfl rfl rfl rfl rfl (((((hr7454.mono hle8324).mono hle8845).mono hle8880).mono hle8888).mono hle8894) h8895 hz8897 ?_
        intro v8898 xs8899 hr8900
        refine W_assign rfl rfl rfl ?_
        refine W_end (E_normal_block ?_)
        refine E_drop (List.Sublist.cons_cons _ (List.Sublist.cons_cons _ (List.Sublist.cons_cons _ (List.Sublist.cons _ (List.Sublist.refl _))))) ?_
        exact E_keepJ (E_back (Nat.lt_succ_self _) ⟨(l7449 ++ ([s8318])), (l7453 ++ ([(S_api_BlackstartStep.mk s8318 l8321)])), l8826, l8830, l8833, l8836, l8839, l8842, v8884, xs8885, v8898, xs8899, v8825, v8828, xs8829, v8832, v8835, v8838, v8841, (by rw [hn7478]; exact hm), ((hr8886.mono hle8888).mono hle8894), hr8900, (((h8827.mono hle8880).mono hle8888).mono hle8894), (((hr8831.mono hle8880).mono hle8888).mono hle8894), (((h8834.mono hle8880).mono hle8888).mono hle8894), (((h8837.mono hle8880).mono hle8888).mono hle8894), (((h8840.mono hle8880).mono hle8888).mono hle8894), (((h8843.mono hle8880).mono hle8888).mono hle8894), (Hp.le_trans (Hp.le_trans (Hp.le_trans (Hp.le_trans (Hp.le_trans hle7475 hle8324) hle8845) hle8880) hle8888) hle8894), rfl, rfl⟩) (List.Perm.swap _ _ _) ⟨rfl, rfl, rfl, trivial⟩
    ·have hm := ite_f' hb7485 hm
     refine C_exit (E_exit_then (E_exit_then (E_exit_hit ?_)))
     refine E_drop (List.Sublist.cons _ (List.Sublist.cons_cons _ (List.Sublist.cons _ (List.Sublist.cons _ (List.Sublist.refl _))))) ?_
     exact E_keepJ (J4525 _ _ _ ⟨l7453, v7451, xs7452, hm, hr7454, hle7475, rfl, rfl⟩) (List.Perm.refl _) ⟨rfl, trivial⟩

theorem m_slices_Equal_string_string_c {B : Nat} {w0 w : World} {H : Hp} {M : List Res} {p0_s1 : (List ByteArray)} {p1_s2 : (List ByteArray)} {v0 : Value} {v1 : Value} {r : Bool} (hm : m_slices_Equal_string_string p0_s1 p1_s2 = some r) (h0 : RdS H v0 p0_s1) (h1 : RdS H v1 p1_s2) (ht : St B w0 H (M) w) :
  Calls prog 28 [v0, v1].toArray w (Ret B w0 fun H' M' v => H = H' ∧ M = M' ∧ .bool (r) = v) := by
 unfold m_slices_Equal_string_string at hm
 refine enter func28 rfl rfl rfl ht ?_
 refine C_seq (C_region ?_)
 refine W_assign rfl rfl rfl ?_
 refine W_end (E_then (C_seq (C_seq (C_region ?_))))
 refine W_move rfl rfl rfl ?_
 refine W_lenR rfl rfl runUnderlying22 rfl h0 ?_
 refine W_move rfl rfl rfl ?_
 refine W_lenR rfl rfl runUnderlying22 rfl h1 ?_
 refine W_bin rfl rfl rfl rfl rfl ?_
 refine W_end (E_then ?_)
 refine C_cond (b := !decide ((p0_s1.length : Int) = (p1_s2.length : Int))) rfl (fun hb101 => ?_) (fun hb101 => ?_)
 ·have hm := ite_t' hb101 hm
  refine C_seq (C_region ?_)
  refine W_assign rfl rfl rfl ?_
  refine W_end (E_then (C_ret (E_ret_then ?_)))
  obtain rfl := Option.some.inj hm
  refine E_weak (Hp.le_refl _) ?_
  exact end1 rfl rfl ⟨rfl, rfl, rfl⟩
 ·have hm := ite_f' hb101 hm
  refine C_skip (E_then (C_seq (C_seq (C_region ?_))))
  refine W_move rfl rfl rfl ?_
  refine W_lenR rfl rfl runUnderlying22 rfl h0 ?_
  refine W_move rfl rfl rfl ?_
  refine W_end (E_then (C_block ?_))
  refine C_keep (L' := [(0, v0), (1, v1), (12, .int .i64 ((p0_s1.length : Int))), (13, .int .i64 (((0 : Nat) : Int)))]) ⟨rfl, rfl, rfl, rfl, trivial⟩ (List.Perm.refl _) ?_
  refine C_loop (fun n H' M' L' => ∃ (k102 : Nat) (zs136' : Nat), k102 + zs136' = ((p0_s1.length : Int) : Int).toNat ∧ zs136' = n ∧ forN (fun k s131 n => m_slices_Equal_string_string_b1 p0_s1 p1_s2 k n) (fun _ => some true) zs136' k102 () = some r ∧ H.le H' ∧ M = M' ∧ [(0, v0), (1, v1), (12, .int .i64 ((p0_s1.length : Int))), (13, .int .i64 ((k102 : Int)))] = L') _ ⟨0, _, Nat.zero_add _, rfl, hm, (Hp.le_refl _), rfl, rfl⟩ ?_
  rintro _ H129 _ _ ⟨k102, zs136', hd138, rfl, hm, hle130, rfl, rfl⟩
  refine C_seq (C_region ?_)
  refine W_bin rfl rfl rfl rfl rfl ?_
  refine W_end (E_then (C_seq ?_))
  refine C_cond (b := decide ((k102 : Int) < (p0_s1.length : Int))) rfl (fun hb140 => ?_) (fun hb140 => ?_)
  ·obtain ⟨zs136, rfl, hd139, hy137⟩ := rngN_t hd138 hb140
   have hm : m_slices_Equal_string_string_b1 p0_s1 p1_s2 k102 (forN (fun k s131 n => m_slices_Equal_string_string_b1 p0_s1 p1_s2 k n) (fun _ => some true) zs136 (k102 + 1)) = some r := hm
   generalize hn133 : forN (fun k s131 n => m_slices_Equal_string_string_b1 p0_s1 p1_s2 k n) (fun _ => some true) zs136 (k102 + 1) = nx132 at hm
   unfold m_slices_Equal_string_string_b1 at hm
   refine C_skip (E_then (C_seq (C_block (C_seq (C_region ?_)))))
   refine W_move rfl rfl rfl ?_
   refine W_assign rfl rfl rfl ?_
   refine W_end (E_then (C_seq ?_))
   obtain ⟨y141, h142, he143, hm⟩ := idx_some hm
   obtain ⟨_, rfl, hc144⟩ := (h0).elem he143
   obtain ⟨y145, h146, he147, hm⟩ := idx_some hm
   obtain ⟨_, rfl, hc148⟩ := (h1).elem he147
   refine C_region_tok0 8 (phiT [(fun H rs v => [] = rs ∧ v0 = v), (fun H rs v => [] = rs ∧ .int .i64 ((k102 : Int)) = v), (fun H rs v => [] = rs ∧ .pointer (some ((Value.base (v0)).add (((k102 : Int) : Int).toNat * 1))) = v), (fun H rs v => [] = rs ∧ .string (y141) = v), (fun H rs v => [] = rs ∧ v1 = v), (fun H rs v => [] = rs ∧ .int .i64 ((k102 : Int)) = v), (fun H rs v => [] = rs ∧ .pointer (some ((Value.base (v1)).add (((k102 : Int) : Int).toNat * 1))) = v), (fun H rs v => [] = rs ∧ .string (y145) = v)]) [[], [], [], [], [], [], [], []] [[], [], [], [], [], [], [], []] [] [0, 1, 2, 3, 4, 5, 6, 7] Facts.mixed (by kernel_rfl) (by rfl) (by rfl) (by rfl) (by kernel_rfl) (phiT_mono ⟨eq_monoT _ _, eq_monoT _ _, eq_monoT _ _, eq_monoT _ _, eq_monoT _ _, eq_monoT _ _, eq_monoT _ _, eq_monoT _ _, trivial⟩) ⟨?_, ?_, ?_, ?_, ?_, ?_, ?_, ?_, trivial⟩ ?_
   ·intro HX hX X Rest hR
    intro hU hUp
    refine W_move rfl rfl rfl ?_
    exact W_end (OneT_end [] (Hp.le_refl _) ⟨rfl, rfl⟩)
   ·intro HX hX X Rest hR
    intro hU hUp
    refine W_move rfl rfl rfl ?_
    exact W_end (OneT_end [] (Hp.le_refl _) ⟨rfl, rfl⟩)
   ·intro HX hX X Rest hR
    rintro _ _ ⟨rfl, rfl⟩
    rintro _ _ ⟨rfl, rfl⟩
    intro hU hUp
    refine W_indexS rfl rfl runUnderlying22 sizeOf9 rfl ((h0.mono hle130).mono hX) rfl h142 he143 ?_
    exact W_end (OneT_end [] (Hp.le_refl _) ⟨rfl, rfl⟩)
   ·intro HX hX X Rest hR
    rintro _ _ ⟨rfl, rfl⟩
    intro hU hUp
    refine W_load rfl rfl isAgg9 rfl (HCells.one ((hc144.mono hle130).mono hX) 0 rfl).at ?_
    exact W_end (OneT_end [] (Hp.le_refl _) ⟨rfl, rfl⟩)
   ·intro HX hX X Rest hR
    intro hU hUp
    refine W_move rfl rfl rfl ?_
    exact W_end (OneT_end [] (Hp.le_refl _) ⟨rfl, rfl⟩)
   ·intro HX hX X Rest hR
    intro hU hUp
    refine W_move rfl rfl rfl ?_
    exact W_end (OneT_end [] (Hp.le_refl _) ⟨rfl, rfl⟩)
   ·intro HX hX X Rest hR
    rintro _ _ ⟨rfl, rfl⟩
    rintro _ _ ⟨rfl, rfl⟩
    intro hU hUp
    refine W_indexS rfl rfl runUnderlying22 sizeOf9 rfl ((h1.mono hle130).mono hX) rfl h146 he147 ?_
    exact W_end (OneT_end [] (Hp.le_refl _) ⟨rfl, rfl⟩)
   ·intro HX hX X Rest hR
    rintro _ _ ⟨rfl, rfl⟩
    intro hU hUp
    refine W_load rfl rfl isAgg9 rfl (HCells.one ((hc148.mono hle130).mono hX) 0 rfl).at ?_
    exact W_end (OneT_end [] (Hp.le_refl _) ⟨rfl, rfl⟩)
   intro H149 hle150
   rintro _ _ ⟨rfl, rfl⟩
   rintro _ _ ⟨rfl, rfl⟩
   rintro _ _ ⟨rfl, rfl⟩
   rintro _ _ ⟨rfl, rfl⟩
   rintro _ _ ⟨rfl, rfl⟩
   rintro _ _ ⟨rfl, rfl⟩
   rintro _ _ ⟨rfl, rfl⟩
   rintro _ _ ⟨rfl, rfl⟩
   refine W_bin rfl rfl rfl rfl rfl ?_
   refine W_end (E_then ?_)
   refine C_cond (b := !decide (y141 = y145)) rfl (fun hb151 => ?_) (fun hb151 => ?_)
   ·have hm := ite_t' hb151 hm
    refine C_seq (C_region ?_)
    refine W_assign rfl rfl rfl ?_
    refine W_end (E_then (C_ret (E_ret_block (E_ret_then (E_ret_then (E_ret_block (E_ret_then ?_)))))))
    obtain rfl := Option.some.inj hm
    refine E_weak (Hp.le_trans hle130 hle150) ?_
    exact end1 rfl rfl ⟨rfl, rfl, rfl⟩
   ·have hm := ite_f' hb151 hm
    refine C_skip (E_normal_block (E_then (C_region ?_)))
    refine W_bin rfl rfl rfl rfl rfl ?_
    refine W_move rfl rfl rfl ?_
    refine W_end ?_
    exact E_keepJ (E_back (Nat.lt_succ_self _) ⟨k102 + 1, zs136, hd139, rfl, (by rw [hn133]; exact hm), (Hp.le_trans hle130 hle150), rfl, rfl⟩) (List.Perm.refl _) ⟨rfl, rfl, rfl, (congrArg (fun z => some (Value.int .i64 z)) (i64_succN hy137 (toNat_max (len_max (h0).lenMax)))), trivial⟩
  ·obtain rfl := rngN_f hd138 hb140
   have hm : (some true) = some r := hm
   refine C_exit (E_exit_then (E_exit_then (E_exit_hit (E_then (C_seq (C_region ?_))))))
   refine W_assign rfl rfl rfl ?_
   refine W_end (E_then (C_ret ?_))
   obtain rfl := Option.some.inj hm
   refine E_weak hle130 ?_
   exact end1 rfl rfl ⟨rfl, rfl, rfl⟩

theorem m_gridhallkeep4_blackstartFact_c {B : Nat} {w0 w : World} {H : Hp} {M : List Res} {r : Bool} (hm : m_gridhallkeep4_blackstartFact = some r) (ht : St B w0 H (M) w) :
  Calls prog 8 [].toArray w (Ret B w0 fun H' M' v => H = H' ∧ M = M' ∧ .bool (r) = v) := by
 unfold m_gridhallkeep4_blackstartFact at hm
 refine enter func8 rfl rfl rfl ht ?_
 refine C_seq (C_region ?_)
 refine W_assign rfl rfl rfl ?_
 refine W_end (E_then (C_seq (C_region ?_)))
 refine W_buildSliceO (α := ByteArray) (css := [[.string (⟨#[65]⟩)], [.string (⟨#[66]⟩)]]) (zs := [.string (⟨#[]⟩), .string (⟨#[]⟩)]) (out := [.string (⟨#[65]⟩), .string (⟨#[66]⟩)]) (ys := [(⟨#[65]⟩), (⟨#[66]⟩)]) rfl rfl rfl ⟨rfl, rfl, trivial⟩ runUnderlying22 sizeOf9 rfl zeroValue9 (by kernel_rfl) rfl rfl rfl rfl ⟨[.string (⟨#[65]⟩)], [.string (⟨#[66]⟩)], rfl, rfl, ⟨[.string (⟨#[66]⟩)], [], rfl, rfl, rfl⟩⟩ rfl ?_
 intro v101 xs102 hr103
 refine W_build (css := [[.string (⟨#[83]⟩)], [.string (⟨#[65]⟩)], [.string (⟨#[66]⟩)], [.bool (true)]]) (zs := [.string (⟨#[]⟩), .string (⟨#[]⟩), .string (⟨#[]⟩), .bool (false), .bool (false)]) (out := [.string (⟨#[83]⟩), .string (⟨#[65]⟩), .string (⟨#[66]⟩), .bool (false), .bool (true)]) (places := [(0, 1), (1, 1), (2, 1), (3, 1), (4, 1)]) rfl rfl rfl ⟨rfl, rfl, rfl, rfl, trivial⟩ zeroValue70 rfl runUnderlying70 (fun w => by kernel_rfl) rfl ?_
 refine W_buildSliceO (α := S_api_Switch) (css := [[.string (⟨#[83]⟩), .string (⟨#[65]⟩), .string (⟨#[66]⟩), .bool (false), .bool (true)]]) (zs := [.string (⟨#[]⟩), .string (⟨#[]⟩), .string (⟨#[]⟩), .bool (false), .bool (false)]) (out := [.string (⟨#[83]⟩), .string (⟨#[65]⟩), .string (⟨#[66]⟩), .bool (false), .bool (true)]) (ys := [(S_api_Switch.mk (⟨#[83]⟩) (⟨#[65]⟩) (⟨#[66]⟩) false true)]) rfl rfl rfl ⟨rfl, trivial⟩ runUnderlying23 sizeOf70 rfl zeroValue70 (by kernel_rfl) rfl rfl rfl rfl ⟨[.string (⟨#[83]⟩), .string (⟨#[65]⟩), .string (⟨#[66]⟩), .bool (false), .bool (true)], [], rfl, rfl, rfl⟩ rfl ?_
 intro v104 xs105 hr106
 refine W_build (css := [[.string (⟨#[71]⟩)], [.string (⟨#[65]⟩)]]) (zs := [.string (⟨#[]⟩), .string (⟨#[]⟩), .int .i64 (0), .int .i64 (0), .int .i64 (0)]) (out := [.string (⟨#[71]⟩), .string (⟨#[65]⟩), .int .i64 (0), .int .i64 (0), .int .i64 (0)]) (places := [(0, 1), (1, 1), (2, 1), (3, 1), (4, 1)]) rfl rfl rfl ⟨rfl, rfl, trivial⟩ zeroValue46 rfl runUnderlying46 (fun w => by kernel_rfl) rfl ?_
 refine W_build (css := [[.string (⟨#[72]⟩)], [.string (⟨#[66]⟩)]]) (zs := [.string (⟨#[]⟩), .string (⟨#[]⟩), .int .i64 (0), .int .i64 (0), .int .i64 (0)]) (out := [.string (⟨#[72]⟩), .string (⟨#[66]⟩), .int .i64 (0), .int .i64 (0), .int .i64 (0)]) (places := [(0, 1), (1, 1), (2, 1), (3, 1), (4, 1)]) rfl rfl rfl ⟨rfl, rfl, trivial⟩ zeroValue46 rfl runUnderlying46 (fun w => by kernel_rfl) rfl ?_
 refine W_buildSliceO (α := S_api_Gen) (css := [[.string (⟨#[71]⟩), .string (⟨#[65]⟩), .int .i64 (0), .int .i64 (0), .int .i64 (0)], [.string (⟨#[72]⟩), .string (⟨#[66]⟩), .int .i64 (0), .int .i64 (0), .int .i64 (0)]]) (zs := [.string (⟨#[]⟩), .string (⟨#[]⟩), .int .i64 (0), .int .i64 (0), .int .i64 (0), .string (⟨#[]⟩), .string (⟨#[]⟩), .int .i64 (0), .int .i64 (0), .int .i64 (0)]) (out := [.string (⟨#[71]⟩), .string (⟨#[65]⟩), .int .i64 (0), .int .i64 (0), .int .i64 (0), .string (⟨#[72]⟩), .string (⟨#[66]⟩), .int .i64 (0), .int .i64 (0), .int .i64 (0)]) (ys := [(S_api_Gen.mk (⟨#[71]⟩) (⟨#[65]⟩) 0 0 0), (S_api_Gen.mk (⟨#[72]⟩) (⟨#[66]⟩) 0 0 0)]) rfl rfl rfl ⟨rfl, rfl, trivial⟩ runUnderlying25 sizeOf46 rfl zeroValue46 (by kernel_rfl) rfl rfl rfl rfl ⟨[.string (⟨#[71]⟩), .string (⟨#[65]⟩), .int .i64 (0), .int .i64 (0), .int .i64 (0)], [.string (⟨#[72]⟩), .string (⟨#[66]⟩), .int .i64 (0), .int .i64 (0), .int .i64 (0)], rfl, rfl, ⟨[.string (⟨#[72]⟩), .string (⟨#[66]⟩), .int .i64 (0), .int .i64 (0), .int .i64 (0)], [], rfl, rfl, rfl⟩⟩ rfl ?_
 intro v107 xs108 hr109
 refine W_build (css := [[v101], [v104], [v107]]) (zs := [.slice none 0 0, .slice none 0 0, .slice none 0 0, .slice none 0 0, .slice none 0 0, .slice none 0 0]) (out := [v101, v104, .slice none 0 0, v107, .slice none 0 0, .slice none 0 0]) (places := [(0, 1), (1, 1), (2, 1), (3, 1), (4, 1), (5, 1)]) rfl rfl rfl ⟨(Rw.cells hr103), (Rw.cells hr106), (Rw.cells hr109), trivial⟩ zeroValue29 rfl runUnderlying29 (fun w => by kernel_rfl) rfl ?_
 refine W_alloc (cs := [.slice none 0 0, .slice none 0 0, .slice none 0 0, .slice none 0 0, .slice none 0 0, .slice none 0 0]) rfl rfl zeroValue29 rfl (fun b110 => ?_)
 refine W_store (cs := [v101, v104, .slice none 0 0, v107, .slice none 0 0, .slice none 0 0]) (out := [v101, v104, .slice none 0 0, v107, .slice none 0 0, .slice none 0 0]) rfl sizeOf29 rfl rfl rfl rfl rfl (all_cons (Rw.one hr103) (all_cons (Rw.one hr106) (all_cons rfl (all_cons (Rw.one hr109) (all_cons rfl (all_cons rfl all_nil)))))) (over_all rfl) ?_
 refine W_end (E_then (C_seq (C_region ?_)))
 refine W_loadAgg rfl rfl isAgg29 sizeOf29 rfl (own_all (List.mem_cons_self ..)) rfl ?_
 refine W_buildSliceO (α := ByteArray) (css := [[.string (⟨#[71]⟩)]]) (zs := [.string (⟨#[]⟩)]) (out := [.string (⟨#[71]⟩)]) (ys := [(⟨#[71]⟩)]) rfl rfl rfl ⟨rfl, trivial⟩ runUnderlying22 sizeOf9 rfl zeroValue9 (by kernel_rfl) rfl rfl rfl rfl ⟨[.string (⟨#[71]⟩)], [], rfl, rfl, rfl⟩ rfl ?_
 intro v111 xs112 hr113
 refine W_perm (List.Perm.trans (List.Perm.cons _ (List.Perm.cons _ (List.Perm.cons _ (List.Perm.swap _ _ _)))) (List.Perm.trans (List.Perm.cons _ (List.Perm.cons _ (List.Perm.swap _ _ _))) (List.Perm.trans (List.Perm.cons _ (List.Perm.swap _ _ _)) (List.Perm.swap _ _ _)))) ?_
 refine W_freeze (hr103).rd rfl (fun H114 hle115 h116 => ?_)
 refine W_perm (List.Perm.trans (List.Perm.cons _ (List.Perm.cons _ (List.Perm.swap _ _ _))) (List.Perm.trans (List.Perm.cons _ (List.Perm.swap _ _ _)) (List.Perm.swap _ _ _))) ?_
 refine W_freeze ((hr106.mono hle115)).rd rfl (fun H117 hle118 h119 => ?_)
 refine W_perm (List.Perm.trans (List.Perm.cons _ (List.Perm.swap _ _ _)) (List.Perm.swap _ _ _)) ?_
 refine W_freeze (((hr109.mono hle115).mono hle118)).rd rfl (fun H120 hle121 h122 => ?_)
 refine W_freeze ((((hr113.mono hle115).mono hle118).mono hle121)).rd rfl (fun H123 hle124 h125 => ?_)
 obtain ⟨r126, hc127, hm⟩ := bind_some hm
 refine W_call call7 rfl rfl rfl (fun w ht => by have h := m_blackstart_Plan_c (hm := hc127) (((h116.mono hle118).mono hle121).mono hle124) ((h119.mono hle121).mono hle124) RdS.nil (h122.mono hle124) RdS.nil RdS.nil h125 ht; exact h) ?_
 rintro _ H131 _ ⟨hle132, v128, xs129, rfl, rfl, h130⟩
 refine W_move rfl rfl rfl ?_
 refine W_extract rfl rfl rfl rfl ?_
 refine W_extract rfl rfl rfl rfl ?_
 refine W_assign rfl rfl rfl ?_
 refine W_assign rfl rfl rfl ?_
 refine W_end (E_then (C_seq (C_region ?_)))
 refine W_move rfl rfl rfl ?_
 refine W_bin rfl rfl rfl rfl rfl ?_
 refine W_move rfl rfl rfl ?_
 cases hb133 : (decide (r126.2 = 0))
 ·have hm := ite_f' hb133 hm
  refine W_no rfl rfl rfl ?_
  refine W_no rfl rfl rfl ?_
  refine W_no rfl rfl rfl ?_
  refine W_pick rfl rfl rfl rfl ?_
  refine W_move rfl rfl rfl ?_
  refine W_no rfl rfl rfl ?_
  refine W_no rfl rfl rfl ?_
  refine W_no rfl rfl rfl ?_
  refine W_no rfl rfl rfl ?_
  refine W_no rfl rfl rfl ?_
  refine W_pick rfl rfl rfl rfl ?_
  refine W_move rfl rfl rfl ?_
  refine W_no rfl rfl rfl ?_
  refine W_no rfl rfl rfl ?_
  refine W_no rfl rfl rfl ?_
  refine W_no rfl rfl rfl ?_
  refine W_no rfl rfl rfl ?_
  refine W_no rfl rfl rfl ?_
  refine W_pick rfl rfl rfl rfl ?_
  refine W_assign rfl rfl rfl ?_
  refine W_end (E_then (C_ret ?_))
  obtain rfl := Option.some.inj hm
  refine E_drop (List.Sublist.cons _ (List.Sublist.cons _ (List.Sublist.refl _))) ?_
  refine E_weak (Hp.le_trans (Hp.le_trans (Hp.le_trans (Hp.le_trans hle115 hle118) hle121) hle124) hle132) ?_
  exact end1 rfl rfl ⟨rfl, rfl, rfl⟩
 ·have hm := ite_t' hb133 hm
  refine W_move rfl rfl rfl ?_
  refine W_lenO (List.mem_cons_self ..) rfl rfl runUnderlying31 rfl ?_
  refine W_bin rfl rfl rfl rfl rfl ?_
  refine W_pick rfl rfl rfl rfl ?_
  refine W_move rfl rfl rfl ?_
  cases hb134 : (decide ((r126.1.length : Int) = 1))
  ·have hm := ite_f' hb134 hm
   refine W_no rfl rfl rfl ?_
   refine W_no rfl rfl rfl ?_
   refine W_no rfl rfl rfl ?_
   refine W_no rfl rfl rfl ?_
   refine W_no rfl rfl rfl ?_
   refine W_pick rfl rfl rfl rfl ?_
   refine W_move rfl rfl rfl ?_
   refine W_no rfl rfl rfl ?_
   refine W_no rfl rfl rfl ?_
   refine W_no rfl rfl rfl ?_
   refine W_no rfl rfl rfl ?_
   refine W_no rfl rfl rfl ?_
   refine W_no rfl rfl rfl ?_
   refine W_pick rfl rfl rfl rfl ?_
   refine W_assign rfl rfl rfl ?_
   refine W_end (E_then (C_ret ?_))
   obtain rfl := Option.some.inj hm
   refine E_drop (List.Sublist.cons _ (List.Sublist.cons _ (List.Sublist.refl _))) ?_
   refine E_weak (Hp.le_trans (Hp.le_trans (Hp.le_trans (Hp.le_trans hle115 hle118) hle121) hle124) hle132) ?_
   exact end1 rfl rfl ⟨rfl, rfl, rfl⟩
  ·have hm := ite_t' hb134 hm
   refine W_move rfl rfl rfl ?_
   obtain ⟨y135, h136, he137, hm⟩ := idx_some hm
   refine W_indexO (List.mem_cons_self ..) rfl rfl runUnderlying31 sizeOf38 rfl rfl h136 (List.getElem?_eq_some_iff.1 he137).1 ?_
   obtain ⟨_, ⟨v139, rfl, h140⟩, hg138⟩ := (h130).elem he137
   refine W_field (o := 0) rfl rfl runUnderlying38 rfl sizeOf9 rfl rfl rfl ?_
   refine W_load rfl rfl isAgg9 rfl (row_one0 (List.mem_cons_self ..) hg138 rfl) ?_
   refine W_bin rfl rfl rfl rfl rfl ?_
   refine W_pick rfl rfl rfl rfl ?_
   refine W_move rfl rfl rfl ?_
   cases hb141 : (decide (y135.Gen = (⟨#[72]⟩)))
   ·have hm := ite_f' hb141 hm
    refine W_no rfl rfl rfl ?_
    refine W_no rfl rfl rfl ?_
    refine W_no rfl rfl rfl ?_
    refine W_no rfl rfl rfl ?_
    refine W_no rfl rfl rfl ?_
    refine W_no rfl rfl rfl ?_
    refine W_pick rfl rfl rfl rfl ?_
    refine W_assign rfl rfl rfl ?_
    refine W_end (E_then (C_ret ?_))
    obtain rfl := Option.some.inj hm
    refine E_drop (List.Sublist.cons _ (List.Sublist.cons _ (List.Sublist.refl _))) ?_
    refine E_weak (Hp.le_trans (Hp.le_trans (Hp.le_trans (Hp.le_trans hle115 hle118) hle121) hle124) hle132) ?_
    exact end1 rfl rfl ⟨rfl, rfl, rfl⟩
   ·have hm := ite_t' hb141 hm
    refine W_move rfl rfl rfl ?_
    obtain ⟨y142, h143, he144, hm⟩ := idx_some hm
    refine W_indexO (List.mem_cons_self ..) rfl rfl runUnderlying31 sizeOf38 rfl rfl h143 (List.getElem?_eq_some_iff.1 he144).1 ?_
    obtain ⟨_, ⟨v146, rfl, h147⟩, hg145⟩ := (h130).elem he144
    refine W_field (o := 1) rfl rfl runUnderlying38 rfl sizeOf22 rfl rfl rfl ?_
    refine W_load rfl rfl isAgg22 rfl (row_one (o := 1) (List.mem_cons_self ..) hg145 rfl) ?_
    refine W_buildSliceO (α := ByteArray) (css := [[.string (⟨#[83]⟩)]]) (zs := [.string (⟨#[]⟩)]) (out := [.string (⟨#[83]⟩)]) (ys := [(⟨#[83]⟩)]) rfl rfl rfl ⟨rfl, trivial⟩ runUnderlying22 sizeOf9 rfl zeroValue9 (by kernel_rfl) rfl rfl rfl rfl ⟨[.string (⟨#[83]⟩)], [], rfl, rfl, rfl⟩ rfl ?_
    intro v148 xs149 hr150
    obtain ⟨r151, hc152, hm⟩ := bind_some hm
    refine W_call call28 rfl rfl rfl (fun w ht => by obtain ⟨H0_, hl0_, ht0_, hr0_, bk0_⟩ := ht.lendRow hr150 rfl; have h := m_slices_Equal_string_string_c (hm := hc152) (h147.mono hl0_) hr0_ ht0_; exact lend_back bk0_ (h)) ?_
    rintro _ _ _ ⟨rfl, ⟨_, rfl, rfl, rfl⟩⟩
    refine W_pick rfl rfl rfl rfl ?_
    refine W_assign rfl rfl rfl ?_
    refine W_end (E_then (C_ret ?_))
    obtain rfl := Option.some.inj hm
    refine E_drop (List.Sublist.cons _ (List.Sublist.cons _ (List.Sublist.cons _ (List.Sublist.refl _)))) ?_
    refine E_weak (Hp.le_trans (Hp.le_trans (Hp.le_trans (Hp.le_trans hle115 hle118) hle121) hle124) hle132) ?_
    exact end1 rfl rfl ⟨rfl, rfl, rfl⟩

theorem m_gridhallref4_Cut_c {B : Nat} {w0 w : World} {H : Hp} {M : List Res} {p0_n : Int} {p1_low : Int} {p2_high : Int} {r : Int} (hm : m_gridhallref4_Cut p0_n p1_low p2_high = some r) (ht : St B w0 H (M) w) :
  Calls prog 9 [.int .i64 (p0_n), .int .i64 (p1_low), .int .i64 (p2_high)].toArray w (Ret B w0 fun H' M' v => H = H' ∧ M = M' ∧ .int .i64 (r) = v) := by
 unfold m_gridhallref4_Cut at hm
 refine enter func9 rfl rfl rfl ht ?_
 refine C_seq (C_region ?_)
 refine W_assign rfl rfl rfl ?_
 refine W_end (E_then (C_seq (C_region ?_)))
 refine W_move rfl rfl rfl ?_
 refine W_move rfl rfl rfl ?_
 refine W_bin rfl rfl rfl rfl rfl ?_
 refine W_bin rfl rfl rfl rfl rfl ?_
 refine W_assign rfl rfl rfl ?_
 refine W_end (E_then (C_seq (C_region ?_)))
 refine W_move rfl rfl rfl ?_
 refine W_move rfl rfl rfl ?_
 obtain ⟨hq101, hm⟩ := need_some hm
 refine W_rem rfl rfl rfl rfl hq101 ?_
 refine W_assign rfl rfl rfl ?_
 refine W_end (E_then ?_)
 refine C_seq_join (fun H' M' L' => ∃ n103 : Int, m_gridhallref4_Cut_b1 p1_low n103 = some r ∧ H = H' ∧ M = M' ∧ [(0, .int .i64 (n103)), (1, .int .i64 (p1_low))] = L') ?_ (fun J104 => ?_)
 ·rintro _ _ _ ⟨n103, hm, rfl, rfl, rfl⟩
  unfold m_gridhallref4_Cut_b1 at hm
  refine C_seq (C_region ?_)
  refine W_move rfl rfl rfl ?_
  refine W_move rfl rfl rfl ?_
  refine W_bin rfl rfl rfl rfl rfl ?_
  refine W_assign rfl rfl rfl ?_
  refine W_end (E_then (C_ret ?_))
  obtain rfl := Option.some.inj hm
  refine E_weak (Hp.le_refl _) ?_
  exact end1 rfl rfl ⟨rfl, rfl, rfl⟩
 ·refine C_seq (C_region ?_)
  refine W_move rfl rfl rfl ?_
  refine W_bin rfl rfl rfl rfl rfl ?_
  refine W_end (E_then ?_)
  refine C_cond (b := decide ((Int.tmod p0_n (IntKind.i64.wrap ((IntKind.i64.wrap (p2_high - p1_low)) + 1))) < 0)) rfl (fun hb105 => ?_) (fun hb105 => ?_)
  ·have hm := ite_t' hb105 hm
   refine C_region ?_
   refine W_move rfl rfl rfl ?_
   refine W_move rfl rfl rfl ?_
   refine W_bin rfl rfl rfl rfl rfl ?_
   refine W_assign rfl rfl rfl ?_
   refine W_end ?_
   exact E_keepJ (J104 _ _ _ ⟨IntKind.i64.wrap ((Int.tmod p0_n (IntKind.i64.wrap ((IntKind.i64.wrap (p2_high - p1_low)) + 1))) + (IntKind.i64.wrap ((IntKind.i64.wrap (p2_high - p1_low)) + 1))), hm, rfl, rfl, rfl⟩) (List.Perm.refl _) ⟨rfl, rfl, trivial⟩
  ·have hm := ite_f' hb105 hm
   refine C_skip ?_
   exact E_keepJ (J104 _ _ _ ⟨Int.tmod p0_n (IntKind.i64.wrap ((IntKind.i64.wrap (p2_high - p1_low)) + 1)), hm, rfl, rfl, rfl⟩) (List.Perm.refl _) ⟨rfl, rfl, trivial⟩

theorem m_blackstart_perform_1_c {B : Nat} {w0 w : World} {H : Hp} {M : List Res} {p0_x : S_api_Switch} {p1_c1 : ByteArray} {b0 : Nat} {r : Bool} (hm : m_blackstart_perform_1 p0_x p1_c1 = r) (ht : St B w0 H (.obj b0 (.cells ([.string (p1_c1)] : List Value).toArray 9 (0, 0)) :: M) w) :
  Calls prog 48 [.agg [.string (p0_x.Name), .string (p0_x.A), .string (p0_x.B_), .bool (p0_x.Breaker), .bool (p0_x.Open)].toArray, .pointer (some ⟨b0, 0, none⟩)].toArray w (Ret B w0 fun H' M' v => H = H' ∧ .obj b0 (.cells ([.string (p1_c1)] : List Value).toArray 9 (0, 0)) :: M = M' ∧ .bool (r) = v) := by
 unfold m_blackstart_perform_1 at hm
 refine enter func48 rfl rfl rfl ht ?_
 refine C_seq (C_region ?_)
 refine W_box (cs := [.string (p0_x.Name), .string (p0_x.A), .string (p0_x.B_), .bool (p0_x.Breaker), .bool (p0_x.Open)]) rfl rfl rfl rfl (fun b101 => ?_)
 refine W_assign rfl rfl rfl ?_
 refine W_end (E_then (C_seq (C_region ?_)))
 refine W_field (o := 0) rfl rfl runUnderlying70 rfl sizeOf9 rfl rfl rfl ?_
 refine W_load rfl rfl isAgg9 rfl (own_at (List.mem_cons_self ..) rfl) ?_
 refine W_load rfl rfl isAgg9 rfl (own_at (List.mem_cons_of_mem _ (List.mem_cons_self ..)) rfl) ?_
 refine W_bin rfl rfl rfl rfl rfl ?_
 refine W_assign rfl rfl rfl ?_
 refine W_end (E_then (C_ret ?_))
 obtain rfl := hm
 refine E_drop (List.Sublist.cons _ (List.Sublist.refl _)) ?_
 refine E_weak (Hp.le_refl _) ?_
 exact end1 rfl rfl ⟨rfl, rfl, rfl⟩

theorem m_slices_IndexFunc_api_Switch_api_Switch__blackstart_perform_1_c {B : Nat} {w0 w : World} {H : Hp} {M : List Res} {p0_s : (List S_api_Switch)} {p1_f_0 : ByteArray} {v0 : Value} {b0 : Nat} {r : Int} (hm : m_slices_IndexFunc_api_Switch_api_Switch__blackstart_perform_1 p0_s p1_f_0 = some r) (h0 : RdS H v0 p0_s) (ht : St B w0 H (.obj b0 (.cells ([.string (p1_f_0)] : List Value).toArray 9 (0, 0)) :: M) w) :
  Calls prog 46 [v0, .func (.func 48) [].toArray [.pointer (some ⟨b0, 0, none⟩)].toArray].toArray w (Ret B w0 fun H' M' v => H = H' ∧ .obj b0 (.cells ([.string (p1_f_0)] : List Value).toArray 9 (0, 0)) :: M = M' ∧ .int .i64 (r) = v) := by
 unfold m_slices_IndexFunc_api_Switch_api_Switch__blackstart_perform_1 at hm
 refine enter func46 rfl rfl rfl ht ?_
 refine C_seq (C_region ?_)
 refine W_assign rfl rfl rfl ?_
 refine W_end (E_then (C_seq (C_seq (C_region ?_))))
 refine W_move rfl rfl rfl ?_
 refine W_lenR rfl rfl runUnderlying23 rfl h0 ?_
 refine W_move rfl rfl rfl ?_
 refine W_end (E_then (C_block ?_))
 refine C_keep (L' := [(0, v0), (1, .func (.func 48) [].toArray [.pointer (some ⟨b0, 0, none⟩)].toArray), (7, .int .i64 ((p0_s.length : Int))), (8, .int .i64 (((0 : Nat) : Int)))]) ⟨rfl, rfl, rfl, rfl, trivial⟩ (List.Perm.refl _) ?_
 refine C_loop (fun n H' M' L' => ∃ (k101 : Nat) (zs119' : Nat), k101 + zs119' = ((p0_s.length : Int) : Int).toNat ∧ zs119' = n ∧ forN (fun k s114 n => m_slices_IndexFunc_api_Switch_api_Switch__blackstart_perform_1_b1 p0_s p1_f_0 k n) (fun _ => some (-1)) zs119' k101 () = some r ∧ H.le H' ∧ .obj b0 (.cells ([.string (p1_f_0)] : List Value).toArray 9 (0, 0)) :: M = M' ∧ [(0, v0), (1, .func (.func 48) [].toArray [.pointer (some ⟨b0, 0, none⟩)].toArray), (7, .int .i64 ((p0_s.length : Int))), (8, .int .i64 ((k101 : Int)))] = L') _ ⟨0, _, Nat.zero_add _, rfl, hm, (Hp.le_refl _), rfl, rfl⟩ ?_
 rintro _ H112 _ _ ⟨k101, zs119', hd121, rfl, hm, hle113, rfl, rfl⟩
 refine C_seq (C_region ?_)
 refine W_bin rfl rfl rfl rfl rfl ?_
 refine W_end (E_then (C_seq ?_))
 refine C_cond (b := decide ((k101 : Int) < (p0_s.length : Int))) rfl (fun hb123 => ?_) (fun hb123 => ?_)
 ·obtain ⟨zs119, rfl, hd122, hy120⟩ := rngN_t hd121 hb123
  have hm : m_slices_IndexFunc_api_Switch_api_Switch__blackstart_perform_1_b1 p0_s p1_f_0 k101 (forN (fun k s114 n => m_slices_IndexFunc_api_Switch_api_Switch__blackstart_perform_1_b1 p0_s p1_f_0 k n) (fun _ => some (-1)) zs119 (k101 + 1)) = some r := hm
  generalize hn116 : forN (fun k s114 n => m_slices_IndexFunc_api_Switch_api_Switch__blackstart_perform_1_b1 p0_s p1_f_0 k n) (fun _ => some (-1)) zs119 (k101 + 1) = nx115 at hm
  unfold m_slices_IndexFunc_api_Switch_api_Switch__blackstart_perform_1_b1 at hm
  refine C_skip (E_then (C_seq (C_block (C_seq (C_region ?_)))))
  refine W_move rfl rfl rfl ?_
  refine W_assign rfl rfl rfl ?_
  refine W_end (E_then (C_seq (C_region ?_)))
  refine W_move rfl rfl rfl ?_
  refine W_move rfl rfl rfl ?_
  refine W_move rfl rfl rfl ?_
  obtain ⟨y124, h125, he126, hm⟩ := idx_some hm
  obtain ⟨_, ⟨rfl⟩, hc127⟩ := (h0).elem he126
  refine W_indexS rfl rfl runUnderlying23 sizeOf70 rfl (h0.mono hle113) rfl h125 he126 ?_
  refine W_loadAgg rfl rfl isAgg70 sizeOf70 rfl (hc127.mono hle113).at rfl ?_
  refine W_callv call48 rfl rfl rfl rfl (fun w ht => by have h := m_blackstart_perform_1_c (hm := (rfl : m_blackstart_perform_1 y124 p1_f_0 = _))  ht; exact h) ?_
  rintro _ _ _ ⟨rfl, rfl, rfl⟩
  refine W_end (E_then ?_)
  refine C_cond (b := (m_blackstart_perform_1 y124 p1_f_0)) rfl (fun hb128 => ?_) (fun hb128 => ?_)
  ·have hm := ite_t' hb128 hm
   refine C_seq (C_region ?_)
   refine W_move rfl rfl rfl ?_
   refine W_assign rfl rfl rfl ?_
   refine W_end (E_then (C_ret (E_ret_block (E_ret_then (E_ret_then (E_ret_block (E_ret_then ?_)))))))
   obtain rfl := Option.some.inj hm
   refine E_weak hle113 ?_
   exact end1 rfl rfl ⟨rfl, rfl, rfl⟩
  ·have hm := ite_f' hb128 hm
   refine C_skip (E_normal_block (E_then (C_region ?_)))
   refine W_bin rfl rfl rfl rfl rfl ?_
   refine W_move rfl rfl rfl ?_
   refine W_end ?_
   exact E_keepJ (E_back (Nat.lt_succ_self _) ⟨k101 + 1, zs119, hd122, rfl, (by rw [hn116]; exact hm), hle113, rfl, rfl⟩) (List.Perm.refl _) ⟨rfl, rfl, rfl, (congrArg (fun z => some (Value.int .i64 z)) (i64_succN hy120 (toNat_max (len_max (h0).lenMax)))), trivial⟩
 ·obtain rfl := rngN_f hd121 hb123
  have hm : (some (-1)) = some r := hm
  refine C_exit (E_exit_then (E_exit_then (E_exit_hit (E_then (C_seq (C_region ?_))))))
  refine W_assign rfl rfl rfl ?_
  refine W_end (E_then (C_ret ?_))
  obtain rfl := Option.some.inj hm
  refine E_weak hle113 ?_
  exact end1 rfl rfl ⟨rfl, rfl, rfl⟩

theorem m_blackstart_perform_2_c {B : Nat} {w0 w : World} {H : Hp} {M : List Res} {gen : Int} {p1_c1 : (List Int)} {p2_c2 : S_api_Network} {b0 : Nat} {v0 : Value} {b2 : Nat} {b1 : Nat} {v1 : Value} {v2 : Value} {xs0 : List Value} {v3 : Value} {v4 : Value} {v5 : Value} {v6 : Value} {r : Int} (hm : m_blackstart_perform_2 gen p1_c1 p2_c2 = some r) (h0 : RdS H v0 p1_c1) (h1 : RdS H v1 p2_c2.Nodes) (h2 : Rw H v2 xs0 p2_c2.Switches) (h3 : RdS H v3 p2_c2.Branches) (h4 : RdS H v4 p2_c2.Gens) (h5 : RdS H v5 p2_c2.Loads) (h6 : RdS H v6 p2_c2.Stores) (ht : St B w0 H (.obj b0 (.cells [v0].toArray 42 (0, 0)) :: .obj b2 (.cells ([.pointer (some ⟨b1, 0, none⟩)] : List Value).toArray 68 (0, 0)) :: .obj b1 (.cells [v1, v2, v3, v4, v5, v6].toArray 29 (0, 0)) :: .row v2 70 (Rep.sz S_api_Switch) p2_c2.Switches.length xs0 :: M) w) :
  Calls prog 49 [.int .i64 (gen), .pointer (some ⟨b0, 0, none⟩), .pointer (some ⟨b2, 0, none⟩)].toArray w (Ret B w0 fun H' M' v => H = H' ∧ .obj b0 (.cells [v0].toArray 42 (0, 0)) :: .obj b2 (.cells ([.pointer (some ⟨b1, 0, none⟩)] : List Value).toArray 68 (0, 0)) :: .obj b1 (.cells [v1, v2, v3, v4, v5, v6].toArray 29 (0, 0)) :: .row v2 70 (Rep.sz S_api_Switch) p2_c2.Switches.length xs0 :: M = M' ∧ .int .i64 (r) = v) := by
 unfold m_blackstart_perform_2 at hm
 refine enter func49 rfl rfl rfl ht ?_
 refine C_seq (C_region ?_)
 refine W_assign rfl rfl rfl ?_
 refine W_end (E_then (C_seq ?_))
 obtain ⟨y101, h102, he103, hm⟩ := idx_some hm
 obtain ⟨_, ⟨rfl⟩, hc104⟩ := (h4).elem he103
 obtain ⟨r105, hc106, hm⟩ := bind_some hm
 refine C_region_tok0 14 (phiT [(fun H rs v => [] = rs ∧ v0 = v), (fun H rs v => [] = rs ∧ .pointer (some ⟨b1, 0, none⟩) = v), (fun H rs v => [] = rs ∧ .pointer (some ⟨b1, 0, none⟩) = v), (fun H rs v => [] = rs ∧ .pointer (some ⟨b1, 0, none⟩) = v), (fun H rs v => [] = rs ∧ v1 = v), (fun H rs v => [] = rs ∧ .pointer (some ⟨b1, 0, none⟩) = v), (fun H rs v => [] = rs ∧ .pointer (some ⟨b1, 0, none⟩) = v), (fun H rs v => [] = rs ∧ .pointer (some ⟨b1, 3, none⟩) = v), (fun H rs v => [] = rs ∧ v4 = v), (fun H rs v => [] = rs ∧ .int .i64 (gen) = v), (fun H rs v => [] = rs ∧ .pointer (some ((Value.base (v4)).add ((gen : Int).toNat * 5))) = v), (fun H rs v => [] = rs ∧ .pointer (some (((Value.base (v4)).add ((gen : Int).toNat * 5)).add 1)) = v), (fun H rs v => [] = rs ∧ .string (y101.Node) = v), (fun H rs v => [] = rs ∧ .int .i64 (r105) = v)]) [[], [], [], [], [], [], [], [], [], [], [], [], [], []] [[], [], [], [], [], [], [], [], [], [], [], [], [], []] [] [0, 1, 2, 3, 4, 5, 6, 7, 8, 9, 10, 11, 12, 13] Facts.mixed (by kernel_rfl) (by rfl) (by rfl) (by rfl) (by kernel_rfl) (phiT_mono ⟨eq_monoT _ _, eq_monoT _ _, eq_monoT _ _, eq_monoT _ _, eq_monoT _ _, eq_monoT _ _, eq_monoT _ _, eq_monoT _ _, eq_monoT _ _, eq_monoT _ _, eq_monoT _ _, eq_monoT _ _, eq_monoT _ _, eq_monoT _ _, trivial⟩) ⟨?_, ?_, ?_, ?_, ?_, ?_, ?_, ?_, ?_, ?_, ?_, ?_, ?_, ?_, trivial⟩ ?_
 ·intro HX hX X Rest hR
  intro hU hUp
  refine W_load rfl rfl isAgg42 rfl (own_at (hR _ (List.mem_cons_self ..)) rfl) ?_
  exact W_end (OneT_end [] (Hp.le_refl _) ⟨rfl, rfl⟩)
 ·intro HX hX X Rest hR
  intro hU hUp
  refine W_load rfl rfl isAgg68 rfl (own_at (hR _ (List.mem_cons_of_mem _ (List.mem_cons_self ..))) rfl) ?_
  exact W_end (OneT_end [] (Hp.le_refl _) ⟨rfl, rfl⟩)
 ·intro HX hX X Rest hR
  rintro _ _ ⟨rfl, rfl⟩
  intro hU hUp
  refine W_nilCheck rfl rfl rfl ?_
  exact W_end (OneT_end [] (Hp.le_refl _) ⟨rfl, rfl⟩)
 ·intro HX hX X Rest hR
  rintro _ _ ⟨rfl, rfl⟩
  intro hU hUp
  refine W_field (o := 0) rfl rfl runUnderlying29 rfl sizeOf22 rfl rfl rfl ?_
  exact W_end (OneT_end [] (Hp.le_refl _) ⟨rfl, rfl⟩)
 ·intro HX hX X Rest hR
  rintro _ _ ⟨rfl, rfl⟩
  intro hU hUp
  refine W_load rfl rfl isAgg22 rfl (own_at (hR _ (List.mem_cons_of_mem _ (List.mem_cons_of_mem _ (List.mem_cons_self ..)))) rfl) ?_
  exact W_end (OneT_end [] (Hp.le_refl _) ⟨rfl, rfl⟩)
 ·intro HX hX X Rest hR
  intro hU hUp
  refine W_load rfl rfl isAgg68 rfl (own_at (hR _ (List.mem_cons_of_mem _ (List.mem_cons_self ..))) rfl) ?_
  exact W_end (OneT_end [] (Hp.le_refl _) ⟨rfl, rfl⟩)
 ·intro HX hX X Rest hR
  rintro _ _ ⟨rfl, rfl⟩
  intro hU hUp
  refine W_nilCheck rfl rfl rfl ?_
  exact W_end (OneT_end [] (Hp.le_refl _) ⟨rfl, rfl⟩)
 ·intro HX hX X Rest hR
  rintro _ _ ⟨rfl, rfl⟩
  intro hU hUp
  refine W_field (o := 3) rfl rfl runUnderlying29 rfl sizeOf25 rfl rfl rfl ?_
  exact W_end (OneT_end [] (Hp.le_refl _) ⟨rfl, rfl⟩)
 ·intro HX hX X Rest hR
  rintro _ _ ⟨rfl, rfl⟩
  intro hU hUp
  refine W_load rfl rfl isAgg25 rfl (own_at (hR _ (List.mem_cons_of_mem _ (List.mem_cons_of_mem _ (List.mem_cons_self ..)))) rfl) ?_
  exact W_end (OneT_end [] (Hp.le_refl _) ⟨rfl, rfl⟩)
 ·intro HX hX X Rest hR
  intro hU hUp
  refine W_move rfl rfl rfl ?_
  exact W_end (OneT_end [] (Hp.le_refl _) ⟨rfl, rfl⟩)
 ·intro HX hX X Rest hR
  rintro _ _ ⟨rfl, rfl⟩
  rintro _ _ ⟨rfl, rfl⟩
  intro hU hUp
  refine W_indexS rfl rfl runUnderlying25 sizeOf46 rfl (h4.mono hX) rfl h102 he103 ?_
  exact W_end (OneT_end [] (Hp.le_refl _) ⟨rfl, rfl⟩)
 ·intro HX hX X Rest hR
  rintro _ _ ⟨rfl, rfl⟩
  intro hU hUp
  refine W_field (o := 1) rfl rfl runUnderlying46 rfl sizeOf9 rfl rfl rfl ?_
  exact W_end (OneT_end [] (Hp.le_refl _) ⟨rfl, rfl⟩)
 ·intro HX hX X Rest hR
  rintro _ _ ⟨rfl, rfl⟩
  intro hU hUp
  refine W_load rfl rfl isAgg9 rfl (HCells.one (hc104.mono hX) 1 rfl).at ?_
  exact W_end (OneT_end [] (Hp.le_refl _) ⟨rfl, rfl⟩)
 ·intro HX hX X Rest hR
  rintro _ _ ⟨rfl, rfl⟩
  rintro _ _ ⟨rfl, rfl⟩
  intro hU hUp
  refine W_call call31 rfl rfl rfl (fun w ht => by have h := m_slices_Index_string_string_c (hm := hc106) (h1.mono hX) ht; exact h) ?_
  rintro _ _ _ ⟨rfl, rfl, rfl⟩
  exact W_end (OneT_end [] (Hp.le_refl _) ⟨rfl, rfl⟩)
 intro H107 hle108
 rintro _ _ ⟨rfl, rfl⟩
 rintro _ _ ⟨rfl, rfl⟩
 rintro _ _ ⟨rfl, rfl⟩
 rintro _ _ ⟨rfl, rfl⟩
 rintro _ _ ⟨rfl, rfl⟩
 rintro _ _ ⟨rfl, rfl⟩
 rintro _ _ ⟨rfl, rfl⟩
 rintro _ _ ⟨rfl, rfl⟩
 rintro _ _ ⟨rfl, rfl⟩
 rintro _ _ ⟨rfl, rfl⟩
 rintro _ _ ⟨rfl, rfl⟩
 rintro _ _ ⟨rfl, rfl⟩
 rintro _ _ ⟨rfl, rfl⟩
 rintro _ _ ⟨rfl, rfl⟩
 obtain ⟨y109, h110, he111, hm⟩ := idx_some hm
 obtain ⟨_, rfl, hc112⟩ := (h0).elem he111
 refine W_indexS rfl rfl runUnderlying42 sizeOf3 rfl (h0.mono hle108) rfl h110 he111 ?_
 refine W_load rfl rfl isAgg3 rfl (HCells.one (hc112.mono hle108) 0 rfl).at ?_
 refine W_assign rfl rfl rfl ?_
 refine W_end (E_then (C_ret ?_))
 obtain rfl := Option.some.inj hm
 refine E_weak hle108 ?_
 exact end1 rfl rfl ⟨rfl, rfl, rfl⟩

theorem m_blackstart_perform_3S3_c {B : Nat} {w0 w : World} {H : Hp} {M : List Res} {p0_r : ByteArray} {p1_c1_0 : (List Int)} {p1_c1_1 : S_api_Network} {p3_c3 : Int} {b0 : Nat} {b1 : Nat} {v0 : Value} {b3 : Nat} {b2 : Nat} {v1 : Value} {v2 : Value} {xs0 : List Value} {v3 : Value} {v4 : Value} {v5 : Value} {v6 : Value} {b4 : Nat} {r : Bool} (hm : m_blackstart_perform_3S3 p0_r p1_c1_0 p1_c1_1 p3_c3 = some r) (h0 : RdS H v0 p1_c1_0) (h1 : RdS H v1 p1_c1_1.Nodes) (h2 : Rw H v2 xs0 p1_c1_1.Switches) (h3 : RdS H v3 p1_c1_1.Branches) (h4 : RdS H v4 p1_c1_1.Gens) (h5 : RdS H v5 p1_c1_1.Loads) (h6 : RdS H v6 p1_c1_1.Stores) (ht : St B w0 H (.obj b0 (.cells ([.func (.func 49) [].toArray [.pointer (some ⟨b1, 0, none⟩), .pointer (some ⟨b3, 0, none⟩)].toArray] : List Value).toArray 104 (0, 0)) :: .obj b1 (.cells [v0].toArray 42 (0, 0)) :: .obj b3 (.cells ([.pointer (some ⟨b2, 0, none⟩)] : List Value).toArray 68 (0, 0)) :: .obj b2 (.cells [v1, v2, v3, v4, v5, v6].toArray 29 (0, 0)) :: .row v2 70 (Rep.sz S_api_Switch) p1_c1_1.Switches.length xs0 :: .obj b4 (.cells ([.int .i64 (p3_c3)] : List Value).toArray 3 (0, 0)) :: M) w) :
  Calls prog 50 [.string (p0_r), .pointer (some ⟨b0, 0, none⟩), .pointer (some ⟨b3, 0, none⟩), .pointer (some ⟨b4, 0, none⟩)].toArray w (Ret B w0 fun H' M' v => H = H' ∧ .obj b0 (.cells ([.func (.func 49) [].toArray [.pointer (some ⟨b1, 0, none⟩), .pointer (some ⟨b3, 0, none⟩)].toArray] : List Value).toArray 104 (0, 0)) :: .obj b1 (.cells [v0].toArray 42 (0, 0)) :: .obj b3 (.cells ([.pointer (some ⟨b2, 0, none⟩)] : List Value).toArray 68 (0, 0)) :: .obj b2 (.cells [v1, v2, v3, v4, v5, v6].toArray 29 (0, 0)) :: .row v2 70 (Rep.sz S_api_Switch) p1_c1_1.Switches.length xs0 :: .obj b4 (.cells ([.int .i64 (p3_c3)] : List Value).toArray 3 (0, 0)) :: M = M' ∧ .bool (r) = v) := by
 unfold m_blackstart_perform_3S3 at hm
 refine enter func50 rfl rfl rfl ht ?_
 refine C_seq (C_region ?_)
 refine W_assign rfl rfl rfl ?_
 refine W_end (E_then (C_seq ?_))
 obtain ⟨r101, hc102, hm⟩ := bind_some hm
 obtain ⟨r103, hc104, hm⟩ := bind_some hm
 refine C_perm (List.Perm.trans (List.Perm.cons _ (List.Perm.cons _ (List.Perm.cons _ (List.Perm.swap _ _ _)))) (List.Perm.trans (List.Perm.cons _ (List.Perm.cons _ (List.Perm.swap _ _ _))) (List.Perm.trans (List.Perm.cons _ (List.Perm.swap _ _ _)) (List.Perm.trans (List.Perm.swap _ _ _) (List.Perm.trans (List.Perm.cons _ (List.Perm.swap _ _ _)) (List.Perm.trans (List.Perm.cons _ (List.Perm.cons _ (List.Perm.swap _ _ _))) (List.Perm.cons _ (List.Perm.cons _ (List.Perm.cons _ (List.Perm.swap _ _ _)))))))))) ?_
 refine C_as (M' := [[.row v2 70 (Rep.sz S_api_Switch) p1_c1_1.Switches.length xs0], [.obj b1 (.cells [v0].toArray 42 (0, 0))], [.obj b3 (.cells ([.pointer (some ⟨b2, 0, none⟩)] : List Value).toArray 68 (0, 0))], [.obj b2 (.cells [v1, v2, v3, v4, v5, v6].toArray 29 (0, 0))]].flatten ++ (.obj b0 (.cells ([.func (.func 49) [].toArray [.pointer (some ⟨b1, 0, none⟩), .pointer (some ⟨b3, 0, none⟩)].toArray] : List Value).toArray 104 (0, 0)) :: .obj b4 (.cells ([.int .i64 (p3_c3)] : List Value).toArray 3 (0, 0)) :: M)) rfl ?_
 refine C_region_tok0 9 (phiT [(fun H rs v => [] = rs ∧ .func (.func 49) [].toArray [.pointer (some ⟨b1, 0, none⟩), .pointer (some ⟨b3, 0, none⟩)].toArray = v), (fun H rs v => [] = rs ∧ .pointer (some ⟨b2, 0, none⟩) = v), (fun H rs v => [] = rs ∧ .pointer (some ⟨b2, 0, none⟩) = v), (fun H rs v => [] = rs ∧ .agg [v1, v2, v3, v4, v5, v6].toArray = v), (fun H rs v => [] = rs ∧ .string (p0_r) = v), (fun H rs v => [.row v2 70 (Rep.sz S_api_Switch) p1_c1_1.Switches.length xs0] = rs ∧ .int .i64 (r101) = v), (fun H rs v => [.obj b1 (.cells [v0].toArray 42 (0, 0)), .obj b3 (.cells ([.pointer (some ⟨b2, 0, none⟩)] : List Value).toArray 68 (0, 0)), .obj b2 (.cells [v1, v2, v3, v4, v5, v6].toArray 29 (0, 0)), .row v2 70 (Rep.sz S_api_Switch) p1_c1_1.Switches.length xs0] = rs ∧ .int .i64 (r103) = v), (fun H rs v => [] = rs ∧ .func (.func 49) [].toArray [.pointer (some ⟨b1, 0, none⟩), .pointer (some ⟨b3, 0, none⟩)].toArray = v), (fun H rs v => [] = rs ∧ .int .i64 (p3_c3) = v)]) [[], [], [], [], [], [9], [10, 11, 12, 5], [], []] [[], [11], [], [12], [], [], [], [], []] [[.row v2 70 (Rep.sz S_api_Switch) p1_c1_1.Switches.length xs0], [.obj b1 (.cells [v0].toArray 42 (0, 0))], [.obj b3 (.cells ([.pointer (some ⟨b2, 0, none⟩)] : List Value).toArray 68 (0, 0))], [.obj b2 (.cells [v1, v2, v3, v4, v5, v6].toArray 29 (0, 0))]] [0, 1, 2, 3, 4, 6, 7, 8] Facts.mixed (by kernel_rfl) (by rfl) (by rfl) (by rfl) (by kernel_rfl) (phiT_mono ⟨eq_monoT _ _, eq_monoT _ _, eq_monoT _ _, eq_monoT _ _, eq_monoT _ _, eq_monoT _ _, eq_monoT _ _, eq_monoT _ _, eq_monoT _ _, trivial⟩) ⟨?_, ?_, ?_, ?_, ?_, ?_, ?_, ?_, ?_, trivial⟩ ?_
 ·intro HX hX X Rest hR
  intro hU hUp
  refine W_load rfl rfl isAgg104 rfl (own_at (hR _ (List.mem_cons_self ..)) rfl) ?_
  exact W_end (OneT_end [] (Hp.le_refl _) ⟨rfl, rfl⟩)
 ·intro HX hX X Rest hR
  intro hU hUp
  have hU2 : ∀ s ∈ [.obj b3 (.cells ([.pointer (some ⟨b2, 0, none⟩)] : List Value).toArray 68 (0, 0))], s ∈ Rest := hU
  refine W_load rfl rfl isAgg68 rfl (own_at (hU2 _ (List.mem_cons_self ..)) rfl) ?_
  exact W_end (OneT_end [] (Hp.le_refl _) ⟨rfl, rfl⟩)
 ·intro HX hX X Rest hR
  rintro _ _ ⟨rfl, rfl⟩
  intro hU hUp
  refine W_nilCheck rfl rfl rfl ?_
  exact W_end (OneT_end [] (Hp.le_refl _) ⟨rfl, rfl⟩)
 ·intro HX hX X Rest hR
  rintro _ _ ⟨rfl, rfl⟩
  intro hU hUp
  have hU2 : ∀ s ∈ [.obj b2 (.cells [v1, v2, v3, v4, v5, v6].toArray 29 (0, 0))], s ∈ Rest := hU
  refine W_loadAgg rfl rfl isAgg29 sizeOf29 rfl (own_all (hU2 _ (List.mem_cons_self ..))) rfl ?_
  exact W_end (OneT_end [] (Hp.le_refl _) ⟨rfl, rfl⟩)
 ·intro HX hX X Rest hR
  intro hU hUp
  refine W_move rfl rfl rfl ?_
  exact W_end (OneT_end [] (Hp.le_refl _) ⟨rfl, rfl⟩)
 ·intro HX hX X Rest hR
  rintro _ _ ⟨rfl, rfl⟩
  rintro _ _ ⟨rfl, rfl⟩
  intro hU hUp
  refine W_as (M' := .row v2 70 (Rep.sz S_api_Switch) p1_c1_1.Switches.length xs0 :: Rest) rfl ?_
  refine W_call call26 rfl rfl rfl (fun w ht => by obtain ⟨H0_, hl0_, ht0_, hr0_, bk0_⟩ := ht.lendRow (h2.mono hX) rfl; have h := m_blackstart_gen_c (hm := hc102) ((h1.mono hX).mono hl0_) hr0_ ((h3.mono hX).mono hl0_) ((h4.mono hX).mono hl0_) ((h5.mono hX).mono hl0_) ((h6.mono hX).mono hl0_) ht0_; exact lend_back bk0_ (h)) ?_
  rintro _ _ _ ⟨rfl, ⟨_, rfl, rfl, rfl⟩⟩
  exact W_end (OneT_end [.row v2 70 (Rep.sz S_api_Switch) p1_c1_1.Switches.length xs0] (Hp.le_refl _) ⟨rfl, rfl⟩)
 ·intro HX hX X Rest hR
  rintro _ _ ⟨rfl, rfl⟩
  rintro _ _ ⟨rfl, rfl⟩
  rintro _ _ ⟨rfl, rfl⟩
  intro hU hUp
  refine W_as (M' := .obj b1 (.cells [v0].toArray 42 (0, 0)) :: .obj b3 (.cells ([.pointer (some ⟨b2, 0, none⟩)] : List Value).toArray 68 (0, 0)) :: .obj b2 (.cells [v1, v2, v3, v4, v5, v6].toArray 29 (0, 0)) :: .row v2 70 (Rep.sz S_api_Switch) p1_c1_1.Switches.length xs0 :: Rest) rfl ?_
  refine W_callv call49 rfl rfl rfl rfl (fun w ht => by have h := m_blackstart_perform_2_c (hm := hc104) (h0.mono hX) (h1.mono hX) (h2.mono hX) (h3.mono hX) (h4.mono hX) (h5.mono hX) (h6.mono hX) ht; exact h) ?_
  rintro _ _ _ ⟨rfl, rfl, rfl⟩
  exact W_end (OneT_end [.obj b1 (.cells [v0].toArray 42 (0, 0)), .obj b3 (.cells ([.pointer (some ⟨b2, 0, none⟩)] : List Value).toArray 68 (0, 0)), .obj b2 (.cells [v1, v2, v3, v4, v5, v6].toArray 29 (0, 0)), .row v2 70 (Rep.sz S_api_Switch) p1_c1_1.Switches.length xs0] (Hp.le_refl _) ⟨rfl, rfl⟩)
 ·intro HX hX X Rest hR
  intro hU hUp
  refine W_load rfl rfl isAgg104 rfl (own_at (hR _ (List.mem_cons_self ..)) rfl) ?_
  exact W_end (OneT_end [] (Hp.le_refl _) ⟨rfl, rfl⟩)
 ·intro HX hX X Rest hR
  intro hU hUp
  refine W_load rfl rfl isAgg3 rfl (own_at (hR _ (List.mem_cons_of_mem _ (List.mem_cons_self ..))) rfl) ?_
  exact W_end (OneT_end [] (Hp.le_refl _) ⟨rfl, rfl⟩)
 intro H105 hle106
 rintro _ _ ⟨rfl, rfl⟩
 rintro _ _ ⟨rfl, rfl⟩
 rintro _ _ ⟨rfl, rfl⟩
 rintro _ _ ⟨rfl, rfl⟩
 rintro _ _ ⟨rfl, rfl⟩
 rintro _ _ ⟨rfl, rfl⟩
 rintro _ _ ⟨rfl, rfl⟩
 rintro _ _ ⟨rfl, rfl⟩
 rintro _ _ ⟨rfl, rfl⟩
 refine W_as (M' := .obj b1 (.cells [v0].toArray 42 (0, 0)) :: .obj b3 (.cells ([.pointer (some ⟨b2, 0, none⟩)] : List Value).toArray 68 (0, 0)) :: .obj b2 (.cells [v1, v2, v3, v4, v5, v6].toArray 29 (0, 0)) :: .row v2 70 (Rep.sz S_api_Switch) p1_c1_1.Switches.length xs0 :: .obj b0 (.cells ([.func (.func 49) [].toArray [.pointer (some ⟨b1, 0, none⟩), .pointer (some ⟨b3, 0, none⟩)].toArray] : List Value).toArray 104 (0, 0)) :: .obj b4 (.cells ([.int .i64 (p3_c3)] : List Value).toArray 3 (0, 0)) :: M) rfl ?_
 obtain ⟨r107, hc108, hm⟩ := bind_some hm
 refine W_callv call49 rfl rfl rfl rfl (fun w ht => by have h := m_blackstart_perform_2_c (hm := hc108) (h0.mono hle106) (h1.mono hle106) (h2.mono hle106) (h3.mono hle106) (h4.mono hle106) (h5.mono hle106) (h6.mono hle106) ht; exact h) ?_
 rintro _ _ _ ⟨rfl, rfl, rfl⟩
 refine W_bin rfl rfl rfl rfl rfl ?_
 refine W_assign rfl rfl rfl ?_
 refine W_end (E_then (C_ret ?_))
 obtain rfl := Option.some.inj hm
 refine E_perm (List.Perm.trans (List.Perm.cons _ (List.Perm.cons _ (List.Perm.cons _ (List.Perm.swap _ _ _)))) (List.Perm.trans (List.Perm.cons _ (List.Perm.cons _ (List.Perm.swap _ _ _))) (List.Perm.trans (List.Perm.cons _ (List.Perm.swap _ _ _)) (List.Perm.swap _ _ _)))) ?_
 refine E_weak hle106 ?_
 exact end1 rfl rfl ⟨rfl, rfl, rfl⟩

theorem m_slices_IndexFunc_string_string__blackstart_perform_3S3_c {B : Nat} {w0 w : World} {H : Hp} {M : List Res} {p0_s : (List ByteArray)} {p1_f_0_0 : (List Int)} {p1_f_0_1 : S_api_Network} {p1_f_2 : Int} {v0 : Value} {b0 : Nat} {b1 : Nat} {v1 : Value} {b3 : Nat} {b2 : Nat} {v2 : Value} {v3 : Value} {xs0 : List Value} {v4 : Value} {v5 : Value} {v6 : Value} {v7 : Value} {b4 : Nat} {r : Int} (hm : m_slices_IndexFunc_string_string__blackstart_perform_3S3 p0_s p1_f_0_0 p1_f_0_1 p1_f_2 = some r) (h0 : RdS H v0 p0_s) (h1 : RdS H v1 p1_f_0_0) (h2 : RdS H v2 p1_f_0_1.Nodes) (h3 : Rw H v3 xs0 p1_f_0_1.Switches) (h4 : RdS H v4 p1_f_0_1.Branches) (h5 : RdS H v5 p1_f_0_1.Gens) (h6 : RdS H v6 p1_f_0_1.Loads) (h7 : RdS H v7 p1_f_0_1.Stores) (ht : St B w0 H (.obj b0 (.cells ([.func (.func 49) [].toArray [.pointer (some ⟨b1, 0, none⟩), .pointer (some ⟨b3, 0, none⟩)].toArray] : List Value).toArray 104 (0, 0)) :: .obj b1 (.cells [v1].toArray 42 (0, 0)) :: .obj b3 (.cells ([.pointer (some ⟨b2, 0, none⟩)] : List Value).toArray 68 (0, 0)) :: .obj b2 (.cells [v2, v3, v4, v5, v6, v7].toArray 29 (0, 0)) :: .row v3 70 (Rep.sz S_api_Switch) p1_f_0_1.Switches.length xs0 :: .obj b4 (.cells ([.int .i64 (p1_f_2)] : List Value).toArray 3 (0, 0)) :: M) w) :
  Calls prog 32 [v0, .func (.func 50) [].toArray [.pointer (some ⟨b0, 0, none⟩), .pointer (some ⟨b3, 0, none⟩), .pointer (some ⟨b4, 0, none⟩)].toArray].toArray w (Ret B w0 fun H' M' v => H = H' ∧ .obj b0 (.cells ([.func (.func 49) [].toArray [.pointer (some ⟨b1, 0, none⟩), .pointer (some ⟨b3, 0, none⟩)].toArray] : List Value).toArray 104 (0, 0)) :: .obj b1 (.cells [v1].toArray 42 (0, 0)) :: .obj b3 (.cells ([.pointer (some ⟨b2, 0, none⟩)] : List Value).toArray 68 (0, 0)) :: .obj b2 (.cells [v2, v3, v4, v5, v6, v7].toArray 29 (0, 0)) :: .row v3 70 (Rep.sz S_api_Switch) p1_f_0_1.Switches.length xs0 :: .obj b4 (.cells ([.int .i64 (p1_f_2)] : List Value).toArray 3 (0, 0)) :: M = M' ∧ .int .i64 (r) = v) := by
 unfold m_slices_IndexFunc_string_string__blackstart_perform_3S3 at hm
 refine enter func32 rfl rfl rfl ht ?_
 refine C_seq (C_region ?_)
 refine W_assign rfl rfl rfl ?_
 refine W_end (E_then (C_seq (C_seq (C_region ?_))))
 refine W_move rfl rfl rfl ?_
 refine W_lenR rfl rfl runUnderlying22 rfl h0 ?_
 refine W_move rfl rfl rfl ?_
 refine W_end (E_then (C_block ?_))
 refine C_keep (L' := [(0, v0), (1, .func (.func 50) [].toArray [.pointer (some ⟨b0, 0, none⟩), .pointer (some ⟨b3, 0, none⟩), .pointer (some ⟨b4, 0, none⟩)].toArray), (7, .int .i64 ((p0_s.length : Int))), (8, .int .i64 (((0 : Nat) : Int)))]) ⟨rfl, rfl, rfl, rfl, trivial⟩ (List.Perm.refl _) ?_
 refine C_loop (fun n H' M' L' => ∃ (k101 : Nat) (zs123' : Nat), k101 + zs123' = ((p0_s.length : Int) : Int).toNat ∧ zs123' = n ∧ forN (fun k s118 n => m_slices_IndexFunc_string_string__blackstart_perform_3S3_b1 p0_s p1_f_0_0 p1_f_0_1 p1_f_2 k n) (fun _ => some (-1)) zs123' k101 () = some r ∧ H.le H' ∧ .obj b0 (.cells ([.func (.func 49) [].toArray [.pointer (some ⟨b1, 0, none⟩), .pointer (some ⟨b3, 0, none⟩)].toArray] : List Value).toArray 104 (0, 0)) :: .obj b1 (.cells [v1].toArray 42 (0, 0)) :: .obj b3 (.cells ([.pointer (some ⟨b2, 0, none⟩)] : List Value).toArray 68 (0, 0)) :: .obj b2 (.cells [v2, v3, v4, v5, v6, v7].toArray 29 (0, 0)) :: .row v3 70 (Rep.sz S_api_Switch) p1_f_0_1.Switches.length xs0 :: .obj b4 (.cells ([.int .i64 (p1_f_2)] : List Value).toArray 3 (0, 0)) :: M = M' ∧ [(0, v0), (1, .func (.func 50) [].toArray [.pointer (some ⟨b0, 0, none⟩), .pointer (some ⟨b3, 0, none⟩), .pointer (some ⟨b4, 0, none⟩)].toArray), (7, .int .i64 ((p0_s.length : Int))), (8, .int .i64 ((k101 : Int)))] = L') _ ⟨0, _, Nat.zero_add _, rfl, hm, (Hp.le_refl _), rfl, rfl⟩ ?_
 rintro _ H116 _ _ ⟨k101, zs123', hd125, rfl, hm, hle117, rfl, rfl⟩
 refine C_seq (C_region ?_)
 refine W_bin rfl rfl rfl rfl rfl ?_
 refine W_end (E_then (C_seq ?_))
 refine C_cond (b := decide ((k101 : Int) < (p0_s.length : Int))) rfl (fun hb127 => ?_) (fun hb127 => ?_)
 ·obtain ⟨zs123, rfl, hd126, hy124⟩ := rngN_t hd125 hb127
  have hm : m_slices_IndexFunc_string_string__blackstart_perform_3S3_b1 p0_s p1_f_0_0 p1_f_0_1 p1_f_2 k101 (forN (fun k s118 n => m_slices_IndexFunc_string_string__blackstart_perform_3S3_b1 p0_s p1_f_0_0 p1_f_0_1 p1_f_2 k n) (fun _ => some (-1)) zs123 (k101 + 1)) = some r := hm
  generalize hn120 : forN (fun k s118 n => m_slices_IndexFunc_string_string__blackstart_perform_3S3_b1 p0_s p1_f_0_0 p1_f_0_1 p1_f_2 k n) (fun _ => some (-1)) zs123 (k101 + 1) = nx119 at hm
  unfold m_slices_IndexFunc_string_string__blackstart_perform_3S3_b1 at hm
  refine C_skip (E_then (C_seq (C_block (C_seq (C_region ?_)))))
  refine W_move rfl rfl rfl ?_
  refine W_assign rfl rfl rfl ?_
  refine W_end (E_then (C_seq (C_region ?_)))
  refine W_move rfl rfl rfl ?_
  refine W_move rfl rfl rfl ?_
  refine W_move rfl rfl rfl ?_
  obtain ⟨y128, h129, he130, hm⟩ := idx_some hm
  obtain ⟨_, rfl, hc131⟩ := (h0).elem he130
  refine W_indexS rfl rfl runUnderlying22 sizeOf9 rfl (h0.mono hle117) rfl h129 he130 ?_
  refine W_load rfl rfl isAgg9 rfl (HCells.one (hc131.mono hle117) 0 rfl).at ?_
  obtain ⟨r132, hc133, hm⟩ := bind_some hm
  refine W_callv call50 rfl rfl rfl rfl (fun w ht => by have h := m_blackstart_perform_3S3_c (hm := hc133) (h1.mono hle117) (h2.mono hle117) (h3.mono hle117) (h4.mono hle117) (h5.mono hle117) (h6.mono hle117) (h7.mono hle117) ht; exact h) ?_
  rintro _ _ _ ⟨rfl, rfl, rfl⟩
  refine W_end (E_then ?_)
  refine C_cond (b := r132) rfl (fun hb134 => ?_) (fun hb134 => ?_)
  ·have hm := ite_t' hb134 hm
   refine C_seq (C_region ?_)
   refine W_move rfl rfl rfl ?_
   refine W_assign rfl rfl rfl ?_
   refine W_end (E_then (C_ret (E_ret_block (E_ret_then (E_ret_then (E_ret_block (E_ret_then ?_)))))))
   obtain rfl := Option.some.inj hm
   refine E_weak hle117 ?_
   exact end1 rfl rfl ⟨rfl, rfl, rfl⟩
  ·have hm := ite_f' hb134 hm
   refine C_skip (E_normal_block (E_then (C_region ?_)))
   refine W_bin rfl rfl rfl rfl rfl ?_
   refine W_move rfl rfl rfl ?_
   refine W_end ?_
   exact E_keepJ (E_back (Nat.lt_succ_self _) ⟨k101 + 1, zs123, hd126, rfl, (by rw [hn120]; exact hm), hle117, rfl, rfl⟩) (List.Perm.refl _) ⟨rfl, rfl, rfl, (congrArg (fun z => some (Value.int .i64 z)) (i64_succN hy124 (toNat_max (len_max (h0).lenMax)))), trivial⟩
 ·obtain rfl := rngN_f hd125 hb127
  have hm : (some (-1)) = some r := hm
  refine C_exit (E_exit_then (E_exit_then (E_exit_hit (E_then (C_seq (C_region ?_))))))
  refine W_assign rfl rfl rfl ?_
  refine W_end (E_then (C_ret ?_))
  obtain rfl := Option.some.inj hm
  refine E_weak hle117 ?_
  exact end1 rfl rfl ⟨rfl, rfl, rfl⟩

theorem m_slices_ContainsFunc_string_string__blackstart_perform_3S3_c {B : Nat} {w0 w : World} {H : Hp} {M : List Res} {p0_s : (List ByteArray)} {p1_f_0_0 : (List Int)} {p1_f_0_1 : S_api_Network} {p1_f_2 : Int} {v0 : Value} {b0 : Nat} {b1 : Nat} {v1 : Value} {b3 : Nat} {b2 : Nat} {v2 : Value} {v3 : Value} {xs0 : List Value} {v4 : Value} {v5 : Value} {v6 : Value} {v7 : Value} {b4 : Nat} {r : Bool} (hm : m_slices_ContainsFunc_string_string__blackstart_perform_3S3 p0_s p1_f_0_0 p1_f_0_1 p1_f_2 = some r) (h0 : RdS H v0 p0_s) (h1 : RdS H v1 p1_f_0_0) (h2 : RdS H v2 p1_f_0_1.Nodes) (h3 : Rw H v3 xs0 p1_f_0_1.Switches) (h4 : RdS H v4 p1_f_0_1.Branches) (h5 : RdS H v5 p1_f_0_1.Gens) (h6 : RdS H v6 p1_f_0_1.Loads) (h7 : RdS H v7 p1_f_0_1.Stores) (ht : St B w0 H (.obj b0 (.cells ([.func (.func 49) [].toArray [.pointer (some ⟨b1, 0, none⟩), .pointer (some ⟨b3, 0, none⟩)].toArray] : List Value).toArray 104 (0, 0)) :: .obj b1 (.cells [v1].toArray 42 (0, 0)) :: .obj b3 (.cells ([.pointer (some ⟨b2, 0, none⟩)] : List Value).toArray 68 (0, 0)) :: .obj b2 (.cells [v2, v3, v4, v5, v6, v7].toArray 29 (0, 0)) :: .row v3 70 (Rep.sz S_api_Switch) p1_f_0_1.Switches.length xs0 :: .obj b4 (.cells ([.int .i64 (p1_f_2)] : List Value).toArray 3 (0, 0)) :: M) w) :
  Calls prog 14 [v0, .func (.func 50) [].toArray [.pointer (some ⟨b0, 0, none⟩), .pointer (some ⟨b3, 0, none⟩), .pointer (some ⟨b4, 0, none⟩)].toArray].toArray w (Ret B w0 fun H' M' v => H = H' ∧ .obj b0 (.cells ([.func (.func 49) [].toArray [.pointer (some ⟨b1, 0, none⟩), .pointer (some ⟨b3, 0, none⟩)].toArray] : List Value).toArray 104 (0, 0)) :: .obj b1 (.cells [v1].toArray 42 (0, 0)) :: .obj b3 (.cells ([.pointer (some ⟨b2, 0, none⟩)] : List Value).toArray 68 (0, 0)) :: .obj b2 (.cells [v2, v3, v4, v5, v6, v7].toArray 29 (0, 0)) :: .row v3 70 (Rep.sz S_api_Switch) p1_f_0_1.Switches.length xs0 :: .obj b4 (.cells ([.int .i64 (p1_f_2)] : List Value).toArray 3 (0, 0)) :: M = M' ∧ .bool (r) = v) := by
 unfold m_slices_ContainsFunc_string_string__blackstart_perform_3S3 at hm
 refine enter func14 rfl rfl rfl ht ?_
 refine C_seq (C_region ?_)
 refine W_assign rfl rfl rfl ?_
 refine W_end (E_then (C_seq (C_region ?_)))
 refine W_move rfl rfl rfl ?_
 refine W_move rfl rfl rfl ?_
 obtain ⟨r101, hc102, hm⟩ := bind_some hm
 refine W_call call32 rfl rfl rfl (fun w ht => by have h := m_slices_IndexFunc_string_string__blackstart_perform_3S3_c (hm := hc102) h0 h1 h2 h3 h4 h5 h6 h7 ht; exact h) ?_
 rintro _ _ _ ⟨rfl, rfl, rfl⟩
 refine W_bin rfl rfl rfl rfl rfl ?_
 refine W_assign rfl rfl rfl ?_
 refine W_end (E_then (C_ret ?_))
 obtain rfl := Option.some.inj hm
 refine E_weak (Hp.le_refl _) ?_
 exact end1 rfl rfl ⟨rfl, rfl, rfl⟩

theorem m_blackstart_perform_c {B : Nat} {w0 w : World} {H : Hp} {M : List Res} {p0_n : S_api_Network} {running : (List ByteArray)} {p2_s : S_api_BlackstartStep} {b0 : Nat} {v0 : Value} {v1 : Value} {xs0 : List Value} {v2 : Value} {v3 : Value} {v4 : Value} {v5 : Value} {v6 : Value} {xs1 : List Value} {v7 : Value} {r : Int × S_api_Network} (hm : m_blackstart_perform p0_n running p2_s = some r) (h0 : RdS H v0 p0_n.Nodes) (h1 : Rw H v1 xs0 p0_n.Switches) (h2 : RdS H v2 p0_n.Branches) (h3 : RdS H v3 p0_n.Gens) (h4 : RdS H v4 p0_n.Loads) (h5 : RdS H v5 p0_n.Stores) (h6 : Rw H v6 xs1 running) (h7 : RdS H v7 p2_s.Devices) (ht : St B w0 H (.obj b0 (.cells [v0, v1, v2, v3, v4, v5].toArray 29 (0, 0)) :: .row v1 70 (Rep.sz S_api_Switch) p0_n.Switches.length xs0 :: .row v6 9 (Rep.sz ByteArray) running.length xs1 :: M) w) :
  Calls prog 29 [.pointer (some ⟨b0, 0, none⟩), v6, .agg [.string (p2_s.Gen), v7].toArray].toArray w (Ret B w0 fun H' M' v => H.le H' ∧ ∃ qv0 : Value, ∃ qv1 : Value, ∃ qxs0 : List Value, ∃ qv2 : Value, ∃ qv3 : Value, ∃ qv4 : Value, ∃ qv5 : Value, .obj b0 (.cells [qv0, qv1, qv2, qv3, qv4, qv5].toArray 29 (0, 0)) :: .row qv1 70 (Rep.sz S_api_Switch) r.2.Switches.length qxs0 :: .row v6 9 (Rep.sz ByteArray) running.length xs1 :: M = M' ∧ .int .i64 (r.1) = v ∧ RdS H' qv0 r.2.Nodes ∧ Rw H' qv1 qxs0 r.2.Switches ∧ RdS H' qv2 r.2.Branches ∧ RdS H' qv3 r.2.Gens ∧ RdS H' qv4 r.2.Loads ∧ RdS H' qv5 r.2.Stores) := by
 unfold m_blackstart_perform at hm
 refine enter func29 rfl rfl rfl ht ?_
 refine C_seq (C_region ?_)
 refine W_box (cs := [.pointer (some ⟨b0, 0, none⟩)]) rfl rfl rfl rfl (fun b101 => ?_)
 refine W_box (cs := [.string (p2_s.Gen), v7]) rfl rfl rfl rfl (fun b102 => ?_)
 refine W_assign rfl rfl rfl ?_
 refine W_end (E_then (C_seq ?_))
 obtain ⟨r103, hc104, hm⟩ := bind_some hm
 refine C_perm (List.Perm.trans (List.Perm.cons _ (List.Perm.cons _ (List.Perm.swap _ _ _))) (List.Perm.trans (List.Perm.cons _ (List.Perm.swap _ _ _)) (List.Perm.swap _ _ _))) ?_
 refine C_as (M' := [[.row v1 70 (Rep.sz S_api_Switch) p0_n.Switches.length xs0]].flatten ++ (.obj b102 (.cells [.string (p2_s.Gen), v7].toArray 38 (0, 0)) :: .obj b101 (.cells ([.pointer (some ⟨b0, 0, none⟩)] : List Value).toArray 68 (0, 0)) :: .obj b0 (.cells [v0, v1, v2, v3, v4, v5].toArray 29 (0, 0)) :: .row v6 9 (Rep.sz ByteArray) running.length xs1 :: M)) rfl ?_
 refine C_region_tok0 7 (phiT [(fun H rs v => [] = rs ∧ .pointer (some ⟨b0, 0, none⟩) = v), (fun H rs v => [] = rs ∧ .pointer (some ⟨b0, 0, none⟩) = v), (fun H rs v => [] = rs ∧ .agg [v0, v1, v2, v3, v4, v5].toArray = v), (fun H rs v => [] = rs ∧ .pointer (some ⟨b102, 0, none⟩) = v), (fun H rs v => [] = rs ∧ .string (p2_s.Gen) = v), (fun H rs v => [.row v1 70 (Rep.sz S_api_Switch) p0_n.Switches.length xs0] = rs ∧ .int .i64 (r103) = v), (fun H rs v => ∃ b106 : Nat, [.obj b106 (.cells ([.int .i64 (0)] : List Value).toArray 3 (0, 0))] = rs ∧ .pointer (some ⟨b106, 0, none⟩) = v)]) [[], [], [], [], [], [7], []] [[], [], [], [], [], [], []] [[.row v1 70 (Rep.sz S_api_Switch) p0_n.Switches.length xs0]] [0, 1, 2, 3, 4, 5, 6] Facts.mixed (by kernel_rfl) (by rfl) (by rfl) (by rfl) (by kernel_rfl) (phiT_mono ⟨eq_monoT _ _, eq_monoT _ _, eq_monoT _ _, eq_monoT _ _, eq_monoT _ _, eq_monoT _ _, (by rintro H1 H2 rs v hle ⟨b106, rfl, rfl⟩; exact ⟨b106, rfl, rfl⟩), trivial⟩) ⟨?_, ?_, ?_, ?_, ?_, ?_, ?_, trivial⟩ ?_
 ·intro HX hX X Rest hR
  intro hU hUp
  refine W_load rfl rfl isAgg68 rfl (own_at (hR _ (List.mem_cons_of_mem _ (List.mem_cons_self ..))) rfl) ?_
  exact W_end (OneT_end [] (Hp.le_refl _) ⟨rfl, rfl⟩)
 ·intro HX hX X Rest hR
  rintro _ _ ⟨rfl, rfl⟩
  intro hU hUp
  refine W_nilCheck rfl rfl rfl ?_
  exact W_end (OneT_end [] (Hp.le_refl _) ⟨rfl, rfl⟩)
 ·intro HX hX X Rest hR
  rintro _ _ ⟨rfl, rfl⟩
  intro hU hUp
  refine W_loadAgg rfl rfl isAgg29 sizeOf29 rfl (own_all (hR _ (List.mem_cons_of_mem _ (List.mem_cons_of_mem _ (List.mem_cons_self ..))))) rfl ?_
  exact W_end (OneT_end [] (Hp.le_refl _) ⟨rfl, rfl⟩)
 ·intro HX hX X Rest hR
  intro hU hUp
  refine W_field (o := 0) rfl rfl runUnderlying38 rfl sizeOf9 rfl rfl rfl ?_
  exact W_end (OneT_end [] (Hp.le_refl _) ⟨rfl, rfl⟩)
 ·intro HX hX X Rest hR
  rintro _ _ ⟨rfl, rfl⟩
  intro hU hUp
  refine W_load rfl rfl isAgg9 rfl (own_at (hR _ (List.mem_cons_self ..)) rfl) ?_
  exact W_end (OneT_end [] (Hp.le_refl _) ⟨rfl, rfl⟩)
 ·intro HX hX X Rest hR
  rintro _ _ ⟨rfl, rfl⟩
  rintro _ _ ⟨rfl, rfl⟩
  intro hU hUp
  refine W_as (M' := .row v1 70 (Rep.sz S_api_Switch) p0_n.Switches.length xs0 :: Rest) rfl ?_
  refine W_call call26 rfl rfl rfl (fun w ht => by obtain ⟨H0_, hl0_, ht0_, hr0_, bk0_⟩ := ht.lendRow (h1.mono hX) rfl; have h := m_blackstart_gen_c (hm := hc104) ((h0.mono hX).mono hl0_) hr0_ ((h2.mono hX).mono hl0_) ((h3.mono hX).mono hl0_) ((h4.mono hX).mono hl0_) ((h5.mono hX).mono hl0_) ht0_; exact lend_back bk0_ (h)) ?_
  rintro _ _ _ ⟨rfl, ⟨_, rfl, rfl, rfl⟩⟩
  exact W_end (OneT_end [.row v1 70 (Rep.sz S_api_Switch) p0_n.Switches.length xs0] (Hp.le_refl _) ⟨rfl, rfl⟩)
 ·intro HX hX X Rest hR
  intro hU hUp
  refine W_alloc (cs := [.int .i64 (0)]) rfl rfl zeroValue3 rfl (fun b106 => ?_)
  exact W_end (OneT_end [.obj b106 (.cells ([.int .i64 (0)] : List Value).toArray 3 (0, 0))] (Hp.le_refl _) ⟨b106, rfl, rfl⟩)
 intro H107 hle108
 rintro _ _ ⟨rfl, rfl⟩
 rintro _ _ ⟨rfl, rfl⟩
 rintro _ _ ⟨rfl, rfl⟩
 rintro _ _ ⟨rfl, rfl⟩
 rintro _ _ ⟨rfl, rfl⟩
 rintro _ _ ⟨rfl, rfl⟩
 rintro _ _ ⟨b106, rfl, rfl⟩
 refine W_as (M' := .row v1 70 (Rep.sz S_api_Switch) p0_n.Switches.length xs0 :: .obj b106 (.cells ([.int .i64 (0)] : List Value).toArray 3 (0, 0)) :: .obj b102 (.cells [.string (p2_s.Gen), v7].toArray 38 (0, 0)) :: .obj b101 (.cells ([.pointer (some ⟨b0, 0, none⟩)] : List Value).toArray 68 (0, 0)) :: .obj b0 (.cells [v0, v1, v2, v3, v4, v5].toArray 29 (0, 0)) :: .row v6 9 (Rep.sz ByteArray) running.length xs1 :: M) rfl ?_
 refine W_perm (List.Perm.swap _ _ _) ?_
 refine W_store (cs := [.int .i64 (r103)]) (out := [.int .i64 (r103)]) rfl sizeOf3 rfl rfl rfl rfl rfl (all_cons rfl all_nil) (over_all rfl) ?_
 refine W_end (E_then (C_seq (C_block (C_seq (C_region ?_)))))
 refine W_load rfl rfl isAgg3 rfl (own_at (List.mem_cons_self ..) rfl) ?_
 refine W_bin rfl rfl rfl rfl rfl ?_
 refine W_assign rfl rfl rfl ?_
 refine W_end (E_then ?_)
 refine C_cond (b := decide (r103 < 0)) rfl (fun hb109 => ?_) (fun hb109 => ?_)
 ·have hm := ite_t' hb109 hm
  refine C_seq (C_region ?_)
  refine W_assign rfl rfl rfl ?_
  refine W_end (E_then (C_ret (E_ret_block (E_ret_then ?_))))
  obtain rfl := Option.some.inj hm
  refine E_drop (List.Sublist.cons _ (List.Sublist.cons_cons _ (List.Sublist.cons _ (List.Sublist.cons _ (List.Sublist.refl _))))) ?_
  refine E_perm (List.Perm.swap _ _ _) ?_
  exact end1 rfl rfl ⟨hle108, v0, v1, xs0, v2, v3, v4, v5, rfl, rfl, (h0.mono hle108), (h1.mono hle108), (h2.mono hle108), (h3.mono hle108), (h4.mono hle108), (h5.mono hle108)⟩
 ·have hm := ite_f' hb109 hm
  refine C_seq (C_region ?_)
  refine W_move rfl rfl rfl ?_
  refine W_field (o := 0) rfl rfl runUnderlying38 rfl sizeOf9 rfl rfl rfl ?_
  refine W_load rfl rfl isAgg9 rfl (own_at (List.mem_cons_of_mem _ (List.mem_cons_of_mem _ (List.mem_cons_self ..))) rfl) ?_
  refine W_perm (List.Perm.trans (List.Perm.cons _ (List.Perm.cons _ (List.Perm.cons _ (List.Perm.cons _ (List.Perm.swap _ _ _))))) (List.Perm.trans (List.Perm.cons _ (List.Perm.cons _ (List.Perm.cons _ (List.Perm.swap _ _ _)))) (List.Perm.trans (List.Perm.cons _ (List.Perm.cons _ (List.Perm.swap _ _ _))) (List.Perm.trans (List.Perm.cons _ (List.Perm.swap _ _ _)) (List.Perm.swap _ _ _))))) ?_
  obtain ⟨r110, hc111, hm⟩ := bind_some hm
  refine W_call call24 rfl rfl rfl (fun w ht => by obtain ⟨H0_, hl0_, ht0_, hr0_, bk0_⟩ := ht.lendRow (h6.mono hle108) rfl; have h := m_slices_Contains_string_string_c (hm := hc111) hr0_ ht0_; exact lend_back bk0_ (h)) ?_
  rintro _ _ _ ⟨rfl, ⟨_, rfl, rfl, rfl⟩⟩
  refine W_assign rfl rfl rfl ?_
  refine W_end (E_then ?_)
  refine C_cond (b := r110) rfl (fun hb112 => ?_) (fun hb112 => ?_)
  ·have hm := ite_t' hb112 hm
   refine C_seq (C_region ?_)
   refine W_assign rfl rfl rfl ?_
   refine W_end (E_then (C_ret (E_ret_block (E_ret_then ?_))))
   obtain rfl := Option.some.inj hm
   refine E_drop (List.Sublist.cons_cons _ (List.Sublist.cons _ (List.Sublist.cons_cons _ (List.Sublist.cons _ (List.Sublist.cons _ (List.Sublist.refl _)))))) ?_
   refine E_perm (List.Perm.trans (List.Perm.cons _ (List.Perm.swap _ _ _)) (List.Perm.trans (List.Perm.swap _ _ _) (List.Perm.cons _ (List.Perm.swap _ _ _)))) ?_
   exact end1 rfl rfl ⟨hle108, v0, v1, xs0, v2, v3, v4, v5, rfl, rfl, (h0.mono hle108), (h1.mono hle108), (h2.mono hle108), (h3.mono hle108), (h4.mono hle108), (h5.mono hle108)⟩
  ·have hm := ite_f' hb112 hm
   refine C_seq (C_region ?_)
   refine W_field (o := 1) rfl rfl runUnderlying38 rfl sizeOf22 rfl rfl rfl ?_
   refine W_load rfl rfl isAgg22 rfl (own_at (List.mem_cons_of_mem _ (List.mem_cons_of_mem _ (List.mem_cons_of_mem _ (List.mem_cons_self ..)))) rfl) ?_
   refine W_lenR rfl rfl runUnderlying22 rfl (h7.mono hle108) ?_
   refine W_bin rfl rfl rfl rfl rfl ?_
   refine W_assign rfl rfl rfl ?_
   refine W_end (E_then ?_)
   refine C_cond (b := decide (32 < (p2_s.Devices.length : Int))) rfl (fun hb113 => ?_) (fun hb113 => ?_)
   ·have hm := ite_t' hb113 hm
    refine C_seq (C_region ?_)
    refine W_assign rfl rfl rfl ?_
    refine W_end (E_then (C_ret (E_ret_block (E_ret_then ?_))))
    obtain rfl := Option.some.inj hm
    refine E_drop (List.Sublist.cons_cons _ (List.Sublist.cons _ (List.Sublist.cons_cons _ (List.Sublist.cons _ (List.Sublist.cons _ (List.Sublist.refl _)))))) ?_
    refine E_perm (List.Perm.trans (List.Perm.cons _ (List.Perm.swap _ _ _)) (List.Perm.trans (List.Perm.swap _ _ _) (List.Perm.cons _ (List.Perm.swap _ _ _)))) ?_
    exact end1 rfl rfl ⟨hle108, v0, v1, xs0, v2, v3, v4, v5, rfl, rfl, (h0.mono hle108), (h1.mono hle108), (h2.mono hle108), (h3.mono hle108), (h4.mono hle108), (h5.mono hle108)⟩
   ·have hm := ite_f' hb113 hm
    refine C_skip (E_normal_block (E_then (C_seq (C_seq (C_region ?_)))))
    refine W_field (o := 1) rfl rfl runUnderlying38 rfl sizeOf22 rfl rfl rfl ?_
    refine W_load rfl rfl isAgg22 rfl (own_at (List.mem_cons_of_mem _ (List.mem_cons_of_mem _ (List.mem_cons_of_mem _ (List.mem_cons_self ..)))) rfl) ?_
    refine W_lenR rfl rfl runUnderlying22 rfl (h7.mono hle108) ?_
    refine W_move rfl rfl rfl ?_
    refine W_end (E_then (C_block ?_))
    refine C_drop (List.Sublist.cons_cons _ (List.Sublist.cons_cons _ (List.Sublist.cons_cons _ (List.Sublist.cons _ (List.Sublist.refl _))))) ?_
    refine C_keep (L' := [(1, v6), (3, .pointer (some ⟨b101, 0, none⟩)), (7, .pointer (some ⟨b106, 0, none⟩)), (34, v7), (35, .int .i64 ((p2_s.Devices.length : Int))), (36, .int .i64 (((0 : Nat) : Int)))]) ⟨rfl, rfl, rfl, rfl, rfl, rfl, trivial⟩ (List.Perm.trans (List.Perm.cons _ (List.Perm.swap _ _ _)) (List.Perm.swap _ _ _)) ?_
    refine C_loop (fun n H' M' L' => ∃ (k114 : Nat) (zs170' : List ByteArray), ∃ l161 : List S_api_Switch, ∃ xs160 : List Value, (p2_s.Devices).drop k114 = zs170' ∧ zs170'.length = n ∧ forI (fun k y s165 n => m_blackstart_perform_b1 p0_n k y s165 n) (fun s165 => (m_islands_Places (S_api_Network.mk p0_n.Nodes s165 p0_n.Branches p0_n.Gens p0_n.Loads p0_n.Stores)).bind fun r193 => (m_slices_ContainsFunc_string_string__blackstart_perform_3S3 running r193.1 (S_api_Network.mk p0_n.Nodes s165 p0_n.Branches p0_n.Gens p0_n.Loads p0_n.Stores) r103).bind fun r200 => if !r200 then (some (15, (S_api_Network.mk p0_n.Nodes s165 p0_n.Branches p0_n.Gens p0_n.Loads p0_n.Stores))) else (some (0, (S_api_Network.mk p0_n.Nodes s165 p0_n.Branches p0_n.Gens p0_n.Loads p0_n.Stores)))) k114 zs170' l161 = some r ∧ Rw H' v1 xs160 l161 ∧ H107.le H' ∧ .row v1 70 (Rep.sz S_api_Switch) l161.length xs160 :: .row v6 9 (Rep.sz ByteArray) running.length xs1 :: .obj b106 (.cells ([.int .i64 (r103)] : List Value).toArray 3 (0, 0)) :: .obj b101 (.cells ([.pointer (some ⟨b0, 0, none⟩)] : List Value).toArray 68 (0, 0)) :: .obj b0 (.cells [v0, v1, v2, v3, v4, v5].toArray 29 (0, 0)) :: M = M' ∧ [(1, v6), (3, .pointer (some ⟨b101, 0, none⟩)), (7, .pointer (some ⟨b106, 0, none⟩)), (34, v7), (35, .int .i64 ((p2_s.Devices.length : Int))), (36, .int .i64 ((k114 : Int)))] = L') _ ⟨0, _, p0_n.Switches, xs0, rfl, rfl, hm, (h1.mono hle108), (Hp.le_refl _), rfl, rfl⟩ ?_
    rintro _ H163 _ _ ⟨k114, zs170', l161, xs160, hd172, rfl, hm, hr162, hle164, rfl, rfl⟩
    refine C_seq (C_region ?_)
    refine W_bin rfl rfl rfl rfl rfl ?_
    refine W_end (E_then (C_seq ?_))
    refine C_cond (b := decide ((k114 : Int) < (p2_s.Devices.length : Int))) rfl (fun hb174 => ?_) (fun hb174 => ?_)
    ·obtain ⟨y169, zs170, rfl, hy171, hd173⟩ := rng_t hd172 hb174
     have hm : m_blackstart_perform_b1 p0_n k114 y169 l161 (forI (fun k y s165 n => m_blackstart_perform_b1 p0_n k y s165 n) (fun s165 => (m_islands_Places (S_api_Network.mk p0_n.Nodes s165 p0_n.Branches p0_n.Gens p0_n.Loads p0_n.Stores)).bind fun r193 => (m_slices_ContainsFunc_string_string__blackstart_perform_3S3 running r193.1 (S_api_Network.mk p0_n.Nodes s165 p0_n.Branches p0_n.Gens p0_n.Loads p0_n.Stores) r103).bind fun r200 => if !r200 then (some (15, (S_api_Network.mk p0_n.Nodes s165 p0_n.Branches p0_n.Gens p0_n.Loads p0_n.Stores))) else (some (0, (S_api_Network.mk p0_n.Nodes s165 p0_n.Branches p0_n.Gens p0_n.Loads p0_n.Stores)))) (k114 + 1) zs170) = some r := hm
     generalize hn167 : forI (fun k y s165 n => m_blackstart_perform_b1 p0_n k y s165 n) (fun s165 => (m_islands_Places (S_api_Network.mk p0_n.Nodes s165 p0_n.Branches p0_n.Gens p0_n.Loads p0_n.Stores)).bind fun r193 => (m_slices_ContainsFunc_string_string__blackstart_perform_3S3 running r193.1 (S_api_Network.mk p0_n.Nodes s165 p0_n.Branches p0_n.Gens p0_n.Loads p0_n.Stores) r103).bind fun r200 => if !r200 then (some (15, (S_api_Network.mk p0_n.Nodes s165 p0_n.Branches p0_n.Gens p0_n.Loads p0_n.Stores))) else (some (0, (S_api_Network.mk p0_n.Nodes s165 p0_n.Branches p0_n.Gens p0_n.Loads p0_n.Stores)))) (k114 + 1) zs170 = nx166 at hm
     unfold m_blackstart_perform_b1 at hm
     refine C_skip (E_then (C_seq (C_block (C_seq (C_region ?_)))))
     obtain ⟨_, rfl, hc175⟩ := (h7).elem hy171
     refine W_indexS rfl rfl runUnderlying22 sizeOf9 rfl ((h7.mono hle108).mono hle164) rfl (Int.natCast_nonneg _) hy171 ?_
     refine W_load rfl rfl isAgg9 rfl (HCells.one ((hc175.mono hle108).mono hle164) 0 rfl).at ?_
     refine W_alloc (cs := [.string (⟨#[]⟩)]) rfl rfl zeroValue9 rfl (fun b176 => ?_)
     refine W_store (cs := [.string (y169)]) (out := [.string (y169)]) rfl sizeOf9 rfl rfl rfl rfl rfl (all_cons rfl all_nil) (over_all rfl) ?_
     refine W_end (E_then (C_seq (C_region ?_)))
     refine W_load rfl rfl isAgg68 rfl (own_at (List.mem_cons_of_mem _ (List.mem_cons_of_mem _ (List.mem_cons_of_mem _ (List.mem_cons_of_mem _ (List.mem_cons_self ..))))) rfl) ?_
     refine W_nilCheck rfl rfl rfl ?_
     refine W_field (o := 1) rfl rfl runUnderlying29 rfl sizeOf23 rfl rfl rfl ?_
     refine W_load rfl rfl isAgg23 rfl (own_at (List.mem_cons_of_mem _ (List.mem_cons_of_mem _ (List.mem_cons_of_mem _ (List.mem_cons_of_mem _ (List.mem_cons_of_mem _ (List.mem_cons_self ..)))))) rfl) ?_
     refine W_makeFunc rfl rfl rfl rfl ?_
     refine W_perm (List.Perm.swap _ _ _) ?_
     obtain ⟨r177, hc178, hm⟩ := bind_some hm
     refine W_call call46 rfl rfl rfl (fun w ht => by obtain ⟨H0_, hl0_, ht0_, hr0_, bk0_⟩ := ht.lendRow hr162 rfl; have h := m_slices_IndexFunc_api_Switch_api_Switch__blackstart_perform_1_c (hm := hc178) hr0_ ht0_; exact lend_back bk0_ (h)) ?_
     rintro _ _ _ ⟨rfl, ⟨_, rfl, rfl, rfl⟩⟩
     refine W_assign rfl rfl rfl ?_
     refine W_end (E_then (C_seq (C_block (C_seq (C_region ?_)))))
     refine W_move rfl rfl rfl ?_
     refine W_bin rfl rfl rfl rfl rfl ?_
     refine W_assign rfl rfl rfl ?_
     refine W_end (E_then ?_)
     refine C_cond (b := decide (r177 < 0)) rfl (fun hb179 => ?_) (fun hb179 => ?_)
     ·have hm := ite_t' hb179 hm
      refine C_seq (C_region ?_)
      refine W_assign rfl rfl rfl ?_
      refine W_end (E_then (C_ret (E_ret_block (E_ret_then (E_ret_block (E_ret_then (E_ret_then (E_ret_block (E_ret_then ?_)))))))))
      obtain rfl := Option.some.inj hm
      refine E_drop (List.Sublist.cons_cons _ (List.Sublist.cons _ (List.Sublist.cons_cons _ (List.Sublist.cons _ (List.Sublist.cons _ (List.Sublist.refl _)))))) ?_
      refine E_perm (List.Perm.trans (List.Perm.cons _ (List.Perm.swap _ _ _)) (List.Perm.swap _ _ _)) ?_
      exact end1 rfl rfl ⟨(Hp.le_trans hle108 hle164), v0, v1, xs160, v2, v3, v4, v5, rfl, rfl, ((h0.mono hle108).mono hle164), hr162, ((h2.mono hle108).mono hle164), ((h3.mono hle108).mono hle164), ((h4.mono hle108).mono hle164), ((h5.mono hle108).mono hle164)⟩
     ·have hm := ite_f' hb179 hm
      refine C_seq (C_region ?_)
      refine W_load rfl rfl isAgg68 rfl (own_at (List.mem_cons_of_mem _ (List.mem_cons_of_mem _ (List.mem_cons_of_mem _ (List.mem_cons_of_mem _ (List.mem_cons_self ..))))) rfl) ?_
      refine W_nilCheck rfl rfl rfl ?_
      refine W_field (o := 1) rfl rfl runUnderlying29 rfl sizeOf23 rfl rfl rfl ?_
      refine W_load rfl rfl isAgg23 rfl (own_at (List.mem_cons_of_mem _ (List.mem_cons_of_mem _ (List.mem_cons_of_mem _ (List.mem_cons_of_mem _ (List.mem_cons_of_mem _ (List.mem_cons_self ..)))))) rfl) ?_
      refine W_move rfl rfl rfl ?_
      obtain ⟨y180, h181, he182, hm⟩ := idx_some hm
      refine W_indexO (List.mem_cons_self ..) rfl rfl runUnderlying23 sizeOf70 rfl rfl h181 (List.getElem?_eq_some_iff.1 he182).1 ?_
      obtain ⟨_, rfl, hg183⟩ := (hr162).elem he182
      refine W_field (o := 4) rfl rfl runUnderlying70 rfl sizeOf4 rfl rfl rfl ?_
      refine W_load rfl rfl isAgg4 rfl (row_one (o := 4) (List.mem_cons_self ..) hg183 rfl) ?_
      refine W_un rfl rfl rfl rfl ?_
      refine W_assign rfl rfl rfl ?_
      refine W_end (E_then ?_)
      refine C_cond (b := !y180.Open) rfl (fun hb184 => ?_) (fun hb184 => ?_)
      ·have hm := ite_t' hb184 hm
       refine C_seq (C_region ?_)
       refine W_assign rfl rfl rfl ?_
       refine W_end (E_then (C_ret (E_ret_block (E_ret_then (E_ret_block (E_ret_then (E_ret_then (E_ret_block (E_ret_then ?_)))))))))
       obtain rfl := Option.some.inj hm
       refine E_drop (List.Sublist.cons_cons _ (List.Sublist.cons _ (List.Sublist.cons_cons _ (List.Sublist.cons _ (List.Sublist.cons _ (List.Sublist.refl _)))))) ?_
       refine E_perm (List.Perm.trans (List.Perm.cons _ (List.Perm.swap _ _ _)) (List.Perm.swap _ _ _)) ?_
       exact end1 rfl rfl ⟨(Hp.le_trans hle108 hle164), v0, v1, xs160, v2, v3, v4, v5, rfl, rfl, ((h0.mono hle108).mono hle164), hr162, ((h2.mono hle108).mono hle164), ((h3.mono hle108).mono hle164), ((h4.mono hle108).mono hle164), ((h5.mono hle108).mono hle164)⟩
      ·have hm := ite_f' hb184 hm
       refine C_skip (E_normal_block (E_then (C_region ?_)))
       refine W_load rfl rfl isAgg68 rfl (own_at (List.mem_cons_of_mem _ (List.mem_cons_of_mem _ (List.mem_cons_of_mem _ (List.mem_cons_of_mem _ (List.mem_cons_self ..))))) rfl) ?_
       refine W_nilCheck rfl rfl rfl ?_
       refine W_field (o := 1) rfl rfl runUnderlying29 rfl sizeOf23 rfl rfl rfl ?_
       refine W_load rfl rfl isAgg23 rfl (own_at (List.mem_cons_of_mem _ (List.mem_cons_of_mem _ (List.mem_cons_of_mem _ (List.mem_cons_of_mem _ (List.mem_cons_of_mem _ (List.mem_cons_self ..)))))) rfl) ?_
       refine W_move rfl rfl rfl ?_
       obtain ⟨y185, h186, he187, hm⟩ := idx_some hm
       refine W_indexO (List.mem_cons_self ..) rfl rfl runUnderlying23 sizeOf70 rfl rfl h186 (List.getElem?_eq_some_iff.1 he187).1 ?_
       obtain ⟨_, rfl, hg188⟩ := (hr162).elem he187
       refine W_field (o := 4) rfl rfl runUnderlying70 rfl sizeOf4 rfl rfl rfl ?_
       obtain ⟨hr189, he190, hg191⟩ := Rw.put (cs := [.bool (false)]) (o := 4) (c := [.string (y185.Name), .string (y185.A), .string (y185.B_), .bool (y185.Breaker), .bool (y185.Open)]) (out := [.string (y185.Name), .string (y185.A), .string (y185.B_), .bool (y185.Breaker), .bool (false)]) (e2 := (S_api_Switch.mk y185.Name y185.A y185.B_ y185.Breaker false)) hr162 he187 rfl hg188 rfl rfl rfl
       refine W_storeO2 (i := (r177 : Int).toNat * Rep.sz S_api_Switch + 4) (cs := [.bool (false)]) rfl sizeOf4 rfl (row_ad _ _ _) rfl rfl rfl (Rw.room hr162 he187 rfl) rfl (all_cons rfl all_nil) (n' := (l161.set ((r177 : Int).toNat) (S_api_Switch.mk y185.Name y185.A y185.B_ y185.Breaker false)).length) List.length_set ?_
       generalize over xs160 ((r177 : Int).toNat * Rep.sz S_api_Switch + 4) [.bool (false)] = xs192 at hr189 hg191 ⊢
       refine W_end (E_normal_block (E_then (C_region ?_)))
       refine W_bin rfl rfl rfl rfl rfl ?_
       refine W_move rfl rfl rfl ?_
       refine W_end ?_
       refine E_drop (List.Sublist.cons_cons _ (List.Sublist.cons _ (List.Sublist.refl _))) ?_
       exact E_keepJ (E_back (Nat.lt_succ_self _) ⟨k114 + 1, zs170, (l161.set ((r177 : Int).toNat) (S_api_Switch.mk y185.Name y185.A y185.B_ y185.Breaker false)), xs192, hd173, rfl, (by rw [hn167]; exact hm), hr189, hle164, rfl, rfl⟩) (List.Perm.refl _) ⟨rfl, rfl, rfl, rfl, rfl, (congrArg (fun z => some (Value.int .i64 z)) (i64_succ hy171 (((h7.mono hle108).mono hle164)).lenMax)), trivial⟩
    ·obtain rfl := rng_f hd172 hb174
     have hm : ((m_islands_Places (S_api_Network.mk p0_n.Nodes l161 p0_n.Branches p0_n.Gens p0_n.Loads p0_n.Stores)).bind fun r193 => (m_slices_ContainsFunc_string_string__blackstart_perform_3S3 running r193.1 (S_api_Network.mk p0_n.Nodes l161 p0_n.Branches p0_n.Gens p0_n.Loads p0_n.Stores) r103).bind fun r200 => if !r200 then (some (15, (S_api_Network.mk p0_n.Nodes l161 p0_n.Branches p0_n.Gens p0_n.Loads p0_n.Stores))) else (some (0, (S_api_Network.mk p0_n.Nodes l161 p0_n.Branches p0_n.Gens p0_n.Loads p0_n.Stores)))) = some r := hm
     refine C_exit (E_exit_then (E_exit_then (E_exit_hit (E_then (C_seq (C_region ?_))))))
     refine W_load rfl rfl isAgg68 rfl (own_at (List.mem_cons_of_mem _ (List.mem_cons_of_mem _ (List.mem_cons_of_mem _ (List.mem_cons_self ..)))) rfl) ?_
     refine W_nilCheck rfl rfl rfl ?_
     refine W_loadAgg rfl rfl isAgg29 sizeOf29 rfl (own_all (List.mem_cons_of_mem _ (List.mem_cons_of_mem _ (List.mem_cons_of_mem _ (List.mem_cons_of_mem _ (List.mem_cons_self ..)))))) rfl ?_
     obtain ⟨r193, hc194, hm⟩ := bind_some hm
     refine W_call call11 rfl rfl rfl (fun w ht => by obtain ⟨H0_, hl0_, ht0_, hr0_, bk0_⟩ := ht.lendRow hr162 rfl; have h := m_islands_Places_c (hm := hc194) (((h0.mono hle108).mono hle164).mono hl0_) hr0_ (((h2.mono hle108).mono hle164).mono hl0_) (((h3.mono hle108).mono hle164).mono hl0_) (((h4.mono hle108).mono hle164).mono hl0_) (((h5.mono hle108).mono hle164).mono hl0_) ht0_; exact lend_back bk0_ (h)) ?_
     rintro _ _ _ ⟨rfl, ⟨_, rfl, v195, xs196, rfl, rfl, h197⟩⟩
     have h197 := h197 H163
     refine W_move rfl rfl rfl ?_
     refine W_extract rfl rfl rfl rfl ?_
     refine W_extract rfl rfl rfl rfl ?_
     refine W_alloc (cs := [.slice none 0 0]) rfl rfl zeroValue42 rfl (fun b198 => ?_)
     refine W_store (cs := [v195]) (out := [v195]) rfl sizeOf42 rfl rfl (Rw.cells h197) rfl rfl (all_cons (Rw.one h197) all_nil) (over_all rfl) ?_
     refine W_assign rfl rfl rfl ?_
     refine W_end (E_then (C_seq (C_region ?_)))
     refine W_makeFunc rfl rfl rfl rfl ?_
     refine W_alloc (cs := [.nilFunc]) rfl rfl zeroValue104 rfl (fun b199 => ?_)
     refine W_store (cs := [.func (.func 49) [].toArray [.pointer (some ⟨b198, 0, none⟩), .pointer (some ⟨b101, 0, none⟩)].toArray]) (out := [.func (.func 49) [].toArray [.pointer (some ⟨b198, 0, none⟩), .pointer (some ⟨b101, 0, none⟩)].toArray]) rfl sizeOf104 rfl rfl rfl rfl rfl (all_cons rfl all_nil) (over_all rfl) ?_
     refine W_end (E_then (C_seq (C_seq (C_region ?_))))
     refine W_move rfl rfl rfl ?_
     refine W_makeFunc rfl rfl rfl rfl ?_
     refine W_perm (List.Perm.trans (List.Perm.cons _ (List.Perm.cons _ (List.Perm.cons _ (List.Perm.swap _ _ _)))) (List.Perm.trans (List.Perm.cons _ (List.Perm.cons _ (List.Perm.swap _ _ _))) (List.Perm.trans (List.Perm.cons _ (List.Perm.swap _ _ _)) (List.Perm.trans (List.Perm.swap _ _ _) (List.Perm.trans (List.Perm.cons _ (List.Perm.cons _ (List.Perm.cons _ (List.Perm.swap _ _ _)))) (List.Perm.trans (List.Perm.cons _ (List.Perm.cons _ (List.Perm.swap _ _ _))) (List.Perm.trans (List.Perm.cons _ (List.Perm.swap _ _ _)) (List.Perm.trans (List.Perm.cons _ (List.Perm.cons _ (List.Perm.cons _ (List.Perm.cons _ (List.Perm.cons _ (List.Perm.swap _ _ _)))))) (List.Perm.trans (List.Perm.cons _ (List.Perm.cons _ (List.Perm.cons _ (List.Perm.cons _ (List.Perm.swap _ _ _))))) (List.Perm.trans (List.Perm.cons _ (List.Perm.cons _ (List.Perm.cons _ (List.Perm.cons _ (List.Perm.cons _ (List.Perm.cons _ (List.Perm.swap _ _ _))))))) (List.Perm.cons _ (List.Perm.cons _ (List.Perm.cons _ (List.Perm.cons _ (List.Perm.cons _ (List.Perm.swap _ _ _)))))))))))))))) ?_
     obtain ⟨r200, hc201, hm⟩ := bind_some hm
     refine W_call call14 rfl rfl rfl (fun w ht => by obtain ⟨H0_, hl0_, ht0_, hr0_, bk0_⟩ := ht.lendRow ((h6.mono hle108).mono hle164) rfl; obtain ⟨H1_, hl1_, ht1_, hr1_, bk1_⟩ := ht0_.lendRow (h197.mono hl0_) rfl; have h := m_slices_ContainsFunc_string_string__blackstart_perform_3S3_c (hm := hc201) (hr0_.mono hl1_) hr1_ ((((h0.mono hle108).mono hle164).mono hl0_).mono hl1_) ((hr162.mono hl0_).mono hl1_) ((((h2.mono hle108).mono hle164).mono hl0_).mono hl1_) ((((h3.mono hle108).mono hle164).mono hl0_).mono hl1_) ((((h4.mono hle108).mono hle164).mono hl0_).mono hl1_) ((((h5.mono hle108).mono hle164).mono hl0_).mono hl1_) ht1_; exact lend_back bk0_ (lend_back bk1_ (h))) ?_
     rintro _ _ _ ⟨rfl, ⟨_, rfl, ⟨_, rfl, rfl, rfl⟩⟩⟩
     refine W_un rfl rfl rfl rfl ?_
     refine W_end (E_then ?_)
     refine C_cond (b := !r200) rfl (fun hb202 => ?_) (fun hb202 => ?_)
     ·have hm := ite_t' hb202 hm
      refine C_seq (C_region ?_)
      refine W_assign rfl rfl rfl ?_
      refine W_end (E_then (C_ret (E_ret_then ?_)))
      obtain rfl := Option.some.inj hm
      refine E_drop (List.Sublist.cons_cons _ (List.Sublist.cons _ (List.Sublist.cons _ (List.Sublist.cons _ (List.Sublist.cons _ (List.Sublist.cons_cons _ (List.Sublist.cons_cons _ (List.Sublist.cons _ (List.Sublist.refl _))))))))) ?_
      refine E_perm (List.Perm.trans (List.Perm.swap _ _ _) (List.Perm.cons _ (List.Perm.swap _ _ _))) ?_
      exact end1 rfl rfl ⟨(Hp.le_trans hle108 hle164), v0, v1, xs160, v2, v3, v4, v5, rfl, rfl, ((h0.mono hle108).mono hle164), hr162, ((h2.mono hle108).mono hle164), ((h3.mono hle108).mono hle164), ((h4.mono hle108).mono hle164), ((h5.mono hle108).mono hle164)⟩
     ·have hm := ite_f' hb202 hm
      refine C_skip (E_then (C_seq (C_region ?_)))
      refine W_assign rfl rfl rfl ?_
      refine W_end (E_then (C_ret ?_))
      obtain rfl := Option.some.inj hm
      refine E_drop (List.Sublist.cons_cons _ (List.Sublist.cons _ (List.Sublist.cons _ (List.Sublist.cons _ (List.Sublist.cons _ (List.Sublist.cons_cons _ (List.Sublist.cons_cons _ (List.Sublist.cons _ (List.Sublist.refl _))))))))) ?_
      refine E_perm (List.Perm.trans (List.Perm.swap _ _ _) (List.Perm.cons _ (List.Perm.swap _ _ _))) ?_
      exact end1 rfl rfl ⟨(Hp.le_trans hle108 hle164), v0, v1, xs160, v2, v3, v4, v5, rfl, rfl, ((h0.mono hle108).mono hle164), hr162, ((h2.mono hle108).mono hle164), ((h3.mono hle108).mono hle164), ((h4.mono hle108).mono hle164), ((h5.mono hle108).mono hle164)⟩

theorem m_blackstart_Verify_c {B : Nat} {w0 w : World} {H : Hp} {M : List Res} {p0_n : S_api_Network} {sources : (List ByteArray)} {p2_l : (List S_api_BlackstartStep)} {v0 : Value} {v1 : Value} {v2 : Value} {v3 : Value} {v4 : Value} {v5 : Value} {v6 : Value} {v7 : Value} {r : S_api_Network × Int × Int} (hm : m_blackstart_Verify p0_n sources p2_l = some r) (h0 : RdS H v0 p0_n.Nodes) (h1 : RdS H v1 p0_n.Switches) (h2 : RdS H v2 p0_n.Branches) (h3 : RdS H v3 p0_n.Gens) (h4 : RdS H v4 p0_n.Loads) (h5 : RdS H v5 p0_n.Stores) (h6 : RdS H v6 sources) (h7 : RdS H v7 p2_l) (ht : St B w0 H (M) w) :
  Calls prog 10 [.agg [v0, v1, v2, v3, v4, v5].toArray, v6, v7].toArray w (Ret B w0 fun H' M' v => H.le H' ∧ ∃ qv0 : Value, ∃ qv1 : Value, ∃ qv2 : Value, ∃ qv3 : Value, ∃ qv4 : Value, ∃ qv5 : Value, M = M' ∧ .tuple #[.agg [qv0, qv1, qv2, qv3, qv4, qv5].toArray, .int .i64 (r.2.1), .int .i64 (r.2.2)] = v ∧ RdS H' qv0 r.1.Nodes ∧ RdS H' qv1 r.1.Switches ∧ RdS H' qv2 r.1.Branches ∧ RdS H' qv3 r.1.Gens ∧ RdS H' qv4 r.1.Loads ∧ RdS H' qv5 r.1.Stores) := by
 unfold m_blackstart_Verify at hm
 refine enter func10 rfl rfl rfl ht ?_
 refine C_seq (C_region ?_)
 refine W_box (cs := [v0, v1, v2, v3, v4, v5]) rfl rfl rfl rfl (fun b101 => ?_)
 refine W_alloc (cs := [.slice none 0 0, .slice none 0 0, .slice none 0 0, .slice none 0 0, .slice none 0 0, .slice none 0 0]) rfl rfl zeroValue29 rfl (fun b102 => ?_)
 refine W_assign rfl rfl rfl ?_
 refine W_assign rfl rfl rfl ?_
 refine W_end (E_then (C_seq (C_seq (C_region ?_))))
 refine W_loadAgg rfl rfl isAgg29 sizeOf29 rfl (own_all (List.mem_cons_of_mem _ (List.mem_cons_self ..))) rfl ?_
 refine W_move rfl rfl rfl ?_
 obtain ⟨r103, hc104, hm⟩ := bind_some hm
 refine W_call call22 rfl rfl rfl (fun w ht => by have h := m_blackstart_check_c (hm := hc104) h0 h1 h2 h3 h4 h5 h6 ht; exact h) ?_
 rintro _ _ _ ⟨rfl, rfl, rfl⟩
 refine W_assign rfl rfl rfl ?_
 refine W_end (E_then (C_seq (C_region ?_)))
 refine W_move rfl rfl rfl ?_
 refine W_bin rfl rfl rfl rfl rfl ?_
 refine W_end (E_then ?_)
 refine C_cond (b := !decide (r103 = 0)) rfl (fun hb105 => ?_) (fun hb105 => ?_)
 ·have hm := ite_t' hb105 hm
  refine C_seq (C_region ?_)
  refine W_build (css := []) (zs := [.slice none 0 0, .slice none 0 0, .slice none 0 0, .slice none 0 0, .slice none 0 0, .slice none 0 0]) (out := [.slice none 0 0, .slice none 0 0, .slice none 0 0, .slice none 0 0, .slice none 0 0, .slice none 0 0]) (places := [(0, 1), (1, 1), (2, 1), (3, 1), (4, 1), (5, 1)]) rfl rfl rfl trivial zeroValue29 rfl runUnderlying29 (fun w => by kernel_rfl) rfl ?_
  refine W_move rfl rfl rfl ?_
  refine W_store (cs := [.slice none 0 0, .slice none 0 0, .slice none 0 0, .slice none 0 0, .slice none 0 0, .slice none 0 0]) (out := [.slice none 0 0, .slice none 0 0, .slice none 0 0, .slice none 0 0, .slice none 0 0, .slice none 0 0]) rfl sizeOf29 rfl rfl rfl rfl rfl (all_cons rfl (all_cons rfl (all_cons rfl (all_cons rfl (all_cons rfl (all_cons rfl all_nil)))))) (over_all rfl) ?_
  refine W_assign rfl rfl rfl ?_
  refine W_assign rfl rfl rfl ?_
  refine W_end (E_then (C_ret (E_ret_then ?_)))
  obtain rfl := Option.some.inj hm
  exact endC3 (Hp.le_refl _) rfl (ResV.agg rfl isAgg29 sizeOf29 (List.mem_cons_self ..) rfl) (ResV.tmp rfl) (ResV.tmp rfl) (List.Sublist.cons _ (List.Sublist.cons _ (List.Sublist.refl _))) (List.Perm.refl _) ⟨(Hp.le_refl _), (.slice none 0 0), (.slice none 0 0), (.slice none 0 0), (.slice none 0 0), (.slice none 0 0), (.slice none 0 0), rfl, rfl, RdS.nil, RdS.nil, RdS.nil, RdS.nil, RdS.nil, RdS.nil⟩
 ·have hm := ite_f' hb105 hm
  refine C_skip (E_then (C_seq (C_seq (C_region ?_))))
  refine W_move rfl rfl rfl ?_
  refine W_lenR rfl rfl runUnderlying31 rfl h7 ?_
  refine W_bin rfl rfl rfl rfl rfl ?_
  refine W_end (E_then ?_)
  refine C_cond (b := decide (10 < (p2_l.length : Int))) rfl (fun hb106 => ?_) (fun hb106 => ?_)
  ·have hm := ite_t' hb106 hm
   refine C_seq (C_region ?_)
   refine W_build (css := []) (zs := [.slice none 0 0, .slice none 0 0, .slice none 0 0, .slice none 0 0, .slice none 0 0, .slice none 0 0]) (out := [.slice none 0 0, .slice none 0 0, .slice none 0 0, .slice none 0 0, .slice none 0 0, .slice none 0 0]) (places := [(0, 1), (1, 1), (2, 1), (3, 1), (4, 1), (5, 1)]) rfl rfl rfl trivial zeroValue29 rfl runUnderlying29 (fun w => by kernel_rfl) rfl ?_
   refine W_store (cs := [.slice none 0 0, .slice none 0 0, .slice none 0 0, .slice none 0 0, .slice none 0 0, .slice none 0 0]) (out := [.slice none 0 0, .slice none 0 0, .slice none 0 0, .slice none 0 0, .slice none 0 0, .slice none 0 0]) rfl sizeOf29 rfl rfl rfl rfl rfl (all_cons rfl (all_cons rfl (all_cons rfl (all_cons rfl (all_cons rfl (all_cons rfl all_nil)))))) (over_all rfl) ?_
   refine W_assign rfl rfl rfl ?_
   refine W_assign rfl rfl rfl ?_
   refine W_end (E_then (C_ret (E_ret_then ?_)))
   obtain rfl := Option.some.inj hm
   exact endC3 (Hp.le_refl _) rfl (ResV.agg rfl isAgg29 sizeOf29 (List.mem_cons_self ..) rfl) (ResV.tmp rfl) (ResV.tmp rfl) (List.Sublist.cons _ (List.Sublist.cons _ (List.Sublist.refl _))) (List.Perm.refl _) ⟨(Hp.le_refl _), (.slice none 0 0), (.slice none 0 0), (.slice none 0 0), (.slice none 0 0), (.slice none 0 0), (.slice none 0 0), rfl, rfl, RdS.nil, RdS.nil, RdS.nil, RdS.nil, RdS.nil, RdS.nil⟩
  ·have hm := ite_f' hb106 hm
   refine C_skip (E_then (C_seq (C_region ?_)))
   refine W_loadAgg rfl rfl isAgg29 sizeOf29 rfl (own_all (List.mem_cons_of_mem _ (List.mem_cons_self ..))) rfl ?_
   obtain ⟨r107, hc108, hm⟩ := bind_some hm
   refine W_call call23 rfl rfl rfl (fun w ht => by have h := m_netmodel_Copy_c (hm := hc108) h0 h1 h2 h3 h4 h5 ht; exact h) ?_
   rintro _ _ _ ⟨rfl, v109, xs110, v112, xs113, v115, xs116, v118, xs119, v121, xs122, v124, xs125, rfl, rfl, h111, h114, h117, h120, h123, h126⟩
   have h111 := h111 H
   have h114 := h114 H
   have h117 := h117 H
   have h120 := h120 H
   have h123 := h123 H
   have h126 := h126 H
   refine W_perm (List.Perm.trans (List.Perm.cons _ (List.Perm.cons _ (List.Perm.cons _ (List.Perm.cons _ (List.Perm.cons _ (List.Perm.cons _ (List.Perm.swap _ _ _))))))) (List.Perm.trans (List.Perm.cons _ (List.Perm.cons _ (List.Perm.cons _ (List.Perm.cons _ (List.Perm.cons _ (List.Perm.swap _ _ _)))))) (List.Perm.trans (List.Perm.cons _ (List.Perm.cons _ (List.Perm.cons _ (List.Perm.cons _ (List.Perm.swap _ _ _))))) (List.Perm.trans (List.Perm.cons _ (List.Perm.cons _ (List.Perm.cons _ (List.Perm.swap _ _ _)))) (List.Perm.trans (List.Perm.cons _ (List.Perm.cons _ (List.Perm.swap _ _ _))) (List.Perm.trans (List.Perm.cons _ (List.Perm.swap _ _ _)) (List.Perm.swap _ _ _))))))) ?_
   refine W_store (cs := [v109, v112, v115, v118, v121, v124]) (out := [v109, v112, v115, v118, v121, v124]) rfl sizeOf29 rfl rfl rfl rfl rfl (all_cons (Rw.one h111) (all_cons (Rw.one h114) (all_cons (Rw.one h117) (all_cons (Rw.one h120) (all_cons (Rw.one h123) (all_cons (Rw.one h126) all_nil)))))) (over_all rfl) ?_
   refine W_end (E_then (C_seq (C_region ?_)))
   refine W_move rfl rfl rfl ?_
   obtain ⟨hz127, hm⟩ := need_some hm
   refine W_call call21 rfl rfl rfl (fun w ht => by have h := clone21_c (s := sources) h6 hz127 ht; exact h) ?_
   rintro _ _ _ ⟨rfl, v128, xs129, rfl, rfl, hr130⟩
   have hr130 := hr130 H
   refine W_assign rfl rfl rfl ?_
   refine W_end (E_then (C_seq (C_seq (C_region ?_))))
   refine W_move rfl rfl rfl ?_
   refine W_lenR rfl rfl runUnderlying31 rfl h7 ?_
   refine W_move rfl rfl rfl ?_
   refine W_end (E_then (C_block ?_))
   refine C_perm (List.Perm.trans (List.Perm.cons _ (List.Perm.swap _ _ _)) (List.Perm.swap _ _ _)) ?_
   refine C_freeze (h111).rd rfl (fun H337 hle338 h339 => ?_)
   refine C_perm (List.Perm.trans (List.Perm.cons _ (List.Perm.cons _ (List.Perm.swap _ _ _))) (List.Perm.trans (List.Perm.cons _ (List.Perm.swap _ _ _)) (List.Perm.swap _ _ _))) ?_
   refine C_freeze ((h117.mono hle338)).rd rfl (fun H340 hle341 h342 => ?_)
   refine C_perm (List.Perm.trans (List.Perm.cons _ (List.Perm.cons _ (List.Perm.swap _ _ _))) (List.Perm.trans (List.Perm.cons _ (List.Perm.swap _ _ _)) (List.Perm.swap _ _ _))) ?_
   refine C_freeze (((h120.mono hle338).mono hle341)).rd rfl (fun H343 hle344 h345 => ?_)
   refine C_perm (List.Perm.trans (List.Perm.cons _ (List.Perm.cons _ (List.Perm.swap _ _ _))) (List.Perm.trans (List.Perm.cons _ (List.Perm.swap _ _ _)) (List.Perm.swap _ _ _))) ?_
   refine C_freeze ((((h123.mono hle338).mono hle341).mono hle344)).rd rfl (fun H346 hle347 h348 => ?_)
   refine C_perm (List.Perm.trans (List.Perm.cons _ (List.Perm.cons _ (List.Perm.swap _ _ _))) (List.Perm.trans (List.Perm.cons _ (List.Perm.swap _ _ _)) (List.Perm.swap _ _ _))) ?_
   refine C_freeze (((((h126.mono hle338).mono hle341).mono hle344).mono hle347)).rd rfl (fun H349 hle350 h351 => ?_)
   refine C_keep (L' := [(3, .pointer (some ⟨b101, 0, none⟩)), (6, .pointer (some ⟨b102, 0, none⟩)), (10, v128), (29, v7), (30, .int .i64 ((p2_l.length : Int))), (31, .int .i64 (((0 : Nat) : Int)))]) ⟨rfl, rfl, rfl, rfl, rfl, rfl, trivial⟩ (List.Perm.cons _ (List.Perm.swap _ _ _)) ?_
   refine C_loop (fun n H' M' L' => ∃ (k131 : Nat) (zs295' : List S_api_BlackstartStep), ∃ l267 : List ByteArray, ∃ l270 : (List ByteArray), ∃ l274 : List S_api_Switch, ∃ l277 : (List S_api_Branch), ∃ l280 : (List S_api_Gen), ∃ l283 : (List S_api_Load), ∃ l286 : (List S_api_Store), ∃ v265 : Value, ∃ xs266 : List Value, ∃ v269 : Value, ∃ v272 : Value, ∃ xs273 : List Value, ∃ v276 : Value, ∃ v279 : Value, ∃ v282 : Value, ∃ v285 : Value, (p2_l).drop k131 = zs295' ∧ zs295'.length = n ∧ forI (fun k y s290 n => m_blackstart_Verify_b1 k y s290.1 s290.2.1 s290.2.2.1 s290.2.2.2.1 s290.2.2.2.2.1 s290.2.2.2.2.2.1 s290.2.2.2.2.2.2 n) (fun s290 => some ((S_api_Network.mk s290.2.1 s290.2.2.1 s290.2.2.2.1 s290.2.2.2.2.1 s290.2.2.2.2.2.1 s290.2.2.2.2.2.2), 0, 0)) k131 zs295' (l267, l270, l274, l277, l280, l283, l286) = some r ∧ Rw H' v265 xs266 l267 ∧ RdS H' v269 l270 ∧ Rw H' v272 xs273 l274 ∧ RdS H' v276 l277 ∧ RdS H' v279 l280 ∧ RdS H' v282 l283 ∧ RdS H' v285 l286 ∧ H.le H' ∧ .row v265 9 (Rep.sz ByteArray) l267.length xs266 :: .row v272 70 (Rep.sz S_api_Switch) l274.length xs273 :: .obj b101 (.cells [v269, v272, v276, v279, v282, v285].toArray 29 (0, 0)) :: .obj b102 (.cells ([.slice none 0 0, .slice none 0 0, .slice none 0 0, .slice none 0 0, .slice none 0 0, .slice none 0 0] : List Value).toArray 29 (0, 0)) :: M = M' ∧ [(3, .pointer (some ⟨b101, 0, none⟩)), (6, .pointer (some ⟨b102, 0, none⟩)), (10, v265), (29, v7), (30, .int .i64 ((p2_l.length : Int))), (31, .int .i64 ((k131 : Int)))] = L') _ ⟨0, _, sources, r107.Nodes, r107.Switches, r107.Branches, r107.Gens, r107.Loads, r107.Stores, v128, xs129, v109, v112, xs113, v115, v118, v121, v124, rfl, rfl, hm, (((((hr130.mono hle338).mono hle341).mono hle344).mono hle347).mono hle350), ((((h339.mono hle341).mono hle344).mono hle347).mono hle350), (((((h114.mono hle338).mono hle341).mono hle344).mono hle347).mono hle350), (((h342.mono hle344).mono hle347).mono hle350), ((h345.mono hle347).mono hle350), (h348.mono hle350), h351, (Hp.le_trans (Hp.le_trans (Hp.le_trans (Hp.le_trans hle338 hle341) hle344) hle347) hle350), rfl, rfl⟩ ?_
   rintro _ H288 _ _ ⟨k131, zs295', l267, l270, l274, l277, l280, l283, l286, v265, xs266, v269, v272, xs273, v276, v279, v282, v285, hd297, rfl, hm, hr268, h271, hr275, h278, h281, h284, h287, hle289, rfl, rfl⟩
   refine C_seq (C_region ?_)
   refine W_bin rfl rfl rfl rfl rfl ?_
   refine W_end (E_then (C_seq ?_))
   refine C_cond (b := decide ((k131 : Int) < (p2_l.length : Int))) rfl (fun hb299 => ?_) (fun hb299 => ?_)
   ·obtain ⟨y294, zs295, rfl, hy296, hd298⟩ := rng_t hd297 hb299
    have hm : m_blackstart_Verify_b1 k131 y294 l267 l270 l274 l277 l280 l283 l286 (forI (fun k y s290 n => m_blackstart_Verify_b1 k y s290.1 s290.2.1 s290.2.2.1 s290.2.2.2.1 s290.2.2.2.2.1 s290.2.2.2.2.2.1 s290.2.2.2.2.2.2 n) (fun s290 => some ((S_api_Network.mk s290.2.1 s290.2.2.1 s290.2.2.2.1 s290.2.2.2.2.1 s290.2.2.2.2.2.1 s290.2.2.2.2.2.2), 0, 0)) (k131 + 1) zs295) = some r := hm
    generalize hn292 : forI (fun k y s290 n => m_blackstart_Verify_b1 k y s290.1 s290.2.1 s290.2.2.1 s290.2.2.2.1 s290.2.2.2.2.1 s290.2.2.2.2.2.1 s290.2.2.2.2.2.2 n) (fun s290 => some ((S_api_Network.mk s290.2.1 s290.2.2.1 s290.2.2.2.1 s290.2.2.2.2.1 s290.2.2.2.2.2.1 s290.2.2.2.2.2.2), 0, 0)) (k131 + 1) zs295 = nx291 at hm
    unfold m_blackstart_Verify_b1 at hm
    refine C_skip (E_then (C_seq (C_block (C_seq (C_region ?_)))))
    refine W_move rfl rfl rfl ?_
    obtain ⟨_, ⟨v301, rfl, h302⟩, hc300⟩ := (h7).elem hy296
    refine W_indexS rfl rfl runUnderlying31 sizeOf38 rfl (h7.mono hle289) rfl (Int.natCast_nonneg _) hy296 ?_
    refine W_loadAgg rfl rfl isAgg38 sizeOf38 rfl (hc300.mono hle289).at rfl ?_
    refine W_alloc (cs := [.string (⟨#[]⟩), .slice none 0 0]) rfl rfl zeroValue38 rfl (fun b303 => ?_)
    refine W_assign rfl rfl rfl ?_
    refine W_store (cs := [.string (y294.Gen), v301]) (out := [.string (y294.Gen), v301]) rfl sizeOf38 rfl rfl rfl rfl rfl (all_cons rfl (all_cons (RdS.one1 (h302.mono hle289)) all_nil)) (over_all rfl) ?_
    refine W_end (E_then (C_seq (C_seq (C_region ?_))))
    refine W_move rfl rfl rfl ?_
    refine W_loadAgg rfl rfl isAgg38 sizeOf38 rfl (own_all (List.mem_cons_self ..)) rfl ?_
    refine W_perm (List.Perm.trans (List.Perm.cons _ (List.Perm.cons _ (List.Perm.swap _ _ _))) (List.Perm.trans (List.Perm.cons _ (List.Perm.swap _ _ _)) (List.Perm.trans (List.Perm.swap _ _ _) (List.Perm.trans (List.Perm.cons _ (List.Perm.cons _ (List.Perm.swap _ _ _))) (List.Perm.trans (List.Perm.cons _ (List.Perm.swap _ _ _)) (List.Perm.cons _ (List.Perm.cons _ (List.Perm.swap _ _ _)))))))) ?_
    obtain ⟨r304, hc305, hm⟩ := bind_some hm
    refine W_call call29 rfl rfl rfl (fun w ht => by have h := m_blackstart_perform_c (hm := hc305) h271 hr275 h278 h281 h284 h287 hr268 (h302.mono hle289) ht; exact h) ?_
    rintro _ H320 _ ⟨hle321, v307, v309, xs310, v312, v314, v316, v318, rfl, rfl, h308, h311, h313, h315, h317, h319⟩
    refine W_assign rfl rfl rfl ?_
    refine W_end (E_then (C_seq (C_region ?_)))
    refine W_move rfl rfl rfl ?_
    refine W_bin rfl rfl rfl rfl rfl ?_
    refine W_end (E_then ?_)
    refine C_cond (b := !decide (r304.1 = 0)) rfl (fun hb322 => ?_) (fun hb322 => ?_)
    ·have hm := ite_t' hb322 hm
     refine C_seq (C_region ?_)
     refine W_build (css := []) (zs := [.slice none 0 0, .slice none 0 0, .slice none 0 0, .slice none 0 0, .slice none 0 0, .slice none 0 0]) (out := [.slice none 0 0, .slice none 0 0, .slice none 0 0, .slice none 0 0, .slice none 0 0, .slice none 0 0]) (places := [(0, 1), (1, 1), (2, 1), (3, 1), (4, 1), (5, 1)]) rfl rfl rfl trivial zeroValue29 rfl runUnderlying29 (fun w => by kernel_rfl) rfl ?_
     refine W_move rfl rfl rfl ?_
     refine W_move rfl rfl rfl ?_
     refine W_perm (List.Perm.trans (List.Perm.cons _ (List.Perm.cons _ (List.Perm.cons _ (List.Perm.swap _ _ _)))) (List.Perm.trans (List.Perm.cons _ (List.Perm.cons _ (List.Perm.swap _ _ _))) (List.Perm.trans (List.Perm.cons _ (List.Perm.swap _ _ _)) (List.Perm.swap _ _ _)))) ?_
     refine W_store (cs := [.slice none 0 0, .slice none 0 0, .slice none 0 0, .slice none 0 0, .slice none 0 0, .slice none 0 0]) (out := [.slice none 0 0, .slice none 0 0, .slice none 0 0, .slice none 0 0, .slice none 0 0, .slice none 0 0]) rfl sizeOf29 rfl rfl rfl rfl rfl (all_cons rfl (all_cons rfl (all_cons rfl (all_cons rfl (all_cons rfl (all_cons rfl all_nil)))))) (over_all rfl) ?_
     refine W_assign rfl rfl rfl ?_
     refine W_assign rfl rfl rfl ?_
     refine W_end (E_then (C_ret (E_ret_then (E_ret_block (E_ret_then (E_ret_then (E_ret_block (E_ret_then ?_))))))))
     obtain rfl := Option.some.inj hm
     exact endC3 (Hp.le_refl _) rfl (ResV.agg rfl isAgg29 sizeOf29 (List.mem_cons_self ..) rfl) (ResV.tmp rfl) (ResV.tmp rfl) (List.Sublist.cons _ (List.Sublist.cons _ (List.Sublist.cons _ (List.Sublist.cons _ (List.Sublist.cons _ (List.Sublist.refl _)))))) (List.Perm.refl _) ⟨(Hp.le_trans hle289 hle321), (.slice none 0 0), (.slice none 0 0), (.slice none 0 0), (.slice none 0 0), (.slice none 0 0), (.slice none 0 0), rfl, rfl, RdS.nil, RdS.nil, RdS.nil, RdS.nil, RdS.nil, RdS.nil⟩
    ·have hm := ite_f' hb322 hm
     refine C_skip (E_then (C_region ?_))
     refine W_move rfl rfl rfl ?_
     refine W_field (o := 0) rfl rfl runUnderlying38 rfl sizeOf9 rfl rfl rfl ?_
     refine W_load rfl rfl isAgg9 rfl (own_at (List.mem_cons_of_mem _ (List.mem_cons_of_mem _ (List.mem_cons_of_mem _ (List.mem_cons_self ..)))) rfl) ?_
     refine W_buildSlice (α := ByteArray) (css := [[.string (y294.Gen)]]) (zs := [.string (⟨#[]⟩)]) (out := [.string (y294.Gen)]) (ys := [y294.Gen]) rfl rfl rfl ⟨rfl, trivial⟩ runUnderlying22 sizeOf9 rfl zeroValue9 (by kernel_rfl) rfl rfl rfl rfl ⟨[.string (y294.Gen)], [], rfl, rfl, rfl⟩ rfl ?_
     intro b323 v324 H325 hv326 hle327 h328
     have hc329 : Value.cap' v324 = ([y294.Gen]).length := by rw [hv326]; rfl
     obtain ⟨hz330, hm⟩ := need_some hm
     refine W_perm (List.Perm.trans (List.Perm.cons _ (List.Perm.swap _ _ _)) (List.Perm.swap _ _ _)) ?_
     refine W_appendO (α := ByteArray) (l := l267) (ys := [y294.Gen]) rfl rfl underlying22 ⟨_, rfl, rfl, rfl, rfl⟩ rfl rfl rfl rfl rfl ((hr268.mono hle321).mono hle327) h328 hz330 ?_
     intro v331 xs332 hr333
     refine W_assign rfl rfl rfl ?_
     refine W_end (E_normal_block (E_then (C_region ?_)))
     refine W_bin rfl rfl rfl rfl rfl ?_
     refine W_move rfl rfl rfl ?_
     refine W_end ?_
     refine E_drop (List.Sublist.cons_cons _ (List.Sublist.cons_cons _ (List.Sublist.cons_cons _ (List.Sublist.cons _ (List.Sublist.refl _))))) ?_
     exact E_keepJ (E_back (Nat.lt_succ_self _) ⟨k131 + 1, zs295, (l267 ++ ([y294.Gen])), r304.2.Nodes, r304.2.Switches, r304.2.Branches, r304.2.Gens, r304.2.Loads, r304.2.Stores, v331, xs332, v307, v309, xs310, v312, v314, v316, v318, hd298, rfl, (by rw [hn292]; exact hm), hr333, (h308.mono hle327), (h311.mono hle327), (h313.mono hle327), (h315.mono hle327), (h317.mono hle327), (h319.mono hle327), (Hp.le_trans (Hp.le_trans hle289 hle321) hle327), rfl, rfl⟩) (List.Perm.cons _ (List.Perm.swap _ _ _)) ⟨rfl, rfl, rfl, rfl, rfl, (congrArg (fun z => some (Value.int .i64 z)) (i64_succ hy296 ((h7.mono hle289)).lenMax)), trivial⟩
   ·obtain rfl := rng_f hd297 hb299
    have hm : (some ((S_api_Network.mk l270 l274 l277 l280 l283 l286), 0, 0)) = some r := hm
    refine C_exit (E_exit_then (E_exit_then (E_exit_hit (E_then (C_seq (C_region ?_))))))
    refine W_loadAgg rfl rfl isAgg29 sizeOf29 rfl (own_all (List.mem_cons_of_mem _ (List.mem_cons_of_mem _ (List.mem_cons_self ..)))) rfl ?_
    refine W_perm (List.Perm.trans (List.Perm.cons _ (List.Perm.cons _ (List.Perm.swap _ _ _))) (List.Perm.trans (List.Perm.cons _ (List.Perm.swap _ _ _)) (List.Perm.swap _ _ _))) ?_
    refine W_store (cs := [v269, v272, v276, v279, v282, v285]) (out := [v269, v272, v276, v279, v282, v285]) rfl sizeOf29 rfl rfl rfl rfl rfl (all_cons (RdS.one1 h271) (all_cons (Rw.one hr275) (all_cons (RdS.one1 h278) (all_cons (RdS.one1 h281) (all_cons (RdS.one1 h284) (all_cons (RdS.one1 h287) all_nil)))))) (over_all rfl) ?_
    refine W_assign rfl rfl rfl ?_
    refine W_assign rfl rfl rfl ?_
    refine W_end (E_then (C_ret ?_))
    refine E_perm (List.Perm.trans (List.Perm.cons _ (List.Perm.swap _ _ _)) (List.Perm.swap _ _ _)) ?_
    refine E_freeze (hr275).rd rfl (fun H334 hle335 h336 => ?_)
    obtain rfl := Option.some.inj hm
    exact endC3 (Hp.le_refl _) rfl (ResV.agg rfl isAgg29 sizeOf29 (List.mem_cons_self ..) rfl) (ResV.tmp rfl) (ResV.tmp rfl) (List.Sublist.cons _ (List.Sublist.cons _ (List.Sublist.cons _ (List.Sublist.refl _)))) (List.Perm.refl _) ⟨(Hp.le_trans hle289 hle335), v269, v272, v276, v279, v282, v285, rfl, rfl, (h271.mono hle335), h336, (h278.mono hle335), (h281.mono hle335), (h284.mono hle335), (h287.mono hle335)⟩

theorem m_gridhallkeep4_BlackstartLess_c {B : Nat} {w0 w : World} {H : Hp} {M : List Res} {p0_n : S_api_Network} {sources : (List ByteArray)} {p2_k : Int} {v0 : Value} {v1 : Value} {v2 : Value} {v3 : Value} {v4 : Value} {v5 : Value} {v6 : Value} {r : Bool} (hm : m_gridhallkeep4_BlackstartLess p0_n sources p2_k = some r) (h0 : RdS H v0 p0_n.Nodes) (h1 : RdS H v1 p0_n.Switches) (h2 : RdS H v2 p0_n.Branches) (h3 : RdS H v3 p0_n.Gens) (h4 : RdS H v4 p0_n.Loads) (h5 : RdS H v5 p0_n.Stores) (h6 : RdS H v6 sources) (ht : St B w0 H (M) w) :
  Calls prog 3 [.agg [v0, v1, v2, v3, v4, v5].toArray, v6, .int .i64 (p2_k)].toArray w (Ret B w0 fun H' M' v => H = H' ∧ M = M' ∧ .bool (r) = v) := by
 unfold m_gridhallkeep4_BlackstartLess at hm
 refine enter func3 rfl rfl rfl ht ?_
 refine C_seq (C_region ?_)
 refine W_box (cs := [v0, v1, v2, v3, v4, v5]) rfl rfl rfl rfl (fun b101 => ?_)
 refine W_assign rfl rfl rfl ?_
 refine W_end (E_then (C_seq (C_region ?_)))
 refine W_loadAgg rfl rfl isAgg29 sizeOf29 rfl (own_all (List.mem_cons_self ..)) rfl ?_
 obtain ⟨r102, hc103, hm⟩ := bind_some hm
 refine W_call call6 rfl rfl rfl (fun w ht => by have h := m_gridhallkeep4_cut_c (hm := hc103) h0 h1 h2 h3 h4 h5 ht; exact h) ?_
 rintro _ H116 _ ⟨hle117, v104, v106, v108, v110, v112, v114, rfl, rfl, h105, h107, h109, h111, h113, h115⟩
 refine W_store (cs := [v104, v106, v108, v110, v112, v114]) (out := [v104, v106, v108, v110, v112, v114]) rfl sizeOf29 rfl rfl rfl rfl rfl (all_cons (RdS.one1 h105) (all_cons (RdS.one1 h107) (all_cons (RdS.one1 h109) (all_cons (RdS.one1 h111) (all_cons (RdS.one1 h113) (all_cons (RdS.one1 h115) all_nil)))))) (over_all rfl) ?_
 refine W_end (E_then (C_seq (C_region ?_)))
 refine W_loadAgg rfl rfl isAgg29 sizeOf29 rfl (own_all (List.mem_cons_self ..)) rfl ?_
 refine W_move rfl rfl rfl ?_
 obtain ⟨r118, hc119, hm⟩ := bind_some hm
 refine W_call call7 rfl rfl rfl (fun w ht => by have h := m_blackstart_Plan_c (hm := hc119) h105 h107 h109 h111 h113 h115 (h6.mono hle117) ht; exact h) ?_
 rintro _ H123 _ ⟨hle124, v120, xs121, rfl, rfl, h122⟩
 refine W_move rfl rfl rfl ?_
 refine W_extract rfl rfl rfl rfl ?_
 refine W_extract rfl rfl rfl rfl ?_
 refine W_assign rfl rfl rfl ?_
 refine W_assign rfl rfl rfl ?_
 refine W_end (E_then (C_seq ?_))
 refine C_seq_join (fun H' M' L' => H123 = H' ∧ .row v120 38 (Rep.sz S_api_BlackstartStep) r118.1.length xs121 :: .obj b101 (.cells [v104, v106, v108, v110, v112, v114].toArray 29 (0, 0)) :: M = M' ∧ [(1, v6), (2, .int .i64 (p2_k)), (3, .pointer (some ⟨b101, 0, none⟩)), (7, v120), (26, .bool ((!decide (r118.2 = 0)) || (decide ((r118.1.length : Int) = 0))))] = L') ?_ (fun J126 => ?_)
 ·rintro _ _ _ ⟨rfl, rfl, rfl⟩
  refine C_cond (b := (!decide (r118.2 = 0)) || (decide ((r118.1.length : Int) = 0))) rfl (fun hb127 => ?_) (fun hb127 => ?_)
  ·have hm := ite_t' hb127 hm
   refine C_seq (C_region ?_)
   obtain ⟨r128, hc129, hm⟩ := bind_some hm
   refine W_call call8 rfl rfl rfl (fun w ht => by have h := m_gridhallkeep4_blackstartFact_c (hm := hc129)  ht; exact h) ?_
   rintro _ _ _ ⟨rfl, rfl, rfl⟩
   refine W_assign rfl rfl rfl ?_
   refine W_end (E_then (C_ret (E_ret_then ?_)))
   obtain rfl := Option.some.inj hm
   refine E_drop (List.Sublist.cons _ (List.Sublist.cons _ (List.Sublist.refl _))) ?_
   refine E_weak (Hp.le_trans hle117 hle124) ?_
   exact end1 rfl rfl ⟨rfl, rfl, rfl⟩
  ·have hm := ite_f' hb127 hm
   refine C_skip (E_then (C_seq (C_region ?_)))
   refine W_move rfl rfl rfl ?_
   refine W_move rfl rfl rfl ?_
   refine W_lenO (List.mem_cons_self ..) rfl rfl runUnderlying31 rfl ?_
   refine W_bin rfl rfl rfl rfl rfl ?_
   obtain ⟨r130, hc131, hm⟩ := bind_some hm
   refine W_call call9 rfl rfl rfl (fun w ht => by have h := m_gridhallref4_Cut_c (hm := hc131)  ht; exact h) ?_
   rintro _ _ _ ⟨rfl, rfl, rfl⟩
   refine W_assign rfl rfl rfl ?_
   refine W_end (E_then (C_seq (C_seq (C_region ?_))))
   refine W_move rfl rfl rfl ?_
   refine W_move rfl rfl rfl ?_
   obtain ⟨y132, h133, he134, hm⟩ := idx_some hm
   refine W_indexO (List.mem_cons_self ..) rfl rfl runUnderlying31 sizeOf38 rfl rfl h133 (List.getElem?_eq_some_iff.1 he134).1 ?_
   obtain ⟨_, ⟨v136, rfl, h137⟩, hg135⟩ := (h122).elem he134
   refine W_field (o := 1) rfl rfl runUnderlying38 rfl sizeOf22 rfl rfl rfl ?_
   refine W_load rfl rfl isAgg22 rfl (row_one (o := 1) (List.mem_cons_self ..) hg135 rfl) ?_
   refine W_lenR rfl rfl runUnderlying22 rfl h137 ?_
   refine W_bin rfl rfl rfl rfl rfl ?_
   refine W_end (E_then ?_)
   refine C_cond (b := decide ((y132.Devices.length : Int) = 0)) rfl (fun hb138 => ?_) (fun hb138 => ?_)
   ·have hm := ite_t' hb138 hm
    refine C_seq (C_region ?_)
    obtain ⟨r139, hc140, hm⟩ := bind_some hm
    refine W_call call8 rfl rfl rfl (fun w ht => by have h := m_gridhallkeep4_blackstartFact_c (hm := hc140)  ht; exact h) ?_
    rintro _ _ _ ⟨rfl, rfl, rfl⟩
    refine W_assign rfl rfl rfl ?_
    refine W_end (E_then (C_ret (E_ret_then ?_)))
    obtain rfl := Option.some.inj hm
    refine E_drop (List.Sublist.cons _ (List.Sublist.cons _ (List.Sublist.refl _))) ?_
    refine E_weak (Hp.le_trans hle117 hle124) ?_
    exact end1 rfl rfl ⟨rfl, rfl, rfl⟩
   ·have hm := ite_f' hb138 hm
    refine C_skip (E_then (C_seq (C_region ?_)))
    refine W_move rfl rfl rfl ?_
    refine W_move rfl rfl rfl ?_
    obtain ⟨y141, h142, he143, hm⟩ := idx_some hm
    refine W_indexO (List.mem_cons_self ..) rfl rfl runUnderlying31 sizeOf38 rfl rfl h142 (List.getElem?_eq_some_iff.1 he143).1 ?_
    obtain ⟨_, ⟨v145, rfl, h146⟩, hg144⟩ := (h122).elem he143
    refine W_field (o := 1) rfl rfl runUnderlying38 rfl sizeOf22 rfl rfl rfl ?_
    obtain ⟨hr147, he148, hg149⟩ := Rw.put (cs := [.slice none 0 0]) (o := 1) (c := [.string (y141.Gen), v145]) (out := [.string (y141.Gen), .slice none 0 0]) (e2 := (S_api_BlackstartStep.mk y141.Gen [])) h122 he143 ⟨v145, rfl, h146⟩ hg144 rfl rfl ⟨.slice none 0 0, rfl, RdS.nil⟩
    refine W_storeO2 (i := (r130 : Int).toNat * Rep.sz S_api_BlackstartStep + 1) (cs := [.slice none 0 0]) rfl sizeOf22 rfl (row_ad _ _ _) rfl rfl rfl (Rw.room h122 he143 rfl) rfl (all_cons rfl all_nil) (n' := (r118.1.set ((r130 : Int).toNat) (S_api_BlackstartStep.mk y141.Gen [])).length) List.length_set ?_
    generalize over xs121 ((r130 : Int).toNat * Rep.sz S_api_BlackstartStep + 1) [.slice none 0 0] = xs150 at hr147 hg149 ⊢
    refine W_end (E_then (C_seq (C_region ?_)))
    refine W_loadAgg rfl rfl isAgg29 sizeOf29 rfl (own_all (List.mem_cons_of_mem _ (List.mem_cons_self ..))) rfl ?_
    refine W_move rfl rfl rfl ?_
    refine W_move rfl rfl rfl ?_
    refine W_freeze (hr147).rd rfl (fun H151 hle152 h153 => ?_)
    obtain ⟨r154, hc155, hm⟩ := bind_some hm
    refine W_call call10 rfl rfl rfl (fun w ht => by have h := m_blackstart_Verify_c (hm := hc155) ((h105.mono hle124).mono hle152) ((h107.mono hle124).mono hle152) ((h109.mono hle124).mono hle152) ((h111.mono hle124).mono hle152) ((h113.mono hle124).mono hle152) ((h115.mono hle124).mono hle152) (((h6.mono hle117).mono hle124).mono hle152) h153 ht; exact h) ?_
    rintro _ H168 _ ⟨hle169, v156, v158, v160, v162, v164, v166, rfl, rfl, h157, h159, h161, h163, h165, h167⟩
    refine W_move rfl rfl rfl ?_
    refine W_extract rfl rfl rfl rfl ?_
    refine W_extract rfl rfl rfl rfl ?_
    refine W_extract rfl rfl rfl rfl ?_
    refine W_alloc (cs := [.slice none 0 0, .slice none 0 0, .slice none 0 0, .slice none 0 0, .slice none 0 0, .slice none 0 0]) rfl rfl zeroValue29 rfl (fun b170 => ?_)
    refine W_store (cs := [v156, v158, v160, v162, v164, v166]) (out := [v156, v158, v160, v162, v164, v166]) rfl sizeOf29 rfl rfl rfl rfl rfl (all_cons (RdS.one1 h157) (all_cons (RdS.one1 h159) (all_cons (RdS.one1 h161) (all_cons (RdS.one1 h163) (all_cons (RdS.one1 h165) (all_cons (RdS.one1 h167) all_nil)))))) (over_all rfl) ?_
    refine W_assign rfl rfl rfl ?_
    refine W_assign rfl rfl rfl ?_
    refine W_end (E_then ?_)
    obtain ⟨r175, hc176, hm⟩ := bind_some hm
    refine C_seq_join (fun H' M' L' => H168 = H' ∧ M = M' ∧ [(6, .bool ((r175 && (decide (r154.2.2 = 15))) && (decide (r154.2.1 = r130))))] = L') ?_ (fun J177 => ?_)
    ·rintro _ _ _ ⟨rfl, rfl, rfl⟩
     refine C_ret ?_
     obtain rfl := Option.some.inj hm
     refine E_weak (Hp.le_trans (Hp.le_trans (Hp.le_trans hle117 hle124) hle152) hle169) ?_
     exact end1 rfl rfl ⟨rfl, rfl, rfl⟩
    ·refine C_region ?_
     refine W_call call8 rfl rfl rfl (fun w ht => by have h := m_gridhallkeep4_blackstartFact_c (hm := hc176)  ht; exact h) ?_
     rintro _ _ _ ⟨rfl, rfl, rfl⟩
     refine W_move rfl rfl rfl ?_
     cases hb178 : (r175)
     ·refine W_no rfl rfl rfl ?_
      refine W_no rfl rfl rfl ?_
      refine W_pick rfl rfl rfl rfl ?_
      refine W_move rfl rfl rfl ?_
      refine W_no rfl rfl rfl ?_
      refine W_no rfl rfl rfl ?_
      refine W_no rfl rfl rfl ?_
      refine W_pick rfl rfl rfl rfl ?_
      refine W_assign rfl rfl rfl ?_
      refine W_end ?_
      refine E_drop (List.Sublist.cons _ (List.Sublist.cons _ (List.Sublist.refl _))) ?_
      exact E_keepJ (J177 _ _ _ ⟨rfl, rfl, rfl⟩) (List.Perm.refl _) ⟨(by show some (Value.bool (false)) = some (Value.bool ((r175 && (decide (r154.2.2 = 15))) && (decide (r154.2.1 = r130)))); first | (simp only [hb127, hb138, hb178, Bool.and_true, Bool.true_and, Bool.false_and, Bool.and_false, Bool.or_true, Bool.true_or, Bool.or_false, Bool.false_or, Bool.not_true, Bool.not_false]; done) | (simp only [hb127, hb138, hb178]; first | done | simp only [Bool.and_true, Bool.true_and, Bool.false_and, Bool.and_false, Bool.or_true, Bool.true_or, Bool.or_false, Bool.false_or, Bool.not_true, Bool.not_false])), trivial⟩
     ·refine W_move rfl rfl rfl ?_
      refine W_bin rfl rfl rfl rfl rfl ?_
      refine W_pick rfl rfl rfl rfl ?_
      refine W_move rfl rfl rfl ?_
      cases hb179 : (decide (r154.2.2 = 15))
      ·refine W_no rfl rfl rfl ?_
       refine W_no rfl rfl rfl ?_
       refine W_no rfl rfl rfl ?_
       refine W_pick rfl rfl rfl rfl ?_
       refine W_assign rfl rfl rfl ?_
       refine W_end ?_
       refine E_drop (List.Sublist.cons _ (List.Sublist.cons _ (List.Sublist.refl _))) ?_
       exact E_keepJ (J177 _ _ _ ⟨rfl, rfl, rfl⟩) (List.Perm.refl _) ⟨(by show some (Value.bool (false)) = some (Value.bool ((r175 && (decide (r154.2.2 = 15))) && (decide (r154.2.1 = r130)))); first | (simp only [hb127, hb138, hb178, hb179, Bool.and_true, Bool.true_and, Bool.false_and, Bool.and_false, Bool.or_true, Bool.true_or, Bool.or_false, Bool.false_or, Bool.not_true, Bool.not_false]; done) | (simp only [hb127, hb138, hb178, hb179]; first | done | simp only [Bool.and_true, Bool.true_and, Bool.false_and, Bool.and_false, Bool.or_true, Bool.true_or, Bool.or_false, Bool.false_or, Bool.not_true, Bool.not_false])), trivial⟩
      ·refine W_move rfl rfl rfl ?_
       refine W_move rfl rfl rfl ?_
       refine W_bin rfl rfl rfl rfl rfl ?_
       refine W_pick rfl rfl rfl rfl ?_
       refine W_assign rfl rfl rfl ?_
       refine W_end ?_
       refine E_drop (List.Sublist.cons _ (List.Sublist.cons _ (List.Sublist.refl _))) ?_
       exact E_keepJ (J177 _ _ _ ⟨rfl, rfl, rfl⟩) (List.Perm.refl _) ⟨(by show some (Value.bool (decide (r154.2.1 = r130))) = some (Value.bool ((r175 && (decide (r154.2.2 = 15))) && (decide (r154.2.1 = r130)))); first | (simp only [hb127, hb138, hb178, hb179, Bool.and_true, Bool.true_and, Bool.false_and, Bool.and_false, Bool.or_true, Bool.true_or, Bool.or_false, Bool.false_or, Bool.not_true, Bool.not_false]; done) | (simp only [hb127, hb138, hb178, hb179]; first | done | simp only [Bool.and_true, Bool.true_and, Bool.false_and, Bool.and_false, Bool.or_true, Bool.true_or, Bool.or_false, Bool.false_or, Bool.not_true, Bool.not_false])), trivial⟩
 ·refine C_region ?_
  refine W_move rfl rfl rfl ?_
  refine W_bin rfl rfl rfl rfl rfl ?_
  refine W_move rfl rfl rfl ?_
  cases hb180 : (decide (r118.2 = 0))
  ·refine W_no rfl rfl rfl ?_
   refine W_no rfl rfl rfl ?_
   refine W_no rfl rfl rfl ?_
   refine W_pick rfl rfl rfl rfl ?_
   refine W_end ?_
   exact E_keepJ (J126 _ _ _ ⟨rfl, rfl, rfl⟩) (List.Perm.refl _) ⟨rfl, rfl, rfl, rfl, (by show some (Value.bool (true)) = some (Value.bool ((!decide (r118.2 = 0)) || (decide ((r118.1.length : Int) = 0)))); first | (simp only [hb180, Bool.and_true, Bool.true_and, Bool.false_and, Bool.and_false, Bool.or_true, Bool.true_or, Bool.or_false, Bool.false_or, Bool.not_true, Bool.not_false]; done) | (simp only [hb180]; first | done | simp only [Bool.and_true, Bool.true_and, Bool.false_and, Bool.and_false, Bool.or_true, Bool.true_or, Bool.or_false, Bool.false_or, Bool.not_true, Bool.not_false])), trivial⟩
  ·refine W_move rfl rfl rfl ?_
   refine W_lenO (List.mem_cons_self ..) rfl rfl runUnderlying31 rfl ?_
   refine W_bin rfl rfl rfl rfl rfl ?_
   refine W_pick rfl rfl rfl rfl ?_
   refine W_end ?_
   exact E_keepJ (J126 _ _ _ ⟨rfl, rfl, rfl⟩) (List.Perm.refl _) ⟨rfl, rfl, rfl, rfl, (by show some (Value.bool (decide ((r118.1.length : Int) = 0))) = some (Value.bool ((!decide (r118.2 = 0)) || (decide ((r118.1.length : Int) = 0)))); first | (simp only [hb180, Bool.and_true, Bool.true_and, Bool.false_and, Bool.and_false, Bool.or_true, Bool.true_or, Bool.or_false, Bool.false_or, Bool.not_true, Bool.not_false]; done) | (simp only [hb180]; first | done | simp only [Bool.and_true, Bool.true_and, Bool.false_and, Bool.and_false, Bool.or_true, Bool.true_or, Bool.or_false, Bool.false_or, Bool.not_true, Bool.not_false])), trivial⟩

theorem m_netmodel_Node_c {B : Nat} {w0 w : World} {H : Hp} {M : List Res} {p0_n : S_api_Network} {name : ByteArray} {v0 : Value} {v1 : Value} {v2 : Value} {v3 : Value} {v4 : Value} {v5 : Value} {r : Int × Int} (hm : m_netmodel_Node p0_n name = some r) (h0 : RdS H v0 p0_n.Nodes) (h1 : RdS H v1 p0_n.Switches) (h2 : RdS H v2 p0_n.Branches) (h3 : RdS H v3 p0_n.Gens) (h4 : RdS H v4 p0_n.Loads) (h5 : RdS H v5 p0_n.Stores) (ht : St B w0 H (M) w) :
  Calls prog 13 [.agg [v0, v1, v2, v3, v4, v5].toArray, .string (name)].toArray w (Ret B w0 fun H' M' v => H = H' ∧ M = M' ∧ .tuple #[.int .i64 (r.1), .int .i64 (r.2)] = v) := by
 unfold m_netmodel_Node at hm
 refine enter func13 rfl rfl rfl ht ?_
 refine C_seq (C_region ?_)
 refine W_box (cs := [v0, v1, v2, v3, v4, v5]) rfl rfl rfl rfl (fun b101 => ?_)
 refine W_assign rfl rfl rfl ?_
 refine W_assign rfl rfl rfl ?_
 refine W_end (E_then (C_seq (C_seq (C_region ?_))))
 refine W_loadAgg rfl rfl isAgg29 sizeOf29 rfl (own_all (List.mem_cons_self ..)) rfl ?_
 obtain ⟨r102, hc103, hm⟩ := bind_some hm
 refine W_call call16 rfl rfl rfl (fun w ht => by have h := m_netmodel_Check_c (hm := hc103) h0 h1 h2 h3 h4 h5 ht; exact h) ?_
 rintro _ _ _ ⟨rfl, rfl, rfl⟩
 refine W_assign rfl rfl rfl ?_
 refine W_end (E_then (C_seq (C_region ?_)))
 refine W_move rfl rfl rfl ?_
 refine W_bin rfl rfl rfl rfl rfl ?_
 refine W_end (E_then ?_)
 refine C_cond (b := !decide (r102 = 0)) rfl (fun hb104 => ?_) (fun hb104 => ?_)
 ·have hm := ite_t' hb104 hm
  refine C_seq (C_region ?_)
  refine W_move rfl rfl rfl ?_
  refine W_assign rfl rfl rfl ?_
  refine W_assign rfl rfl rfl ?_
  refine W_end (E_then (C_ret (E_ret_then ?_)))
  obtain rfl := Option.some.inj hm
  refine E_drop (List.Sublist.cons _ (List.Sublist.refl _)) ?_
  refine E_weak (Hp.le_refl _) ?_
  exact end2 rfl rfl rfl ⟨rfl, rfl, rfl⟩
 ·have hm := ite_f' hb104 hm
  refine C_skip (E_then (C_seq (C_region ?_)))
  refine W_field (o := 0) rfl rfl runUnderlying29 rfl sizeOf22 rfl rfl rfl ?_
  refine W_load rfl rfl isAgg22 rfl (own_at (List.mem_cons_self ..) rfl) ?_
  refine W_move rfl rfl rfl ?_
  obtain ⟨r105, hc106, hm⟩ := bind_some hm
  refine W_call call31 rfl rfl rfl (fun w ht => by have h := m_slices_Index_string_string_c (hm := hc106) h0 ht; exact h) ?_
  rintro _ _ _ ⟨rfl, rfl, rfl⟩
  refine W_assign rfl rfl rfl ?_
  refine W_end (E_then (C_seq (C_seq (C_region ?_))))
  refine W_move rfl rfl rfl ?_
  refine W_bin rfl rfl rfl rfl rfl ?_
  refine W_end (E_then ?_)
  refine C_cond (b := decide (r105 < 0)) rfl (fun hb107 => ?_) (fun hb107 => ?_)
  ·have hm := ite_t' hb107 hm
   refine C_seq (C_region ?_)
   refine W_assign rfl rfl rfl ?_
   refine W_assign rfl rfl rfl ?_
   refine W_end (E_then (C_ret (E_ret_then ?_)))
   obtain rfl := Option.some.inj hm
   refine E_drop (List.Sublist.cons _ (List.Sublist.refl _)) ?_
   refine E_weak (Hp.le_refl _) ?_
   exact end2 rfl rfl rfl ⟨rfl, rfl, rfl⟩
  ·have hm := ite_f' hb107 hm
   refine C_skip (E_then (C_seq (C_region ?_)))
   refine W_move rfl rfl rfl ?_
   refine W_assign rfl rfl rfl ?_
   refine W_assign rfl rfl rfl ?_
   refine W_end (E_then (C_ret ?_))
   obtain rfl := Option.some.inj hm
   refine E_drop (List.Sublist.cons _ (List.Sublist.refl _)) ?_
   refine E_weak (Hp.le_refl _) ?_
   exact end2 rfl rfl rfl ⟨rfl, rfl, rfl⟩

theorem m_gridhallkeep4_BlackstartPlans_1_c {B : Nat} {w0 w : World} {H : Hp} {M : List Res} {name : ByteArray} {p1_c1 : S_api_Network} {p2_c2 : (List Int)} {b0 : Nat} {v0 : Value} {v1 : Value} {v2 : Value} {v3 : Value} {v4 : Value} {v5 : Value} {b1 : Nat} {v6 : Value} {r : Int} (hm : m_gridhallkeep4_BlackstartPlans_1 name p1_c1 p2_c2 = some r) (h0 : RdS H v0 p1_c1.Nodes) (h1 : RdS H v1 p1_c1.Switches) (h2 : RdS H v2 p1_c1.Branches) (h3 : RdS H v3 p1_c1.Gens) (h4 : RdS H v4 p1_c1.Loads) (h5 : RdS H v5 p1_c1.Stores) (h6 : RdS H v6 p2_c2) (ht : St B w0 H (.obj b0 (.cells [v0, v1, v2, v3, v4, v5].toArray 29 (0, 0)) :: .obj b1 (.cells [v6].toArray 42 (0, 0)) :: M) w) :
  Calls prog 12 [.string (name), .pointer (some ⟨b0, 0, none⟩), .pointer (some ⟨b1, 0, none⟩)].toArray w (Ret B w0 fun H' M' v => H = H' ∧ .obj b0 (.cells [v0, v1, v2, v3, v4, v5].toArray 29 (0, 0)) :: .obj b1 (.cells [v6].toArray 42 (0, 0)) :: M = M' ∧ .int .i64 (r) = v) := by
 unfold m_gridhallkeep4_BlackstartPlans_1 at hm
 refine enter func12 rfl rfl rfl ht ?_
 refine C_seq (C_region ?_)
 refine W_assign rfl rfl rfl ?_
 refine W_end (E_then (C_seq (C_seq (C_region ?_))))
 refine W_field (o := 3) rfl rfl runUnderlying29 rfl sizeOf25 rfl rfl rfl ?_
 refine W_load rfl rfl isAgg25 rfl (own_at (List.mem_cons_self ..) rfl) ?_
 refine W_lenR rfl rfl runUnderlying25 rfl h3 ?_
 refine W_move rfl rfl rfl ?_
 refine W_end (E_then (C_block ?_))
 refine C_keep (L' := [(0, .string (name)), (1, .pointer (some ⟨b0, 0, none⟩)), (2, .pointer (some ⟨b1, 0, none⟩)), (10, v3), (11, .int .i64 ((p1_c1.Gens.length : Int))), (12, .int .i64 (((0 : Nat) : Int)))]) ⟨rfl, rfl, rfl, rfl, rfl, rfl, trivial⟩ (List.Perm.refl _) ?_
 refine C_loop (fun n H' M' L' => ∃ (k101 : Nat) (zs127' : List S_api_Gen), (p1_c1.Gens).drop k101 = zs127' ∧ zs127'.length = n ∧ forI (fun k y s122 n => m_gridhallkeep4_BlackstartPlans_1_b1 name p1_c1 p2_c2 k y n) (fun _ => some (-1)) k101 zs127' () = some r ∧ H.le H' ∧ .obj b0 (.cells [v0, v1, v2, v3, v4, v5].toArray 29 (0, 0)) :: .obj b1 (.cells [v6].toArray 42 (0, 0)) :: M = M' ∧ [(0, .string (name)), (1, .pointer (some ⟨b0, 0, none⟩)), (2, .pointer (some ⟨b1, 0, none⟩)), (10, v3), (11, .int .i64 ((p1_c1.Gens.length : Int))), (12, .int .i64 ((k101 : Int)))] = L') _ ⟨0, _, rfl, rfl, hm, (Hp.le_refl _), rfl, rfl⟩ ?_
 rintro _ H120 _ _ ⟨k101, zs127', hd129, rfl, hm, hle121, rfl, rfl⟩
 refine C_seq (C_region ?_)
 refine W_bin rfl rfl rfl rfl rfl ?_
 refine W_end (E_then (C_seq ?_))
 refine C_cond (b := decide ((k101 : Int) < (p1_c1.Gens.length : Int))) rfl (fun hb131 => ?_) (fun hb131 => ?_)
 ·obtain ⟨y126, zs127, rfl, hy128, hd130⟩ := rng_t hd129 hb131
  have hm : m_gridhallkeep4_BlackstartPlans_1_b1 name p1_c1 p2_c2 k101 y126 (forI (fun k y s122 n => m_gridhallkeep4_BlackstartPlans_1_b1 name p1_c1 p2_c2 k y n) (fun _ => some (-1)) (k101 + 1) zs127) = some r := hm
  generalize hn124 : forI (fun k y s122 n => m_gridhallkeep4_BlackstartPlans_1_b1 name p1_c1 p2_c2 k y n) (fun _ => some (-1)) (k101 + 1) zs127 = nx123 at hm
  unfold m_gridhallkeep4_BlackstartPlans_1_b1 at hm
  refine C_skip (E_then (C_seq (C_block (C_seq (C_region ?_)))))
  obtain ⟨_, ⟨rfl⟩, hc132⟩ := (h3).elem hy128
  refine W_indexS rfl rfl runUnderlying25 sizeOf46 rfl (h3.mono hle121) rfl (Int.natCast_nonneg _) hy128 ?_
  refine W_loadAgg rfl rfl isAgg46 sizeOf46 rfl (hc132.mono hle121).at rfl ?_
  refine W_alloc (cs := [.string (⟨#[]⟩), .string (⟨#[]⟩), .int .i64 (0), .int .i64 (0), .int .i64 (0)]) rfl rfl zeroValue46 rfl (fun b133 => ?_)
  refine W_store (cs := [.string (y126.Name), .string (y126.Node), .int .i64 (y126.Least), .int .i64 (y126.Most), .int .i64 (y126.Ramp)]) (out := [.string (y126.Name), .string (y126.Node), .int .i64 (y126.Least), .int .i64 (y126.Most), .int .i64 (y126.Ramp)]) rfl sizeOf46 rfl rfl rfl rfl rfl (all_cons rfl (all_cons rfl (all_cons rfl (all_cons rfl (all_cons rfl all_nil))))) (over_all rfl) ?_
  refine W_end (E_then (C_seq (C_region ?_)))
  refine W_field (o := 0) rfl rfl runUnderlying46 rfl sizeOf9 rfl rfl rfl ?_
  refine W_load rfl rfl isAgg9 rfl (own_at (List.mem_cons_self ..) rfl) ?_
  refine W_move rfl rfl rfl ?_
  refine W_bin rfl rfl rfl rfl rfl ?_
  refine W_end (E_then ?_)
  refine C_cond (b := decide (y126.Name = name)) rfl (fun hb134 => ?_) (fun hb134 => ?_)
  ·have hm := ite_t' hb134 hm
   refine C_seq (C_region ?_)
   refine W_loadAgg rfl rfl isAgg29 sizeOf29 rfl (own_all (List.mem_cons_of_mem _ (List.mem_cons_self ..))) rfl ?_
   refine W_field (o := 1) rfl rfl runUnderlying46 rfl sizeOf9 rfl rfl rfl ?_
   refine W_load rfl rfl isAgg9 rfl (own_at (List.mem_cons_self ..) rfl) ?_
   obtain ⟨r135, hc136, hm⟩ := bind_some hm
   refine W_call call13 rfl rfl rfl (fun w ht => by have h := m_netmodel_Node_c (hm := hc136) (h0.mono hle121) (h1.mono hle121) (h2.mono hle121) (h3.mono hle121) (h4.mono hle121) (h5.mono hle121) ht; exact h) ?_
   rintro _ _ _ ⟨rfl, rfl, rfl⟩
   refine W_move rfl rfl rfl ?_
   refine W_extract rfl rfl rfl rfl ?_
   refine W_extract rfl rfl rfl rfl ?_
   refine W_assign rfl rfl rfl ?_
   refine W_assign rfl rfl rfl ?_
   refine W_end (E_then (C_seq (C_region ?_)))
   refine W_load rfl rfl isAgg42 rfl (own_at (List.mem_cons_of_mem _ (List.mem_cons_of_mem _ (List.mem_cons_self ..))) rfl) ?_
   refine W_move rfl rfl rfl ?_
   refine W_load rfl rfl isAgg42 rfl (own_at (List.mem_cons_of_mem _ (List.mem_cons_of_mem _ (List.mem_cons_self ..))) rfl) ?_
   refine W_lenR rfl rfl runUnderlying42 rfl (h6.mono hle121) ?_
   refine W_bin rfl rfl rfl rfl rfl ?_
   refine W_min rfl rfl rfl rfl ?_
   obtain ⟨y137, h138, he139, hm⟩ := idx_some hm
   obtain ⟨_, rfl, hc140⟩ := (h6).elem he139
   refine W_indexS rfl rfl runUnderlying42 sizeOf3 rfl (h6.mono hle121) rfl h138 he139 ?_
   refine W_load rfl rfl isAgg3 rfl (HCells.one (hc140.mono hle121) 0 rfl).at ?_
   refine W_assign rfl rfl rfl ?_
   refine W_end (E_then (C_ret (E_ret_block (E_ret_then (E_ret_then (E_ret_block (E_ret_then ?_)))))))
   obtain rfl := Option.some.inj hm
   refine E_drop (List.Sublist.cons _ (List.Sublist.refl _)) ?_
   refine E_weak hle121 ?_
   exact end1 rfl rfl ⟨rfl, rfl, rfl⟩
  ·have hm := ite_f' hb134 hm
   refine C_skip (E_normal_block (E_then (C_region ?_)))
   refine W_bin rfl rfl rfl rfl rfl ?_
   refine W_move rfl rfl rfl ?_
   refine W_end ?_
   refine E_drop (List.Sublist.cons _ (List.Sublist.refl _)) ?_
   exact E_keepJ (E_back (Nat.lt_succ_self _) ⟨k101 + 1, zs127, hd130, rfl, (by rw [hn124]; exact hm), hle121, rfl, rfl⟩) (List.Perm.refl _) ⟨rfl, rfl, rfl, rfl, rfl, (congrArg (fun z => some (Value.int .i64 z)) (i64_succ hy128 ((h3.mono hle121)).lenMax)), trivial⟩
 ·obtain rfl := rng_f hd129 hb131
  have hm : (some (-1)) = some r := hm
  refine C_exit (E_exit_then (E_exit_then (E_exit_hit (E_then (C_seq (C_region ?_))))))
  refine W_assign rfl rfl rfl ?_
  refine W_end (E_then (C_ret ?_))
  obtain rfl := Option.some.inj hm
  refine E_weak hle121 ?_
  exact end1 rfl rfl ⟨rfl, rfl, rfl⟩

theorem m_gridhallkeep4_BlackstartPlans_2_c {B : Nat} {w0 w : World} {H : Hp} {M : List Res} {p0_x : ByteArray} {p1_c1_0 : S_api_Network} {p1_c1_1 : (List Int)} {p2_c2 : S_api_BlackstartStep} {b0 : Nat} {b1 : Nat} {v0 : Value} {v1 : Value} {v2 : Value} {v3 : Value} {v4 : Value} {v5 : Value} {b2 : Nat} {v6 : Value} {b3 : Nat} {v7 : Value} {r : Bool} (hm : m_gridhallkeep4_BlackstartPlans_2 p0_x p1_c1_0 p1_c1_1 p2_c2 = some r) (h0 : RdS H v0 p1_c1_0.Nodes) (h1 : RdS H v1 p1_c1_0.Switches) (h2 : RdS H v2 p1_c1_0.Branches) (h3 : RdS H v3 p1_c1_0.Gens) (h4 : RdS H v4 p1_c1_0.Loads) (h5 : RdS H v5 p1_c1_0.Stores) (h6 : RdS H v6 p1_c1_1) (h7 : RdS H v7 p2_c2.Devices) (ht : St B w0 H (.obj b0 (.cells ([.func (.func 12) [].toArray [.pointer (some ⟨b1, 0, none⟩), .pointer (some ⟨b2, 0, none⟩)].toArray] : List Value).toArray 49 (0, 0)) :: .obj b1 (.cells [v0, v1, v2, v3, v4, v5].toArray 29 (0, 0)) :: .obj b2 (.cells [v6].toArray 42 (0, 0)) :: .obj b3 (.cells [.string (p2_c2.Gen), v7].toArray 38 (0, 0)) :: M) w) :
  Calls prog 15 [.string (p0_x), .pointer (some ⟨b0, 0, none⟩), .pointer (some ⟨b3, 0, none⟩)].toArray w (Ret B w0 fun H' M' v => H = H' ∧ .obj b0 (.cells ([.func (.func 12) [].toArray [.pointer (some ⟨b1, 0, none⟩), .pointer (some ⟨b2, 0, none⟩)].toArray] : List Value).toArray 49 (0, 0)) :: .obj b1 (.cells [v0, v1, v2, v3, v4, v5].toArray 29 (0, 0)) :: .obj b2 (.cells [v6].toArray 42 (0, 0)) :: .obj b3 (.cells [.string (p2_c2.Gen), v7].toArray 38 (0, 0)) :: M = M' ∧ .bool (r) = v) := by
 unfold m_gridhallkeep4_BlackstartPlans_2 at hm
 refine enter func15 rfl rfl rfl ht ?_
 refine C_seq (C_region ?_)
 refine W_assign rfl rfl rfl ?_
 refine W_end (E_then (C_seq ?_))
 obtain ⟨r101, hc102, hm⟩ := bind_some hm
 refine C_perm (List.Perm.trans (List.Perm.swap _ _ _) (List.Perm.cons _ (List.Perm.swap _ _ _))) ?_
 refine C_as (M' := [[.obj b1 (.cells [v0, v1, v2, v3, v4, v5].toArray 29 (0, 0))], [.obj b2 (.cells [v6].toArray 42 (0, 0))]].flatten ++ (.obj b0 (.cells ([.func (.func 12) [].toArray [.pointer (some ⟨b1, 0, none⟩), .pointer (some ⟨b2, 0, none⟩)].toArray] : List Value).toArray 49 (0, 0)) :: .obj b3 (.cells [.string (p2_c2.Gen), v7].toArray 38 (0, 0)) :: M)) rfl ?_
 refine C_region_tok0 6 (phiT [(fun H rs v => [] = rs ∧ .func (.func 12) [].toArray [.pointer (some ⟨b1, 0, none⟩), .pointer (some ⟨b2, 0, none⟩)].toArray = v), (fun H rs v => [] = rs ∧ .string (p0_x) = v), (fun H rs v => [.obj b1 (.cells [v0, v1, v2, v3, v4, v5].toArray 29 (0, 0)), .obj b2 (.cells [v6].toArray 42 (0, 0))] = rs ∧ .int .i64 (r101) = v), (fun H rs v => [] = rs ∧ .func (.func 12) [].toArray [.pointer (some ⟨b1, 0, none⟩), .pointer (some ⟨b2, 0, none⟩)].toArray = v), (fun H rs v => [] = rs ∧ .pointer (some ⟨b3, 0, none⟩) = v), (fun H rs v => [] = rs ∧ .string (p2_c2.Gen) = v)]) [[], [], [6, 7], [], [], []] [[], [], [], [], [], []] [[.obj b1 (.cells [v0, v1, v2, v3, v4, v5].toArray 29 (0, 0))], [.obj b2 (.cells [v6].toArray 42 (0, 0))]] [0, 1, 2, 3, 4, 5] Facts.mixed (by kernel_rfl) (by rfl) (by rfl) (by rfl) (by kernel_rfl) (phiT_mono ⟨eq_monoT _ _, eq_monoT _ _, eq_monoT _ _, eq_monoT _ _, eq_monoT _ _, eq_monoT _ _, trivial⟩) ⟨?_, ?_, ?_, ?_, ?_, ?_, trivial⟩ ?_
 ·intro HX hX X Rest hR
  intro hU hUp
  refine W_load rfl rfl isAgg49 rfl (own_at (hR _ (List.mem_cons_self ..)) rfl) ?_
  exact W_end (OneT_end [] (Hp.le_refl _) ⟨rfl, rfl⟩)
 ·intro HX hX X Rest hR
  intro hU hUp
  refine W_move rfl rfl rfl ?_
  exact W_end (OneT_end [] (Hp.le_refl _) ⟨rfl, rfl⟩)
 ·intro HX hX X Rest hR
  rintro _ _ ⟨rfl, rfl⟩
  rintro _ _ ⟨rfl, rfl⟩
  intro hU hUp
  refine W_as (M' := .obj b1 (.cells [v0, v1, v2, v3, v4, v5].toArray 29 (0, 0)) :: .obj b2 (.cells [v6].toArray 42 (0, 0)) :: Rest) rfl ?_
  refine W_callv call12 rfl rfl rfl rfl (fun w ht => by have h := m_gridhallkeep4_BlackstartPlans_1_c (hm := hc102) (h0.mono hX) (h1.mono hX) (h2.mono hX) (h3.mono hX) (h4.mono hX) (h5.mono hX) (h6.mono hX) ht; exact h) ?_
  rintro _ _ _ ⟨rfl, rfl, rfl⟩
  exact W_end (OneT_end [.obj b1 (.cells [v0, v1, v2, v3, v4, v5].toArray 29 (0, 0)), .obj b2 (.cells [v6].toArray 42 (0, 0))] (Hp.le_refl _) ⟨rfl, rfl⟩)
 ·intro HX hX X Rest hR
  intro hU hUp
  refine W_load rfl rfl isAgg49 rfl (own_at (hR _ (List.mem_cons_self ..)) rfl) ?_
  exact W_end (OneT_end [] (Hp.le_refl _) ⟨rfl, rfl⟩)
 ·intro HX hX X Rest hR
  intro hU hUp
  refine W_field (o := 0) rfl rfl runUnderlying38 rfl sizeOf9 rfl rfl rfl ?_
  exact W_end (OneT_end [] (Hp.le_refl _) ⟨rfl, rfl⟩)
 ·intro HX hX X Rest hR
  rintro _ _ ⟨rfl, rfl⟩
  intro hU hUp
  refine W_load rfl rfl isAgg9 rfl (own_at (hR _ (List.mem_cons_of_mem _ (List.mem_cons_self ..))) rfl) ?_
  exact W_end (OneT_end [] (Hp.le_refl _) ⟨rfl, rfl⟩)
 intro H103 hle104
 rintro _ _ ⟨rfl, rfl⟩
 rintro _ _ ⟨rfl, rfl⟩
 rintro _ _ ⟨rfl, rfl⟩
 rintro _ _ ⟨rfl, rfl⟩
 rintro _ _ ⟨rfl, rfl⟩
 rintro _ _ ⟨rfl, rfl⟩
 refine W_as (M' := .obj b1 (.cells [v0, v1, v2, v3, v4, v5].toArray 29 (0, 0)) :: .obj b2 (.cells [v6].toArray 42 (0, 0)) :: .obj b0 (.cells ([.func (.func 12) [].toArray [.pointer (some ⟨b1, 0, none⟩), .pointer (some ⟨b2, 0, none⟩)].toArray] : List Value).toArray 49 (0, 0)) :: .obj b3 (.cells [.string (p2_c2.Gen), v7].toArray 38 (0, 0)) :: M) rfl ?_
 obtain ⟨r105, hc106, hm⟩ := bind_some hm
 refine W_callv call12 rfl rfl rfl rfl (fun w ht => by have h := m_gridhallkeep4_BlackstartPlans_1_c (hm := hc106) (h0.mono hle104) (h1.mono hle104) (h2.mono hle104) (h3.mono hle104) (h4.mono hle104) (h5.mono hle104) (h6.mono hle104) ht; exact h) ?_
 rintro _ _ _ ⟨rfl, rfl, rfl⟩
 refine W_bin rfl rfl rfl rfl rfl ?_
 refine W_assign rfl rfl rfl ?_
 refine W_end (E_then (C_ret ?_))
 obtain rfl := Option.some.inj hm
 refine E_perm (List.Perm.trans (List.Perm.cons _ (List.Perm.swap _ _ _)) (List.Perm.swap _ _ _)) ?_
 refine E_weak hle104 ?_
 exact end1 rfl rfl ⟨rfl, rfl, rfl⟩

theorem m_slices_IndexFunc_string_string__gridhallkeep4_BlackstartPlans_2_c {B : Nat} {w0 w : World} {H : Hp} {M : List Res} {p0_s : (List ByteArray)} {p1_f_0_0 : S_api_Network} {p1_f_0_1 : (List Int)} {p1_f_1 : S_api_BlackstartStep} {v0 : Value} {b0 : Nat} {b1 : Nat} {v1 : Value} {v2 : Value} {v3 : Value} {v4 : Value} {v5 : Value} {v6 : Value} {b2 : Nat} {v7 : Value} {b3 : Nat} {v8 : Value} {r : Int} (hm : m_slices_IndexFunc_string_string__gridhallkeep4_BlackstartPlans_2 p0_s p1_f_0_0 p1_f_0_1 p1_f_1 = some r) (h0 : RdS H v0 p0_s) (h1 : RdS H v1 p1_f_0_0.Nodes) (h2 : RdS H v2 p1_f_0_0.Switches) (h3 : RdS H v3 p1_f_0_0.Branches) (h4 : RdS H v4 p1_f_0_0.Gens) (h5 : RdS H v5 p1_f_0_0.Loads) (h6 : RdS H v6 p1_f_0_0.Stores) (h7 : RdS H v7 p1_f_0_1) (h8 : RdS H v8 p1_f_1.Devices) (ht : St B w0 H (.obj b0 (.cells ([.func (.func 12) [].toArray [.pointer (some ⟨b1, 0, none⟩), .pointer (some ⟨b2, 0, none⟩)].toArray] : List Value).toArray 49 (0, 0)) :: .obj b1 (.cells [v1, v2, v3, v4, v5, v6].toArray 29 (0, 0)) :: .obj b2 (.cells [v7].toArray 42 (0, 0)) :: .obj b3 (.cells [.string (p1_f_1.Gen), v8].toArray 38 (0, 0)) :: M) w) :
  Calls prog 32 [v0, .func (.func 15) [].toArray [.pointer (some ⟨b0, 0, none⟩), .pointer (some ⟨b3, 0, none⟩)].toArray].toArray w (Ret B w0 fun H' M' v => H = H' ∧ .obj b0 (.cells ([.func (.func 12) [].toArray [.pointer (some ⟨b1, 0, none⟩), .pointer (some ⟨b2, 0, none⟩)].toArray] : List Value).toArray 49 (0, 0)) :: .obj b1 (.cells [v1, v2, v3, v4, v5, v6].toArray 29 (0, 0)) :: .obj b2 (.cells [v7].toArray 42 (0, 0)) :: .obj b3 (.cells [.string (p1_f_1.Gen), v8].toArray 38 (0, 0)) :: M = M' ∧ .int .i64 (r) = v) := by
 unfold m_slices_IndexFunc_string_string__gridhallkeep4_BlackstartPlans_2 at hm
 refine enter func32 rfl rfl rfl ht ?_
 refine C_seq (C_region ?_)
 refine W_assign rfl rfl rfl ?_
 refine W_end (E_then (C_seq (C_seq (C_region ?_))))
 refine W_move rfl rfl rfl ?_
 refine W_lenR rfl rfl runUnderlying22 rfl h0 ?_
 refine W_move rfl rfl rfl ?_
 refine W_end (E_then (C_block ?_))
 refine C_keep (L' := [(0, v0), (1, .func (.func 15) [].toArray [.pointer (some ⟨b0, 0, none⟩), .pointer (some ⟨b3, 0, none⟩)].toArray), (7, .int .i64 ((p0_s.length : Int))), (8, .int .i64 (((0 : Nat) : Int)))]) ⟨rfl, rfl, rfl, rfl, trivial⟩ (List.Perm.refl _) ?_
 refine C_loop (fun n H' M' L' => ∃ (k101 : Nat) (zs123' : Nat), k101 + zs123' = ((p0_s.length : Int) : Int).toNat ∧ zs123' = n ∧ forN (fun k s118 n => m_slices_IndexFunc_string_string__gridhallkeep4_BlackstartPlans_2_b1 p0_s p1_f_0_0 p1_f_0_1 p1_f_1 k n) (fun _ => some (-1)) zs123' k101 () = some r ∧ H.le H' ∧ .obj b0 (.cells ([.func (.func 12) [].toArray [.pointer (some ⟨b1, 0, none⟩), .pointer (some ⟨b2, 0, none⟩)].toArray] : List Value).toArray 49 (0, 0)) :: .obj b1 (.cells [v1, v2, v3, v4, v5, v6].toArray 29 (0, 0)) :: .obj b2 (.cells [v7].toArray 42 (0, 0)) :: .obj b3 (.cells [.string (p1_f_1.Gen), v8].toArray 38 (0, 0)) :: M = M' ∧ [(0, v0), (1, .func (.func 15) [].toArray [.pointer (some ⟨b0, 0, none⟩), .pointer (some ⟨b3, 0, none⟩)].toArray), (7, .int .i64 ((p0_s.length : Int))), (8, .int .i64 ((k101 : Int)))] = L') _ ⟨0, _, Nat.zero_add _, rfl, hm, (Hp.le_refl _), rfl, rfl⟩ ?_
 rintro _ H116 _ _ ⟨k101, zs123', hd125, rfl, hm, hle117, rfl, rfl⟩
 refine C_seq (C_region ?_)
 refine W_bin rfl rfl rfl rfl rfl ?_
 refine W_end (E_then (C_seq ?_))
 refine C_cond (b := decide ((k101 : Int) < (p0_s.length : Int))) rfl (fun hb127 => ?_) (fun hb127 => ?_)
 ·obtain ⟨zs123, rfl, hd126, hy124⟩ := rngN_t hd125 hb127
  have hm : m_slices_IndexFunc_string_string__gridhallkeep4_BlackstartPlans_2_b1 p0_s p1_f_0_0 p1_f_0_1 p1_f_1 k101 (forN (fun k s118 n => m_slices_IndexFunc_string_string__gridhallkeep4_BlackstartPlans_2_b1 p0_s p1_f_0_0 p1_f_0_1 p1_f_1 k n) (fun _ => some (-1)) zs123 (k101 + 1)) = some r := hm
  generalize hn120 : forN (fun k s118 n => m_slices_IndexFunc_string_string__gridhallkeep4_BlackstartPlans_2_b1 p0_s p1_f_0_0 p1_f_0_1 p1_f_1 k n) (fun _ => some (-1)) zs123 (k101 + 1) = nx119 at hm
  unfold m_slices_IndexFunc_string_string__gridhallkeep4_BlackstartPlans_2_b1 at hm
  refine C_skip (E_then (C_seq (C_block (C_seq (C_region ?_)))))
  refine W_move rfl rfl rfl ?_
  refine W_assign rfl rfl rfl ?_
  refine W_end (E_then (C_seq (C_region ?_)))
  refine W_move rfl rfl rfl ?_
  refine W_move rfl rfl rfl ?_
  refine W_move rfl rfl rfl ?_
  obtain ⟨y128, h129, he130, hm⟩ := idx_some hm
  obtain ⟨_, rfl, hc131⟩ := (h0).elem he130
  refine W_indexS rfl rfl runUnderlying22 sizeOf9 rfl (h0.mono hle117) rfl h129 he130 ?_
  refine W_load rfl rfl isAgg9 rfl (HCells.one (hc131.mono hle117) 0 rfl).at ?_
  obtain ⟨r132, hc133, hm⟩ := bind_some hm
  refine W_callv call15 rfl rfl rfl rfl (fun w ht => by have h := m_gridhallkeep4_BlackstartPlans_2_c (hm := hc133) (h1.mono hle117) (h2.mono hle117) (h3.mono hle117) (h4.mono hle117) (h5.mono hle117) (h6.mono hle117) (h7.mono hle117) (h8.mono hle117) ht; exact h) ?_
  rintro _ _ _ ⟨rfl, rfl, rfl⟩
  refine W_end (E_then ?_)
  refine C_cond (b := r132) rfl (fun hb134 => ?_) (fun hb134 => ?_)
  ·have hm := ite_t' hb134 hm
   refine C_seq (C_region ?_)
   refine W_move rfl rfl rfl ?_
   refine W_assign rfl rfl rfl ?_
   refine W_end (E_then (C_ret (E_ret_block (E_ret_then (E_ret_then (E_ret_block (E_ret_then ?_)))))))
   obtain rfl := Option.some.inj hm
   refine E_weak hle117 ?_
   exact end1 rfl rfl ⟨rfl, rfl, rfl⟩
  ·have hm := ite_f' hb134 hm
   refine C_skip (E_normal_block (E_then (C_region ?_)))
   refine W_bin rfl rfl rfl rfl rfl ?_
   refine W_move rfl rfl rfl ?_
   refine W_end ?_
   exact E_keepJ (E_back (Nat.lt_succ_self _) ⟨k101 + 1, zs123, hd126, rfl, (by rw [hn120]; exact hm), hle117, rfl, rfl⟩) (List.Perm.refl _) ⟨rfl, rfl, rfl, (congrArg (fun z => some (Value.int .i64 z)) (i64_succN hy124 (toNat_max (len_max (h0).lenMax)))), trivial⟩
 ·obtain rfl := rngN_f hd125 hb127
  have hm : (some (-1)) = some r := hm
  refine C_exit (E_exit_then (E_exit_then (E_exit_hit (E_then (C_seq (C_region ?_))))))
  refine W_assign rfl rfl rfl ?_
  refine W_end (E_then (C_ret ?_))
  obtain rfl := Option.some.inj hm
  refine E_weak hle117 ?_
  exact end1 rfl rfl ⟨rfl, rfl, rfl⟩
end Go.Sim
