/-
  Printed by a program: each Go function computes its model.
-/
import Derived.Test.YtfmhkgnbceoclaaConB1
namespace Go.Sim
open Go Go.Proofs.Try
set_option linter.unusedVariables false
set_option linter.unusedSimpArgs false
set_option maxRecDepth 100000
theorem repeat70_c {B : Nat} {w0 w : World} {H : Hp} {M : List Res} {s : List Int} {v0 : Value} {n : Int} (h0 : RdS H v0 s) (hz : s.length = 1 ∧ 0 ≤ n ∧ n * 8 ≤ 140737488355328) (ht : St B w0 H M w) :
  Calls prog 70 [v0, .int .i64 n].toArray w (Ret B w0 fun H' M' v => H = H' ∧ ∃ (v' : Value) (xs' : List Value), .row v' 3 (Rep.sz Int) (repL s n).length xs' :: M = M' ∧ v' = v ∧ RwF v' xs' (repL s n)) := by
 obtain ⟨hs1, hn0, hb⟩ := hz
 obtain ⟨a, rfl⟩ := List.length_eq_one_iff.1 hs1
 obtain ⟨m, rfl⟩ : ∃ m : Nat, n = m := ⟨n.toNat, by omega⟩
 have hrep := repL_one a m
 rw [hrep]
 have hlr : (List.replicate m a).length = m := List.length_replicate
 have hmb : m < 9223372036854775808 := by omega
 obtain ⟨o, c, hv0, _⟩ := h0.len
 simp only [List.length_cons, List.length_nil, Nat.zero_add] at hv0
 subst hv0
 refine enter func70 rfl rfl rfl ht ?_
 refine C_seq (C_region ?_)
 refine W_assign rfl rfl rfl ?_
 refine W_end (E_then (C_seq (C_seq (C_region ?_))))
 refine W_move rfl rfl rfl ?_
 refine W_bin rfl rfl rfl rfl rfl ?_
 refine W_end (E_then ?_)
 refine C_cond (b := decide ((m : Int) < 0)) rfl (fun hb => absurd (of_decide_eq_true hb) (by omega)) (fun _ => ?_)
 refine C_skip (E_then (C_seq (C_region ?_)))
 refine W_move rfl rfl rfl ?_
 refine W_lenS rfl rfl runUnderlying42 rfl ?_
 refine W_convInt rfl rfl runUnderlying3 runUnderlying126 rfl ?_
 refine W_move rfl rfl rfl ?_
 refine W_convInt rfl rfl runUnderlying3 runUnderlying126 rfl ?_
 refine W_call call71 rfl rfl rfl (fun w ht => by have h := m_math_bits_Mul_c (hm := mul_one_u64 m hmb) ht; exact h) ?_
 rintro _ _ _ ⟨rfl, rfl, rfl⟩
 refine W_move rfl rfl rfl ?_
 refine W_extract rfl rfl rfl rfl ?_
 refine W_extract rfl rfl rfl rfl ?_
 refine W_assign rfl rfl rfl ?_
 refine W_assign rfl rfl rfl ?_
 refine W_end (E_then (C_seq (C_seq (C_region ?_))))
 refine W_move rfl rfl rfl ?_
 refine W_bin rfl rfl rfl rfl rfl ?_
 refine W_move rfl rfl rfl ?_
 refine W_move rfl rfl rfl ?_
 refine W_bin rfl rfl rfl rfl rfl ?_
 refine W_pick (b := false) rfl rfl rfl rfl ?_
 refine W_end (E_then ?_)
 refine C_cond (b := decide (9223372036854775807 < (m : Int))) rfl (fun hb => absurd (of_decide_eq_true hb) (by omega)) (fun _ => ?_)
 refine C_skip (E_then ?_)
 have hw : IntKind.i64.wrap (m : Int) = m := i64_of (by omega) (by omega)
 refine C_seq (C_region ?_)
 refine W_move rfl rfl rfl ?_
 refine W_convInt rfl rfl runUnderlying126 runUnderlying3 rfl ?_
 rw [hw]
 refine W_makeSlice (α := Int) (ze := 0) (bytes := 8) rfl rfl underlying42 ⟨_, rfl, rfl, rfl, rfl⟩ rfl rfl rfl rfl rfl rfl (by omega) hb ?_
 intro v1 xs1 hx1
 rw [Int.toNat_natCast] at hx1 ⊢
 refine W_assign rfl rfl rfl ?_
 refine W_end (E_then ?_)
 generalize hl1 : List.replicate m (0 : Int) = l1 at hx1 ⊢
 have hll : l1.length = m := by rw [← hl1]; exact List.length_replicate
 refine C_seq (C_region ?_)
 refine W_move rfl rfl rfl ?_
 refine W_move rfl rfl rfl ?_
 refine W_copyR (α := Int) (l := l1) (ys := [a]) rfl rfl underlying42 sizeOf3 rfl rfl rfl hx1 h0 (by simp) ?_
 rw [List.length_singleton, hll]
 generalize hl2 : [a].take (min 1 m) ++ l1.drop (min 1 m) = l2
 have hl2l : l2.length = m := by rw [← hl2, List.length_append, List.length_take, List.length_drop, List.length_singleton]; omega
 have hl2t : l2.take (min 1 m) = List.replicate (min 1 m) a := by
  rw [← hl2]
  cases m with
  | zero => rfl
  | succ q => rw [show min 1 (q + 1) = 1 by omega]; rfl
 intro xs2 hx2
 refine W_assign rfl rfl rfl ?_
 refine W_end (E_then ?_)
 obtain ⟨o1, m1, c1, hv1⟩ := hx2.sl
 refine C_seq (C_block ?_)
 refine C_keep (L' := [(7, v1), (8, .int .i64 ((min 1 m : Nat) : Int))]) ⟨rfl, rfl, trivial⟩ (List.Perm.refl _) ?_
 refine C_loop (fun n H' M' L' => ∃ (q : Nat) (l : List Int) (xs : List Value), m - q = n ∧ (1 ≤ q ∨ m = 0) ∧ q ≤ m ∧ l.length = m ∧ l.take q = List.replicate q a ∧ Rw H' v1 xs l ∧ H.le H' ∧ .row v1 3 (Rep.sz Int) m xs :: M = M' ∧ [(7, v1), (8, .int .i64 (q : Int))] = L') (m - min 1 m) ⟨min 1 m, l2, xs2, rfl, by omega, by omega, hl2l, hl2t, hx2, Hp.le_refl _, rfl, rfl⟩ ?_
 rintro n3 H3 _ _ ⟨q, l3, xs3, hn3, hq1, hqm, hl3, ht3, hx3, hle3, rfl, rfl⟩
 refine C_seq (C_seq (C_region ?_))
 refine W_move rfl rfl rfl ?_
 refine W_move rfl rfl rfl ?_
 refine W_as (M' := .row v1 3 (Rep.sz Int) l3.length xs3 :: M) (by rw [hl3]) ?_
 refine W_lenO (List.mem_cons_self ..) rfl rfl runUnderlying42 rfl ?_
 refine W_bin rfl rfl rfl rfl rfl ?_
 refine W_end (E_then ?_)
 refine C_cond (b := decide ((q : Int) < (l3.length : Int))) rfl (fun hb => ?_) (fun hb => ?_)
 ·have hlt : q < l3.length := by have := of_decide_eq_true hb; omega
  refine C_skip (E_then ?_)
  refine C_rowSome (by omega) (fun gb off cap hv hcap => ?_)
  subst hv
  refine C_block ?_
  refine C_as (M' := [[.row (.slice (some ⟨gb, off, none⟩) l3.length cap) 3 (Rep.sz Int) l3.length xs3]].flatten ++ M) rfl ?_
  refine C_region_tok0 8 (phiT [(fun H rs v => [] = rs ∧ .int .i64 (q : Int) = v), (fun H rs v => [] = rs ∧ .slice (some ⟨gb, off, none⟩) l3.length cap = v), (fun H rs v => [] = rs ∧ .int .i64 (q : Int) = v), (fun H rs v => [] = rs ∧ .slice (some ⟨gb, off + q * Rep.sz Int, none⟩) (l3.length - q) (cap - q) = v), (fun H rs v => [] = rs ∧ .slice (some ⟨gb, off, none⟩) l3.length cap = v), (fun H rs v => [] = rs ∧ .int .i64 (q : Int) = v), (fun H rs v => [] = rs ∧ .slice (some ⟨gb, off, none⟩) q cap = v), (fun H rs v => ∃ xs4 : List Value, [.row (.slice (some ⟨gb, off, none⟩) l3.length cap) 3 (Rep.sz Int) l3.length xs4] = rs ∧ .int .i64 ((min q (l3.length - q) : Nat) : Int) = v ∧ Rw H (.slice (some ⟨gb, off, none⟩) l3.length cap) xs4 (l3.take q ++ l3.take (min q (l3.length - q)) ++ l3.drop (q + min q (l3.length - q))))]) [[], [], [], [], [], [], [], [8]] [[], [], [], [], [], [], [], []] [[.row (.slice (some ⟨gb, off, none⟩) l3.length cap) 3 (Rep.sz Int) l3.length xs3]] [0, 1, 2, 3, 4, 5, 6, 7] Facts.mixed (by kernel_rfl) rfl rfl rfl (by kernel_rfl) (phiT_mono ⟨eq_monoT _ _, eq_monoT _ _, eq_monoT _ _, eq_monoT _ _, eq_monoT _ _, eq_monoT _ _, eq_monoT _ _, (by rintro H1 H2 rs v hle ⟨xs4, rfl, rfl, h⟩; exact ⟨xs4, rfl, rfl, h.mono hle⟩), trivial⟩) ⟨?_, ?_, ?_, ?_, ?_, ?_, ?_, ?_, trivial⟩ ?_
  ·intro HX hX X Rest hR
   intro hU hUp
   refine W_move rfl rfl rfl ?_
   exact W_end (OneT_end [] (Hp.le_refl _) ⟨rfl, rfl⟩)
  ·intro HX hX X Rest hR
   intro hU hUp
   refine W_move rfl rfl rfl ?_
   exact W_end (OneT_end [] (Hp.le_refl _) ⟨rfl, rfl⟩)
  ·intro HX hX X Rest hR
   intro hU hUp
   refine W_move rfl rfl rfl ?_
   exact W_end (OneT_end [] (Hp.le_refl _) ⟨rfl, rfl⟩)
  ·intro HX hX X Rest hR
   rintro _ _ ⟨rfl, rfl⟩
   rintro _ _ ⟨rfl, rfl⟩
   intro hU hUp
   refine W_sliceV (m := cap) (h := l3.length) (l := q) rfl rfl runUnderlying42 sizeOf3 rfl (.inl rfl) (.inl ⟨rfl, rfl⟩) (.inl ⟨rfl, rfl⟩) (.inr ⟨_, _, _, rfl, rfl, by omega, by omega, by omega⟩) (by rw [if_neg (by omega), Option.map_some, Addr.add_lit]) ?_
   exact W_end (OneT_end [] (Hp.le_refl _) ⟨rfl, rfl⟩)
  ·intro HX hX X Rest hR
   intro hU hUp
   refine W_move rfl rfl rfl ?_
   exact W_end (OneT_end [] (Hp.le_refl _) ⟨rfl, rfl⟩)
  ·intro HX hX X Rest hR
   intro hU hUp
   refine W_move rfl rfl rfl ?_
   exact W_end (OneT_end [] (Hp.le_refl _) ⟨rfl, rfl⟩)
  ·intro HX hX X Rest hR
   rintro _ _ ⟨rfl, rfl⟩
   rintro _ _ ⟨rfl, rfl⟩
   intro hU hUp
   refine W_sliceV (m := cap) (h := q) (l := 0) rfl rfl runUnderlying42 sizeOf3 rfl (.inl rfl) (.inl ⟨rfl, rfl⟩) (.inr ⟨_, _, _, rfl, rfl, by omega, by omega, by omega⟩) (.inl ⟨rfl, rfl⟩) (by rw [if_neg (by omega), Nat.sub_zero, Nat.sub_zero, Option.map_some, Addr.add_lit, Nat.zero_mul, Nat.add_zero]) ?_
   exact W_end (OneT_end [] (Hp.le_refl _) ⟨rfl, rfl⟩)
  ·intro HX hX X Rest hR
   rintro _ _ ⟨rfl, rfl⟩
   rintro _ _ ⟨rfl, rfl⟩
   intro hU hUp
   refine W_as (M' := .row (.slice (some ⟨gb, off, none⟩) l3.length cap) 3 (Rep.sz Int) l3.length xs3 :: Rest) rfl ?_
   refine W_copySelf (α := Int) (l := l3) (q := q) rfl rfl underlying42 sizeOf3 rfl (hx3.mono hX) (by omega) rfl rfl ?_
   intro xs4 hx4
   exact W_end (OneT_end [.row (.slice (some ⟨gb, off, none⟩) l3.length cap) 3 (Rep.sz Int) l3.length xs4] (Hp.le_refl _) ⟨xs4, rfl, rfl, hx4⟩)
  intro H5 hle5
  rintro _ _ ⟨rfl, rfl⟩
  rintro _ _ ⟨rfl, rfl⟩
  rintro _ _ ⟨rfl, rfl⟩
  rintro _ _ ⟨rfl, rfl⟩
  rintro _ _ ⟨rfl, rfl⟩
  rintro _ _ ⟨rfl, rfl⟩
  rintro _ _ ⟨rfl, rfl⟩
  rintro _ _ ⟨xs4, rfl, rfl, hx4⟩
  refine W_as (M' := .row (.slice (some ⟨gb, off, none⟩) l3.length cap) 3 (Rep.sz Int) l3.length xs4 :: M) rfl ?_
  have hrs := rep_step ht3 (by omega)
  refine W_bin rfl rfl rfl rfl rfl ?_
  refine W_assign rfl rfl rfl ?_
  refine W_end (E_normal_block ?_)
  have hwr : IntKind.i64.wrap ((q : Int) + ((min q (l3.length - q) : Nat) : Int)) = ((q + min q (l3.length - q) : Nat) : Int) := by
   rw [i64_of (by omega) (by omega)]; omega
  exact E_keepJ (E_back (by omega : m - (q + min q (l3.length - q)) < n3) ⟨q + min q (l3.length - q), _, xs4, rfl, by omega, by omega, by simp only [List.length_append, List.length_take, List.length_drop]; omega, hrs, hx4, Hp.le_trans hle3 hle5, by rw [hl3], rfl⟩) (List.Perm.refl _) ⟨rfl, congrArg (fun z => some (Value.int .i64 z)) hwr, trivial⟩
 ·have hge : q = m := by have := of_decide_eq_false hb; omega
  refine C_exit (E_exit_then (E_exit_then (E_exit_hit (E_then ?_))))
  have hfin : l3 = List.replicate m a := by
   have h := ht3
   rw [hge, List.take_of_length_le (by omega)] at h
   exact h
  refine C_seq (C_region ?_)
  refine W_move rfl rfl rfl ?_
  refine W_assign rfl rfl rfl ?_
  refine W_end (E_then (C_ret ?_))
  refine E_weak hle3 ?_
  rw [← hfin]
  exact end1 rfl rfl ⟨rfl, v1, xs3, rfl, rfl, hx3.toF⟩

theorem m_graph_parts_c {B : Nat} {w0 w : World} {H : Hp} {M : List Res} {p0_n : Int} {p1_l : (List S_A2_Int)} {without : Int} {v0 : Value} {r : (List Int)} (hm : m_graph_parts p0_n p1_l without = some r) (h0 : RdS H v0 p1_l) (ht : St B w0 H (M) w) :
  Calls prog 61 [.int .i64 (p0_n), v0, .int .i64 (without)].toArray w (Ret B w0 fun H' M' v => H = H' ∧ ∃ qv0 : Value, ∃ qxs0 : List Value, .row qv0 3 (Rep.sz Int) r.length qxs0 :: M = M' ∧ qv0 = v ∧ RwF qv0 qxs0 r) := by
 unfold m_graph_parts at hm
 refine enter func61 rfl rfl rfl ht ?_
 refine C_seq (C_region ?_)
 refine W_assign rfl rfl rfl ?_
 refine W_end (E_then (C_seq (C_region ?_)))
 refine W_buildSliceO (α := Int) (css := [[.int .i64 ((-1))]]) (zs := [.int .i64 (0)]) (out := [.int .i64 ((-1))]) (ys := ([((-1))] : List Int)) rfl rfl rfl ⟨rfl, trivial⟩ runUnderlying42 sizeOf3 rfl zeroValue3 (by kernel_rfl) rfl rfl rfl rfl ⟨[.int .i64 ((-1))], [], rfl, rfl, rfl⟩ rfl ?_
 intro v101 xs102 hr103
 refine W_move rfl rfl rfl ?_
 obtain ⟨hz104, hm⟩ := need_some hm
 refine W_call call70 rfl rfl rfl (fun w ht => by obtain ⟨H0_, hl0_, ht0_, hr0_, bk0_⟩ := ht.lendRow hr103 rfl; have h := repeat70_c hr0_ hz104 ht0_; exact lend_back bk0_ h) ?_
 rintro _ _ _ ⟨rfl, _, rfl, v105, xs106, rfl, rfl, hr107⟩
 have hr107 := hr107 H
 refine W_assign rfl rfl rfl ?_
 refine W_end (E_then (C_seq (C_region ?_)))
 refine W_assign rfl rfl rfl ?_
 refine W_end (E_then (C_seq (C_seq (C_region ?_))))
 refine W_move rfl rfl rfl ?_
 refine W_move rfl rfl rfl ?_
 refine W_end (E_then (C_block ?_))
 obtain ⟨hq5182, hm⟩ := need_some hm
 refine C_drop (List.Sublist.cons _ (List.Sublist.refl _)) ?_
 refine C_keep (L' := [(1, v0), (2, .int .i64 (without)), (7, v105), (8, .int .i64 (0)), (18, .int .i64 (p0_n)), (19, .int .i64 (((0 : Nat) : Int)))]) ⟨rfl, rfl, rfl, rfl, rfl, rfl, trivial⟩ (List.Perm.refl _) ?_
 refine C_loop (fun n H' M' L' => ∃ (k108 : Nat) (zs5184' : Nat), ∃ l5173 : List Int, ∃ n5175 : Int, ∃ xs5172 : List Value, k108 + zs5184' = (p0_n : Int).toNat ∧ zs5184' = n ∧ forN (fun k s5178 n => m_graph_parts_b55 p1_l without k s5178.1 s5178.2 n) (fun s5178 => some s5178.1) zs5184' k108 (l5173, n5175) = some r ∧ Rw H' v105 xs5172 l5173 ∧ H.le H' ∧ .row v105 3 (Rep.sz Int) l5173.length xs5172 :: M = M' ∧ [(1, v0), (2, .int .i64 (without)), (7, v105), (8, .int .i64 (n5175)), (18, .int .i64 (p0_n)), (19, .int .i64 ((k108 : Int)))] = L') _ ⟨0, _, (repL ([((-1))] : List Int) p0_n), 0, xs106, Nat.zero_add _, rfl, hm, hr107, (Hp.le_refl _), rfl, rfl⟩ ?_
 rintro _ H5176 _ _ ⟨k108, zs5184', l5173, n5175, xs5172, hd5186, rfl, hm, hr5174, hle5177, rfl, rfl⟩
 refine C_seq (C_region ?_)
 refine W_bin rfl rfl rfl rfl rfl ?_
 refine W_end (E_then (C_seq ?_))
 refine C_cond (b := decide ((k108 : Int) < p0_n)) rfl (fun hb5188 => ?_) (fun hb5188 => ?_)
 ·obtain ⟨zs5184, rfl, hd5187, hy5185⟩ := rngN_t hd5186 hb5188
  have hm : m_graph_parts_b55 p1_l without k108 l5173 n5175 (forN (fun k s5178 n => m_graph_parts_b55 p1_l without k s5178.1 s5178.2 n) (fun s5178 => some s5178.1) zs5184 (k108 + 1)) = some r := hm
  generalize hn5180 : forN (fun k s5178 n => m_graph_parts_b55 p1_l without k s5178.1 s5178.2 n) (fun s5178 => some s5178.1) zs5184 (k108 + 1) = nx5179 at hm
  unfold m_graph_parts_b55 at hm
  refine C_skip (E_then ?_)
  refine C_seq_join (fun H' M' L' => ∃ l6449 : List Int, ∃ n6451 : Int, ∃ xs6448 : List Value, m_graph_parts_b69 nx5179 l6449 n6451 = some r ∧ Rw H' v105 xs6448 l6449 ∧ H5176.le H' ∧ .row v105 3 (Rep.sz Int) l6449.length xs6448 :: M = M' ∧ [(1, v0), (2, .int .i64 (without)), (7, v105), (8, .int .i64 (n6451)), (18, .int .i64 (p0_n)), (19, .int .i64 ((k108 : Int)))] = L') ?_ (fun J6454 => ?_)
  ·rintro H6452 _ _ ⟨l6449, n6451, xs6448, hm, hr6450, hle6453, rfl, rfl⟩
   unfold m_graph_parts_b69 at hm
   refine C_region ?_
   refine W_bin rfl rfl rfl rfl rfl ?_
   refine W_move rfl rfl rfl ?_
   refine W_end ?_
   exact E_keepJ (E_back (Nat.lt_succ_self _) ⟨k108 + 1, zs5184, l6449, n6451, xs6448, hd5187, rfl, (by rw [hn5180]; exact hm), hr6450, (Hp.le_trans hle5177 hle6453), rfl, rfl⟩) (List.Perm.refl _) ⟨rfl, rfl, rfl, rfl, rfl, (congrArg (fun z => some (Value.int .i64 z)) (i64_succN hy5185 (toNat_max hq5182))), trivial⟩
  ·refine C_block (C_seq (C_region ?_))
   refine W_move rfl rfl rfl ?_
   refine W_assign rfl rfl rfl ?_
   refine W_end (E_then (C_seq (C_seq (C_region ?_))))
   refine W_move rfl rfl rfl ?_
   refine W_move rfl rfl rfl ?_
   obtain ⟨y6455, h6456, he6457, hm⟩ := idx_some hm
   refine W_indexO (List.mem_cons_self ..) rfl rfl runUnderlying42 sizeOf3 rfl rfl h6456 (List.getElem?_eq_some_iff.1 he6457).1 ?_
   obtain ⟨_, rfl, hg6458⟩ := (hr5174).elem he6457
   refine W_load rfl rfl isAgg3 rfl (row_one0 (List.mem_cons_self ..) hg6458 rfl) ?_
   refine W_bin rfl rfl rfl rfl rfl ?_
   refine W_end (E_then ?_)
   refine C_cond (b := decide (0 ≤ y6455)) rfl (fun hb6459 => ?_) (fun hb6459 => ?_)
   ·have hm := ite_t' hb6459 hm
    refine C_exit (E_exit_then (E_exit_hit ?_))
    exact E_keepJ (J6454 _ _ _ ⟨l5173, n5175, xs5172, hm, hr5174, (Hp.le_refl _), rfl, rfl⟩) (List.Perm.refl _) ⟨rfl, rfl, rfl, rfl, rfl, rfl, trivial⟩
   ·have hm := ite_f' hb6459 hm
    refine C_skip (E_then (C_seq (C_region ?_)))
    refine W_move rfl rfl rfl ?_
    refine W_move rfl rfl rfl ?_
    refine W_move rfl rfl rfl ?_
    obtain ⟨y6460, h6461, he6462, hm⟩ := idx_some hm
    refine W_indexO (List.mem_cons_self ..) rfl rfl runUnderlying42 sizeOf3 rfl rfl h6461 (List.getElem?_eq_some_iff.1 he6462).1 ?_
    obtain ⟨_, rfl, hg6463⟩ := (hr5174).elem he6462
    obtain ⟨hr6464, he6465, hg6466⟩ := Rw.put (cs := [.int .i64 (n5175)]) (o := 0) (c := [.int .i64 (y6460)]) (out := [.int .i64 (n5175)]) (e2 := n5175) hr5174 he6462 rfl hg6463 rfl rfl rfl
    refine W_storeO2 (i := ((k108 : Int) : Int).toNat * Rep.sz Int + 0) (cs := [.int .i64 (n5175)]) rfl sizeOf3 rfl (row_ad0 _ _) rfl rfl rfl (Rw.room hr5174 he6462 rfl) rfl (all_cons rfl all_nil) (n' := (l5173.set (((k108 : Int) : Int).toNat) n5175).length) List.length_set ?_
    generalize over xs5172 (((k108 : Int) : Int).toNat * Rep.sz Int + 0) [.int .i64 (n5175)] = xs6467 at hr6464 hg6466 ⊢
    refine W_end (E_then (C_seq (C_seq (C_region ?_))))
    refine W_move rfl rfl rfl ?_
    refine W_buildSliceO (α := Int) (css := [[.int .i64 ((k108 : Int))]]) (zs := [.int .i64 (0)]) (out := [.int .i64 ((k108 : Int))]) (ys := ([((k108 : Int))] : List Int)) rfl rfl rfl ⟨rfl, trivial⟩ runUnderlying42 sizeOf3 rfl zeroValue3 (by kernel_rfl) rfl rfl rfl rfl ⟨[.int .i64 ((k108 : Int))], [], rfl, rfl, rfl⟩ rfl ?_
    intro v6468 xs6469 hr6470
    refine W_assign rfl rfl rfl ?_
    refine W_end (E_then (C_block ?_))
    refine C_keep (L' := [(1, v0), (2, .int .i64 (without)), (7, v105), (8, .int .i64 (n5175)), (10, v6468), (18, .int .i64 (p0_n)), (19, .int .i64 ((k108 : Int)))]) ⟨rfl, rfl, rfl, rfl, rfl, rfl, rfl, trivial⟩ (List.Perm.swap _ _ _) ?_
    refine C_loop (fun n H' M' L' => ∃ l7295 : List Int, ∃ l7299 : List Int, ∃ xs7294 : List Value, ∃ v7297 : Value, ∃ xs7298 : List Value, loopF (fun s7303 n => m_graph_parts_b78 p1_l without n5175 nx5179 s7303.1 s7303.2 n) n (l7295, l7299) = some r ∧ Rw H' v105 xs7294 l7295 ∧ Rw H' v7297 xs7298 l7299 ∧ H5176.le H' ∧ .row v105 3 (Rep.sz Int) l7295.length xs7294 :: .row v7297 3 (Rep.sz Int) l7299.length xs7298 :: M = M' ∧ [(1, v0), (2, .int .i64 (without)), (7, v105), (8, .int .i64 (n5175)), (10, v7297), (18, .int .i64 (p0_n)), (19, .int .i64 ((k108 : Int)))] = L') FUEL ⟨(l5173.set (((k108 : Int) : Int).toNat) n5175), ([((k108 : Int))] : List Int), xs6467, v6468, xs6469, hm, hr6464, hr6470, (Hp.le_refl _), rfl, rfl⟩ ?_
    rintro n7306 H7301 _ _ ⟨l7295, l7299, xs7294, v7297, xs7298, hm, hr7296, hr7300, hle7302, rfl, rfl⟩
    cases n7306 with
    | zero => cases hm
    | succ n7306 =>
     have hm : m_graph_parts_b78 p1_l without n5175 nx5179 l7295 l7299 (loopF (fun s7303 n => m_graph_parts_b78 p1_l without n5175 nx5179 s7303.1 s7303.2 n) n7306) = some r := hm
     generalize hn7305 : loopF (fun s7303 n => m_graph_parts_b78 p1_l without n5175 nx5179 s7303.1 s7303.2 n) n7306 = nx7304 at hm
     unfold m_graph_parts_b78 at hm
     refine C_seq (C_seq (C_region ?_))
     refine W_move rfl rfl rfl ?_
     refine W_lenO (List.mem_cons_of_mem _ (List.mem_cons_self ..)) rfl rfl runUnderlying42 rfl ?_
     refine W_bin rfl rfl rfl rfl rfl ?_
     refine W_end (E_then ?_)
     refine C_cond (b := decide (0 < (l7299.length : Int))) rfl (fun hb7312 => ?_) (fun hb7312 => ?_)
     ·have hm := ite_t' hb7312 hm
      refine C_skip (E_then (C_block (C_seq (C_region ?_))))
      refine W_move rfl rfl rfl ?_
      obtain ⟨y7313, h7314, he7315, hm⟩ := idx_some hm
      refine W_indexO (List.mem_cons_of_mem _ (List.mem_cons_self ..)) rfl rfl runUnderlying42 sizeOf3 rfl rfl h7314 (List.getElem?_eq_some_iff.1 he7315).1 ?_
      obtain ⟨_, rfl, hg7316⟩ := (hr7300).elem he7315
      refine W_load rfl rfl isAgg3 rfl (row_one0 (List.mem_cons_of_mem _ (List.mem_cons_self ..)) hg7316 rfl) ?_
      refine W_assign rfl rfl rfl ?_
      refine W_end (E_then (C_seq (C_region ?_)))
      refine W_move rfl rfl rfl ?_
      obtain ⟨hz7317, hm⟩ := need_some hm
      refine W_perm (List.Perm.swap _ _ _) ?_
      refine W_sliceO (α := Int) (l := (1 : Int).toNat) (h := l7299.length) rfl rfl runUnderlying42 sizeOf3 rfl rfl hr7300 (by omega) (by omega) (fun m hmm => (.inl ⟨rfl, rfl⟩)) (.inr ⟨_, _, _, rfl, rfl, by omega, by omega, rfl⟩) ?_
      intro v7318 xs7319 hr7320
      refine W_assign rfl rfl rfl ?_
      refine W_end (E_then (C_seq (C_region ?_)))
      refine W_move rfl rfl rfl ?_
      refine W_lenR rfl rfl runUnderlying97 rfl ((h0.mono hle5177).mono hle7302) ?_
      refine W_move rfl rfl rfl ?_
      refine W_end (E_then (C_block ?_))
      refine C_keep (L' := [(1, v0), (2, .int .i64 (without)), (7, v105), (8, .int .i64 (n5175)), (10, v7318), (11, .int .i64 (y7313)), (18, .int .i64 (p0_n)), (19, .int .i64 ((k108 : Int))), (41, v0), (42, .int .i64 ((p1_l.length : Int))), (43, .int .i64 (((0 : Nat) : Int)))]) ⟨rfl, rfl, rfl, rfl, rfl, rfl, rfl, rfl, rfl, rfl, rfl, trivial⟩ (List.Perm.swap _ _ _) ?_
      refine C_loop (fun n H' M' L' => ∃ (k7321 : Nat) (zs7591' : List S_A2_Int), ∃ l7578 : List Int, ∃ l7582 : List Int, ∃ xs7577 : List Value, ∃ v7580 : Value, ∃ xs7581 : List Value, (p1_l).drop k7321 = zs7591' ∧ zs7591'.length = n ∧ forI (fun k y s7586 n => m_graph_parts_b81 without n5175 y7313 k y s7586.1 s7586.2 n) (fun s7586 => nx7304 (s7586.1, s7586.2)) k7321 zs7591' (l7578, l7582) = some r ∧ Rw H' v105 xs7577 l7578 ∧ Rw H' v7580 xs7581 l7582 ∧ H7301.le H' ∧ .row v105 3 (Rep.sz Int) l7578.length xs7577 :: .row v7580 3 (Rep.sz Int) l7582.length xs7581 :: M = M' ∧ [(1, v0), (2, .int .i64 (without)), (7, v105), (8, .int .i64 (n5175)), (10, v7580), (11, .int .i64 (y7313)), (18, .int .i64 (p0_n)), (19, .int .i64 ((k108 : Int))), (41, v0), (42, .int .i64 ((p1_l.length : Int))), (43, .int .i64 ((k7321 : Int)))] = L') _ ⟨0, _, l7295, (slc l7299 (1 : Int).toNat l7299.length), xs7294, v7318, xs7319, rfl, rfl, hm, hr7296, hr7320, (Hp.le_refl _), rfl, rfl⟩ ?_
      rintro _ H7584 _ _ ⟨k7321, zs7591', l7578, l7582, xs7577, v7580, xs7581, hd7593, rfl, hm, hr7579, hr7583, hle7585, rfl, rfl⟩
      refine C_seq (C_region ?_)
      refine W_bin rfl rfl rfl rfl rfl ?_
      refine W_end (E_then (C_seq ?_))
      refine C_cond (b := decide ((k7321 : Int) < (p1_l.length : Int))) rfl (fun hb7595 => ?_) (fun hb7595 => ?_)
      ·obtain ⟨y7590, zs7591, rfl, hy7592, hd7594⟩ := rng_t hd7593 hb7595
       have hm : m_graph_parts_b81 without n5175 y7313 k7321 y7590 l7578 l7582 (forI (fun k y s7586 n => m_graph_parts_b81 without n5175 y7313 k y s7586.1 s7586.2 n) (fun s7586 => nx7304 (s7586.1, s7586.2)) (k7321 + 1) zs7591) = some r := hm
       generalize hn7588 : forI (fun k y s7586 n => m_graph_parts_b81 without n5175 y7313 k y s7586.1 s7586.2 n) (fun s7586 => nx7304 (s7586.1, s7586.2)) (k7321 + 1) zs7591 = nx7587 at hm
       unfold m_graph_parts_b81 at hm
       refine C_skip (E_then ?_)
       refine C_seq_join (fun H' M' L' => ∃ l7651 : List Int, ∃ l7655 : List Int, ∃ xs7650 : List Value, ∃ v7653 : Value, ∃ xs7654 : List Value, m_graph_parts_b82 nx7587 l7651 l7655 = some r ∧ Rw H' v105 xs7650 l7651 ∧ Rw H' v7653 xs7654 l7655 ∧ H7584.le H' ∧ .row v105 3 (Rep.sz Int) l7651.length xs7650 :: .row v7653 3 (Rep.sz Int) l7655.length xs7654 :: M = M' ∧ [(1, v0), (2, .int .i64 (without)), (7, v105), (8, .int .i64 (n5175)), (10, v7653), (11, .int .i64 (y7313)), (18, .int .i64 (p0_n)), (19, .int .i64 ((k108 : Int))), (41, v0), (42, .int .i64 ((p1_l.length : Int))), (43, .int .i64 ((k7321 : Int)))] = L') ?_ (fun J7659 => ?_)
       ·rintro H7657 _ _ ⟨l7651, l7655, xs7650, v7653, xs7654, hm, hr7652, hr7656, hle7658, rfl, rfl⟩
        unfold m_graph_parts_b82 at hm
        refine C_region ?_
        refine W_bin rfl rfl rfl rfl rfl ?_
        refine W_move rfl rfl rfl ?_
        refine W_end ?_
        exact E_keepJ (E_back (Nat.lt_succ_self _) ⟨k7321 + 1, zs7591, l7651, l7655, xs7650, v7653, xs7654, hd7594, rfl, (by rw [hn7588]; exact hm), hr7652, hr7656, (Hp.le_trans hle7585 hle7658), rfl, rfl⟩) (List.Perm.refl _) ⟨rfl, rfl, rfl, rfl, rfl, rfl, rfl, rfl, rfl, rfl, (congrArg (fun z => some (Value.int .i64 z)) (i64_succ hy7592 ((((h0.mono hle5177).mono hle7302).mono hle7585)).lenMax)), trivial⟩
       ·refine C_block (C_seq (C_region ?_))
        refine W_move rfl rfl rfl ?_
        obtain ⟨_, ⟨rfl⟩, hc7660⟩ := (h0).elem hy7592
        refine W_indexS rfl rfl runUnderlying97 sizeOf98 rfl (((h0.mono hle5177).mono hle7302).mono hle7585) rfl (Int.natCast_nonneg _) hy7592 ?_
        refine W_loadAgg rfl rfl isAgg98 sizeOf98 rfl (((hc7660.mono hle5177).mono hle7302).mono hle7585).at rfl ?_
        refine W_alloc (cs := [.int .i64 (0), .int .i64 (0)]) rfl rfl zeroValue98 rfl (fun b7661 => ?_)
        refine W_assign rfl rfl rfl ?_
        refine W_store (cs := [.int .i64 (y7590.a0), .int .i64 (y7590.a1)]) (out := [.int .i64 (y7590.a0), .int .i64 (y7590.a1)]) rfl sizeOf98 rfl rfl rfl rfl rfl (all_cons rfl (all_cons rfl all_nil)) (over_all rfl) ?_
        refine W_end (E_then (C_seq (C_seq (C_region ?_))))
        refine W_move rfl rfl rfl ?_
        refine W_move rfl rfl rfl ?_
        refine W_bin rfl rfl rfl rfl rfl ?_
        refine W_move rfl rfl rfl ?_
        cases hb7662 : (decide ((k7321 : Int) = without))
        ·have hm := ite_f' hb7662 hm
         refine W_indexAd rfl rfl runUnderlying98 sizeOf3 rfl rfl (by decide) (by decide) ?_
         refine W_load rfl rfl isAgg3 rfl (own_at (List.mem_cons_self ..) rfl) ?_
         refine W_move rfl rfl rfl ?_
         refine W_bin rfl rfl rfl rfl rfl ?_
         refine W_move rfl rfl rfl ?_
         cases hb7663 : (decide (y7590.a0 = y7313))
         ·have hm := ite_f' hb7663 hm
          refine W_indexAd rfl rfl runUnderlying98 sizeOf3 rfl rfl (by decide) (by decide) ?_
          refine W_load rfl rfl isAgg3 rfl (own_at (List.mem_cons_self ..) rfl) ?_
          refine W_move rfl rfl rfl ?_
          refine W_bin rfl rfl rfl rfl rfl ?_
          refine W_pick rfl rfl rfl rfl ?_
          refine W_pick rfl rfl rfl rfl ?_
          refine W_end (E_then ?_)
          refine C_cond (b := !decide (y7590.a1 = y7313)) rfl (fun hb7664 => ?_) (fun hb7664 => ?_)
          ·have hm := ite_t' hb7664 hm
           refine C_exit (E_exit_then (E_exit_hit ?_))
           refine E_drop (List.Sublist.cons _ (List.Sublist.refl _)) ?_
           exact E_keepJ (J7659 _ _ _ ⟨l7578, l7582, xs7577, v7580, xs7581, hm, hr7579, hr7583, (Hp.le_refl _), rfl, rfl⟩) (List.Perm.refl _) ⟨rfl, rfl, rfl, rfl, rfl, rfl, rfl, rfl, rfl, rfl, rfl, trivial⟩
          ·have hm := ite_f' hb7664 hm
           refine C_skip (E_then (C_seq (C_region ?_)))
           refine W_indexAd rfl rfl runUnderlying98 sizeOf3 rfl rfl (by decide) (by decide) ?_
           refine W_load rfl rfl isAgg3 rfl (own_at (List.mem_cons_self ..) rfl) ?_
           refine W_indexAd rfl rfl runUnderlying98 sizeOf3 rfl rfl (by decide) (by decide) ?_
           refine W_load rfl rfl isAgg3 rfl (own_at (List.mem_cons_self ..) rfl) ?_
           refine W_bin rfl rfl rfl rfl rfl ?_
           refine W_move rfl rfl rfl ?_
           refine W_bin rfl rfl rfl rfl rfl ?_
           refine W_assign rfl rfl rfl ?_
           refine W_end (E_then (C_seq (C_region ?_)))
           refine W_move rfl rfl rfl ?_
           refine W_move rfl rfl rfl ?_
           obtain ⟨y7665, h7666, he7667, hm⟩ := idx_some hm
           refine W_indexO (List.mem_cons_of_mem _ (List.mem_cons_self ..)) rfl rfl runUnderlying42 sizeOf3 rfl rfl h7666 (List.getElem?_eq_some_iff.1 he7667).1 ?_
           obtain ⟨_, rfl, hg7668⟩ := (hr7579).elem he7667
           refine W_load rfl rfl isAgg3 rfl (row_one0 (List.mem_cons_of_mem _ (List.mem_cons_self ..)) hg7668 rfl) ?_
           refine W_bin rfl rfl rfl rfl rfl ?_
           refine W_end (E_then ?_)
           refine C_cond (b := decide (y7665 < 0)) rfl (fun hb7669 => ?_) (fun hb7669 => ?_)
           ·have hm := ite_t' hb7669 hm
            refine C_seq (C_region ?_)
            refine W_move rfl rfl rfl ?_
            refine W_move rfl rfl rfl ?_
            refine W_move rfl rfl rfl ?_
            obtain ⟨y7670, h7671, he7672, hm⟩ := idx_some hm
            refine W_indexO (List.mem_cons_of_mem _ (List.mem_cons_self ..)) rfl rfl runUnderlying42 sizeOf3 rfl rfl h7671 (List.getElem?_eq_some_iff.1 he7672).1 ?_
            obtain ⟨_, rfl, hg7673⟩ := (hr7579).elem he7672
            refine W_perm (List.Perm.swap _ _ _) ?_
            obtain ⟨hr7674, he7675, hg7676⟩ := Rw.put (cs := [.int .i64 (n5175)]) (o := 0) (c := [.int .i64 (y7670)]) (out := [.int .i64 (n5175)]) (e2 := n5175) hr7579 he7672 rfl hg7673 rfl rfl rfl
            refine W_storeO2 (i := (IntKind.i64.wrap ((IntKind.i64.wrap (y7590.a0 + y7590.a1)) - y7313) : Int).toNat * Rep.sz Int + 0) (cs := [.int .i64 (n5175)]) rfl sizeOf3 rfl (row_ad0 _ _) rfl rfl rfl (Rw.room hr7579 he7672 rfl) rfl (all_cons rfl all_nil) (n' := (l7578.set ((IntKind.i64.wrap ((IntKind.i64.wrap (y7590.a0 + y7590.a1)) - y7313) : Int).toNat) n5175).length) List.length_set ?_
            generalize over xs7577 ((IntKind.i64.wrap ((IntKind.i64.wrap (y7590.a0 + y7590.a1)) - y7313) : Int).toNat * Rep.sz Int + 0) [.int .i64 (n5175)] = xs7677 at hr7674 hg7676 ⊢
            refine W_end (E_then (C_region ?_))
            refine W_move rfl rfl rfl ?_
            refine W_move rfl rfl rfl ?_
            refine W_buildSlice (α := Int) (css := [[.int .i64 (IntKind.i64.wrap ((IntKind.i64.wrap (y7590.a0 + y7590.a1)) - y7313))]]) (zs := [.int .i64 (0)]) (out := [.int .i64 (IntKind.i64.wrap ((IntKind.i64.wrap (y7590.a0 + y7590.a1)) - y7313))]) (ys := ([(IntKind.i64.wrap ((IntKind.i64.wrap (y7590.a0 + y7590.a1)) - y7313))] : List Int)) rfl rfl rfl ⟨rfl, trivial⟩ runUnderlying42 sizeOf3 rfl zeroValue3 (by kernel_rfl) rfl rfl rfl rfl ⟨[.int .i64 (IntKind.i64.wrap ((IntKind.i64.wrap (y7590.a0 + y7590.a1)) - y7313))], [], rfl, rfl, rfl⟩ rfl ?_
            intro b7678 v7679 H7680 hv7681 hle7682 h7683
            have hc7684 : Value.cap' v7679 = ([(IntKind.i64.wrap ((IntKind.i64.wrap (y7590.a0 + y7590.a1)) - y7313))] : List Int).length := by rw [hv7681]; rfl
            obtain ⟨hz7685, hm⟩ := need_some hm
            refine W_perm (List.Perm.trans (List.Perm.cons _ (List.Perm.swap _ _ _)) (List.Perm.swap _ _ _)) ?_
            refine W_appendO (α := Int) (l := l7582) (ys := ([(IntKind.i64.wrap ((IntKind.i64.wrap (y7590.a0 + y7590.a1)) - y7313))] : List Int)) rfl rfl underlying42 ⟨_, rfl, rfl, rfl, rfl⟩ rfl rfl rfl rfl rfl (hr7583.mono hle7682) h7683 hz7685 ?_
            intro v7686 xs7687 hr7688
            refine W_assign rfl rfl rfl ?_
            refine W_end (E_normal_block ?_)
            refine E_drop (List.Sublist.cons_cons _ (List.Sublist.cons_cons _ (List.Sublist.cons _ (List.Sublist.refl _)))) ?_
            exact E_keepJ (J7659 _ _ _ ⟨(l7578.set ((IntKind.i64.wrap ((IntKind.i64.wrap (y7590.a0 + y7590.a1)) - y7313) : Int).toNat) n5175), (l7582 ++ ([(IntKind.i64.wrap ((IntKind.i64.wrap (y7590.a0 + y7590.a1)) - y7313))] : List Int)), xs7677, v7686, xs7687, hm, (hr7674.mono hle7682), hr7688, hle7682, rfl, rfl⟩) (List.Perm.swap _ _ _) ⟨rfl, rfl, rfl, rfl, rfl, rfl, rfl, rfl, rfl, rfl, rfl, trivial⟩
           ·have hm := ite_f' hb7669 hm
            refine C_skip (E_normal_block ?_)
            refine E_drop (List.Sublist.cons _ (List.Sublist.refl _)) ?_
            exact E_keepJ (J7659 _ _ _ ⟨l7578, l7582, xs7577, v7580, xs7581, hm, hr7579, hr7583, (Hp.le_refl _), rfl, rfl⟩) (List.Perm.refl _) ⟨rfl, rfl, rfl, rfl, rfl, rfl, rfl, rfl, rfl, rfl, rfl, trivial⟩
         ·have hm := ite_t' hb7663 hm
          refine W_no rfl rfl rfl ?_
          refine W_no rfl rfl rfl ?_
          refine W_no rfl rfl rfl ?_
          refine W_no rfl rfl rfl ?_
          refine W_pick rfl rfl rfl rfl ?_
          refine W_pick rfl rfl rfl rfl ?_
          refine W_end (E_then ?_)
          refine C_cond (b := false) rfl (fun hb => Bool.noConfusion hb) (fun _ => ?_)
          refine C_skip (E_then (C_seq (C_region ?_)))
          refine W_indexAd rfl rfl runUnderlying98 sizeOf3 rfl rfl (by decide) (by decide) ?_
          refine W_load rfl rfl isAgg3 rfl (own_at (List.mem_cons_self ..) rfl) ?_
          refine W_indexAd rfl rfl runUnderlying98 sizeOf3 rfl rfl (by decide) (by decide) ?_
          refine W_load rfl rfl isAgg3 rfl (own_at (List.mem_cons_self ..) rfl) ?_
          refine W_bin rfl rfl rfl rfl rfl ?_
          refine W_move rfl rfl rfl ?_
          refine W_bin rfl rfl rfl rfl rfl ?_
          refine W_assign rfl rfl rfl ?_
          refine W_end (E_then (C_seq (C_region ?_)))
          refine W_move rfl rfl rfl ?_
          refine W_move rfl rfl rfl ?_
          obtain ⟨y7689, h7690, he7691, hm⟩ := idx_some hm
          refine W_indexO (List.mem_cons_of_mem _ (List.mem_cons_self ..)) rfl rfl runUnderlying42 sizeOf3 rfl rfl h7690 (List.getElem?_eq_some_iff.1 he7691).1 ?_
          obtain ⟨_, rfl, hg7692⟩ := (hr7579).elem he7691
          refine W_load rfl rfl isAgg3 rfl (row_one0 (List.mem_cons_of_mem _ (List.mem_cons_self ..)) hg7692 rfl) ?_
          refine W_bin rfl rfl rfl rfl rfl ?_
          refine W_end (E_then ?_)
          refine C_cond (b := decide (y7689 < 0)) rfl (fun hb7693 => ?_) (fun hb7693 => ?_)
          ·have hm := ite_t' hb7693 hm
           refine C_seq (C_region ?_)
           refine W_move rfl rfl rfl ?_
           refine W_move rfl rfl rfl ?_
           refine W_move rfl rfl rfl ?_
           obtain ⟨y7694, h7695, he7696, hm⟩ := idx_some hm
           refine W_indexO (List.mem_cons_of_mem _ (List.mem_cons_self ..)) rfl rfl runUnderlying42 sizeOf3 rfl rfl h7695 (List.getElem?_eq_some_iff.1 he7696).1 ?_
           obtain ⟨_, rfl, hg7697⟩ := (hr7579).elem he7696
           refine W_perm (List.Perm.swap _ _ _) ?_
           obtain ⟨hr7698, he7699, hg7700⟩ := Rw.put (cs := [.int .i64 (n5175)]) (o := 0) (c := [.int .i64 (y7694)]) (out := [.int .i64 (n5175)]) (e2 := n5175) hr7579 he7696 rfl hg7697 rfl rfl rfl
           refine W_storeO2 (i := (IntKind.i64.wrap ((IntKind.i64.wrap (y7590.a0 + y7590.a1)) - y7313) : Int).toNat * Rep.sz Int + 0) (cs := [.int .i64 (n5175)]) rfl sizeOf3 rfl (row_ad0 _ _) rfl rfl rfl (Rw.room hr7579 he7696 rfl) rfl (all_cons rfl all_nil) (n' := (l7578.set ((IntKind.i64.wrap ((IntKind.i64.wrap (y7590.a0 + y7590.a1)) - y7313) : Int).toNat) n5175).length) List.length_set ?_
           generalize over xs7577 ((IntKind.i64.wrap ((IntKind.i64.wrap (y7590.a0 + y7590.a1)) - y7313) : Int).toNat * Rep.sz Int + 0) [.int .i64 (n5175)] = xs7701 at hr7698 hg7700 ⊢
           refine W_end (E_then (C_region ?_))
           refine W_move rfl rfl rfl ?_
           refine W_move rfl rfl rfl ?_
           refine W_buildSlice (α := Int) (css := [[.int .i64 (IntKind.i64.wrap ((IntKind.i64.wrap (y7590.a0 + y7590.a1)) - y7313))]]) (zs := [.int .i64 (0)]) (out := [.int .i64 (IntKind.i64.wrap ((IntKind.i64.wrap (y7590.a0 + y7590.a1)) - y7313))]) (ys := ([(IntKind.i64.wrap ((IntKind.i64.wrap (y7590.a0 + y7590.a1)) - y7313))] : List Int)) rfl rfl rfl ⟨rfl, trivial⟩ runUnderlying42 sizeOf3 rfl zeroValue3 (by kernel_rfl) rfl rfl rfl rfl ⟨[.int .i64 (IntKind.i64.wrap ((IntKind.i64.wrap (y7590.a0 + y7590.a1)) - y7313))], [], rfl, rfl, rfl⟩ rfl ?_
           intro b7702 v7703 H7704 hv7705 hle7706 h7707
           have hc7708 : Value.cap' v7703 = ([(IntKind.i64.wrap ((IntKind.i64.wrap (y7590.a0 + y7590.a1)) - y7313))] : List Int).length := by rw [hv7705]; rfl
           obtain ⟨hz7709, hm⟩ := need_some hm
           refine W_perm (List.Perm.trans (List.Perm.cons _ (List.Perm.swap _ _ _)) (List.Perm.swap _ _ _)) ?_
           refine W_appendO (α := Int) (l := l7582) (ys := ([(IntKind.i64.wrap ((IntKind.i64.wrap (y7590.a0 + y7590.a1)) - y7313))] : List Int)) rfl rfl underlying42 ⟨_, rfl, rfl, rfl, rfl⟩ rfl rfl rfl rfl rfl (hr7583.mono hle7706) h7707 hz7709 ?_
           intro v7710 xs7711 hr7712
           refine W_assign rfl rfl rfl ?_
           refine W_end (E_normal_block ?_)
           refine E_drop (List.Sublist.cons_cons _ (List.Sublist.cons_cons _ (List.Sublist.cons _ (List.Sublist.refl _)))) ?_
           exact E_keepJ (J7659 _ _ _ ⟨(l7578.set ((IntKind.i64.wrap ((IntKind.i64.wrap (y7590.a0 + y7590.a1)) - y7313) : Int).toNat) n5175), (l7582 ++ ([(IntKind.i64.wrap ((IntKind.i64.wrap (y7590.a0 + y7590.a1)) - y7313))] : List Int)), xs7701, v7710, xs7711, hm, (hr7698.mono hle7706), hr7712, hle7706, rfl, rfl⟩) (List.Perm.swap _ _ _) ⟨rfl, rfl, rfl, rfl, rfl, rfl, rfl, rfl, rfl, rfl, rfl, trivial⟩
          ·have hm := ite_f' hb7693 hm
           refine C_skip (E_normal_block ?_)
           refine E_drop (List.Sublist.cons _ (List.Sublist.refl _)) ?_
           exact E_keepJ (J7659 _ _ _ ⟨l7578, l7582, xs7577, v7580, xs7581, hm, hr7579, hr7583, (Hp.le_refl _), rfl, rfl⟩) (List.Perm.refl _) ⟨rfl, rfl, rfl, rfl, rfl, rfl, rfl, rfl, rfl, rfl, rfl, trivial⟩
        ·have hm := ite_t' hb7662 hm
         refine W_no rfl rfl rfl ?_
         refine W_no rfl rfl rfl ?_
         refine W_no rfl rfl rfl ?_
         refine W_no rfl rfl rfl ?_
         refine W_no rfl rfl rfl ?_
         refine W_no rfl rfl rfl ?_
         refine W_no rfl rfl rfl ?_
         refine W_no rfl rfl rfl ?_
         refine W_no rfl rfl rfl ?_
         refine W_no rfl rfl rfl ?_
         refine W_pick rfl rfl rfl rfl ?_
         refine W_end (E_then ?_)
         refine C_cond (b := true) rfl (fun _ => ?_) (fun hb => Bool.noConfusion hb)
         refine C_exit (E_exit_then (E_exit_hit ?_))
         refine E_drop (List.Sublist.cons _ (List.Sublist.refl _)) ?_
         exact E_keepJ (J7659 _ _ _ ⟨l7578, l7582, xs7577, v7580, xs7581, hm, hr7579, hr7583, (Hp.le_refl _), rfl, rfl⟩) (List.Perm.refl _) ⟨rfl, rfl, rfl, rfl, rfl, rfl, rfl, rfl, rfl, rfl, rfl, trivial⟩
      ·obtain rfl := rng_f hd7593 hb7595
       have hm : (nx7304 (l7578, l7582)) = some r := hm
       refine C_exit (E_exit_then (E_exit_then (E_exit_hit (E_normal_block ?_))))
       exact E_keepJ (E_back (Nat.lt_succ_self _) ⟨l7578, l7582, xs7577, v7580, xs7581, (by rw [hn7305]; exact hm), hr7579, hr7583, (Hp.le_trans hle7302 hle7585), rfl, rfl⟩) (List.Perm.refl _) ⟨rfl, rfl, rfl, rfl, rfl, rfl, rfl, trivial⟩
     ·have hm := ite_f' hb7312 hm
      refine C_exit (E_exit_then (E_exit_then (E_exit_hit (E_then (C_region ?_)))))
      refine W_move rfl rfl rfl ?_
      refine W_bin rfl rfl rfl rfl rfl ?_
      refine W_assign rfl rfl rfl ?_
      refine W_end (E_normal_block ?_)
      refine E_drop (List.Sublist.cons_cons _ (List.Sublist.cons _ (List.Sublist.refl _))) ?_
      exact E_keepJ (J6454 _ _ _ ⟨l7295, IntKind.i64.wrap (n5175 + 1), xs7294, hm, hr7296, hle7302, rfl, rfl⟩) (List.Perm.refl _) ⟨rfl, rfl, rfl, rfl, rfl, rfl, trivial⟩
 ·obtain rfl := rngN_f hd5186 hb5188
  have hm : (some l5173) = some r := hm
  refine C_exit (E_exit_then (E_exit_then (E_exit_hit (E_then (C_seq (C_region ?_))))))
  refine W_move rfl rfl rfl ?_
  refine W_assign rfl rfl rfl ?_
  refine W_end (E_then (C_ret ?_))
  obtain rfl := Option.some.inj hm
  refine E_weak hle5177 ?_
  exact end1 rfl rfl ⟨rfl, v105, xs5172, rfl, rfl, (hr5174).toF⟩

theorem m_graph_Components_c {B : Nat} {w0 w : World} {H : Hp} {M : List Res} {p0_n : Int} {p1_l : (List S_A2_Int)} {v0 : Value} {r : (List Int) × Int} (hm : m_graph_Components p0_n p1_l = some r) (h0 : RdS H v0 p1_l) (ht : St B w0 H (M) w) :
  Calls prog 52 [.int .i64 (p0_n), v0].toArray w (Ret B w0 fun H' M' v => H = H' ∧ ∃ qv0 : Value, ∃ qxs0 : List Value, .row qv0 3 (Rep.sz Int) r.1.length qxs0 :: M = M' ∧ .tuple #[qv0, .int .i64 (r.2)] = v ∧ RwF qv0 qxs0 r.1) := by
 unfold m_graph_Components at hm
 refine enter func52 rfl rfl rfl ht ?_
 refine C_seq (C_region ?_)
 refine W_assign rfl rfl rfl ?_
 refine W_assign rfl rfl rfl ?_
 refine W_end (E_then (C_seq (C_seq (C_region ?_))))
 refine W_move rfl rfl rfl ?_
 refine W_move rfl rfl rfl ?_
 obtain ⟨r101, hc102, hm⟩ := bind_some hm
 refine W_call call57 rfl rfl rfl (fun w ht => by have h := m_graph_Check_c (hm := hc102) h0 ht; exact h) ?_
 rintro _ _ _ ⟨rfl, rfl, rfl⟩
 refine W_assign rfl rfl rfl ?_
 refine W_end (E_then (C_seq (C_region ?_)))
 refine W_move rfl rfl rfl ?_
 refine W_bin rfl rfl rfl rfl rfl ?_
 refine W_end (E_then ?_)
 refine C_cond (b := !decide (r101 = 0)) rfl (fun hb103 => ?_) (fun hb103 => ?_)
 ·have hm := ite_t' hb103 hm
  refine C_seq (C_region ?_)
  refine W_move rfl rfl rfl ?_
  refine W_assign rfl rfl rfl ?_
  refine W_assign rfl rfl rfl ?_
  refine W_end (E_then (C_ret (E_ret_then ?_)))
  refine E_nilRow 3 (Rep.sz Int) ?_
  obtain rfl := Option.some.inj hm
  refine E_weak (Hp.le_refl _) ?_
  exact end2 rfl rfl rfl ⟨rfl, (.slice none 0 0), [], rfl, rfl, (Rw.nil (H := H)).toF⟩
 ·have hm := ite_f' hb103 hm
  refine C_skip (E_then (C_seq (C_region ?_)))
  refine W_move rfl rfl rfl ?_
  refine W_move rfl rfl rfl ?_
  obtain ⟨r104, hc105, hm⟩ := bind_some hm
  refine W_call call61 rfl rfl rfl (fun w ht => by have h := m_graph_parts_c (hm := hc105) h0 ht; exact h) ?_
  rintro _ _ _ ⟨rfl, v106, xs107, rfl, rfl, h108⟩
  have h108 := h108 H
  refine W_assign rfl rfl rfl ?_
  refine W_assign rfl rfl rfl ?_
  refine W_end (E_then (C_ret ?_))
  obtain rfl := Option.some.inj hm
  refine E_weak (Hp.le_refl _) ?_
  exact end2 rfl rfl rfl ⟨rfl, v106, xs107, rfl, rfl, (h108).toF⟩

theorem m_station_Buses_c {B : Nat} {w0 w : World} {H : Hp} {M : List Res} {p0_n : S_api_Network} {v0 : Value} {v1 : Value} {v2 : Value} {v3 : Value} {v4 : Value} {v5 : Value} {r : (List Int)} (hm : m_station_Buses p0_n = some r) (h0 : RdS H v0 p0_n.Nodes) (h1 : RdS H v1 p0_n.Switches) (h2 : RdS H v2 p0_n.Branches) (h3 : RdS H v3 p0_n.Gens) (h4 : RdS H v4 p0_n.Loads) (h5 : RdS H v5 p0_n.Stores) (ht : St B w0 H (M) w) :
  Calls prog 51 [.agg [v0, v1, v2, v3, v4, v5].toArray].toArray w (Ret B w0 fun H' M' v => H = H' ∧ ∃ qv0 : Value, ∃ qxs0 : List Value, .row qv0 3 (Rep.sz Int) r.length qxs0 :: M = M' ∧ qv0 = v ∧ RwF qv0 qxs0 r) := by
 unfold m_station_Buses at hm
 refine enter func51 rfl rfl rfl ht ?_
 refine C_seq (C_region ?_)
 refine W_box (cs := [v0, v1, v2, v3, v4, v5]) rfl rfl rfl rfl (fun b101 => ?_)
 refine W_assign rfl rfl rfl ?_
 refine W_end (E_then (C_seq (C_region ?_)))
 refine W_loadAgg rfl rfl isAgg29 sizeOf29 rfl (own_all (List.mem_cons_self ..)) rfl ?_
 obtain ⟨r102, hc103, hm⟩ := bind_some hm
 refine W_call call60 rfl rfl rfl (fun w ht => by have h := m_station_edges_c (hm := hc103) h0 h1 h2 h3 h4 h5 ht; exact h) ?_
 rintro _ _ _ ⟨rfl, v104, xs105, v107, xs108, rfl, rfl, h106, h109⟩
 have h106 := h106 H
 have h109 := h109 H
 refine W_move rfl rfl rfl ?_
 refine W_extract rfl rfl rfl rfl ?_
 refine W_extract rfl rfl rfl rfl ?_
 refine W_assign rfl rfl rfl ?_
 refine W_assign rfl rfl rfl ?_
 refine W_end (E_then (C_seq (C_region ?_)))
 refine W_field (o := 0) rfl rfl runUnderlying29 rfl sizeOf22 rfl rfl rfl ?_
 refine W_load rfl rfl isAgg22 rfl (own_at (List.mem_cons_of_mem _ (List.mem_cons_of_mem _ (List.mem_cons_self ..))) rfl) ?_
 refine W_lenR rfl rfl runUnderlying22 rfl h0 ?_
 refine W_move rfl rfl rfl ?_
 obtain ⟨r110, hc111, hm⟩ := bind_some hm
 refine W_call call52 rfl rfl rfl (fun w ht => by obtain ⟨H0_, hl0_, ht0_, hr0_, bk0_⟩ := ht.lendRow h106 rfl; have h := m_graph_Components_c (hm := hc111) hr0_ ht0_; exact lend_back bk0_ (h)) ?_
 rintro _ _ _ ⟨rfl, ⟨_, rfl, v112, xs113, rfl, rfl, h114⟩⟩
 have h114 := h114 H
 refine W_move rfl rfl rfl ?_
 refine W_extract rfl rfl rfl rfl ?_
 refine W_extract rfl rfl rfl rfl ?_
 refine W_assign rfl rfl rfl ?_
 refine W_assign rfl rfl rfl ?_
 refine W_end (E_then (C_seq (C_region ?_)))
 refine W_move rfl rfl rfl ?_
 refine W_assign rfl rfl rfl ?_
 refine W_end (E_then (C_ret ?_))
 obtain rfl := Option.some.inj hm
 refine E_drop (List.Sublist.cons _ (List.Sublist.cons_cons _ (List.Sublist.cons _ (List.Sublist.cons _ (List.Sublist.refl _))))) ?_
 refine E_weak (Hp.le_refl _) ?_
 exact end1 rfl rfl ⟨rfl, v112, xs113, rfl, rfl, (h114).toF⟩

theorem m_topology_Get_c {B : Nat} {w0 w : World} {H : Hp} {M : List Res} {p0_n : S_api_Network} {v0 : Value} {v1 : Value} {v2 : Value} {v3 : Value} {v4 : Value} {v5 : Value} {r : S_api_Topology} (hm : m_topology_Get p0_n = some r) (h0 : RdS H v0 p0_n.Nodes) (h1 : RdS H v1 p0_n.Switches) (h2 : RdS H v2 p0_n.Branches) (h3 : RdS H v3 p0_n.Gens) (h4 : RdS H v4 p0_n.Loads) (h5 : RdS H v5 p0_n.Stores) (ht : St B w0 H (M) w) :
  Calls prog 30 [.agg [v0, v1, v2, v3, v4, v5].toArray].toArray w (Ret B w0 fun H' M' v => H = H' ∧ ∃ qv0 : Value, ∃ qxs0 : List Value, ∃ qv1 : Value, ∃ qxs1 : List Value, .row qv0 3 (Rep.sz Int) r.Bus.length qxs0 :: .row qv1 3 (Rep.sz Int) r.Island.length qxs1 :: M = M' ∧ .agg [qv0, qv1].toArray = v ∧ RwF qv0 qxs0 r.Bus ∧ RwF qv1 qxs1 r.Island) := by
 unfold m_topology_Get at hm
 refine enter func30 rfl rfl rfl ht ?_
 refine C_seq (C_region ?_)
 refine W_box (cs := [v0, v1, v2, v3, v4, v5]) rfl rfl rfl rfl (fun b101 => ?_)
 refine W_alloc (cs := [.slice none 0 0, .slice none 0 0]) rfl rfl zeroValue74 rfl (fun b102 => ?_)
 refine W_end (E_then (C_seq (C_region ?_)))
 refine W_loadAgg rfl rfl isAgg29 sizeOf29 rfl (own_all (List.mem_cons_of_mem _ (List.mem_cons_self ..))) rfl ?_
 obtain ⟨r103, hc104, hm⟩ := bind_some hm
 refine W_call call51 rfl rfl rfl (fun w ht => by have h := m_station_Buses_c (hm := hc104) h0 h1 h2 h3 h4 h5 ht; exact h) ?_
 rintro _ _ _ ⟨rfl, v105, xs106, rfl, rfl, h107⟩
 have h107 := h107 H
 refine W_build (css := [[v105]]) (zs := [.slice none 0 0, .slice none 0 0]) (out := [v105, .slice none 0 0]) (places := [(0, 1), (1, 1)]) rfl rfl rfl ⟨(Rw.cells h107), trivial⟩ zeroValue74 rfl runUnderlying74 (fun w => by kernel_rfl) rfl ?_
 refine W_alloc (cs := [.slice none 0 0, .slice none 0 0]) rfl rfl zeroValue74 rfl (fun b108 => ?_)
 refine W_store (cs := [v105, .slice none 0 0]) (out := [v105, .slice none 0 0]) rfl sizeOf74 rfl rfl rfl rfl rfl (all_cons (Rw.one h107) (all_cons rfl all_nil)) (over_all rfl) ?_
 refine W_end (E_then (C_seq (C_region ?_)))
 refine W_assign rfl rfl rfl ?_
 refine W_end (E_then (C_seq (C_seq (C_region ?_))))
 refine W_field (o := 0) rfl rfl runUnderlying74 rfl sizeOf42 rfl rfl rfl ?_
 refine W_load rfl rfl isAgg42 rfl (own_at (List.mem_cons_self ..) rfl) ?_
 refine W_lenO (List.mem_cons_of_mem _ (List.mem_cons_self ..)) rfl rfl runUnderlying42 rfl ?_
 refine W_move rfl rfl rfl ?_
 refine W_end (E_then (C_block ?_))
 refine C_rowMax (List.mem_cons_of_mem _ (List.mem_cons_self ..)) (fun hmx121 => ?_)
 refine C_keep (L' := [(1, .pointer (some ⟨b101, 0, none⟩)), (2, .pointer (some ⟨b102, 0, none⟩)), (3, .pointer (some ⟨b108, 0, none⟩)), (4, .int .i64 (0)), (14, v105), (15, .int .i64 ((r103.length : Int))), (16, .int .i64 (((0 : Nat) : Int)))]) ⟨rfl, rfl, rfl, rfl, rfl, rfl, rfl, trivial⟩ (List.Perm.refl _) ?_
 refine C_loop (fun n H' M' L' => ∃ (k109 : Nat) (zs123' : List Int), ∃ n114 : Int, (r103).drop k109 = zs123' ∧ zs123'.length = n ∧ forI (fun k y s117 n => m_topology_Get_b1 k y s117 n) (fun s117 => forI (fun k y s216 n => m_topology_Get_b2 p0_n r103 k y s216 n) (fun s216 => (m_graph_Components s117 s216).bind fun r260 => some (S_api_Topology.mk r103 r260.1)) 0 p0_n.Branches ([] : List S_A2_Int)) k109 zs123' n114 = some r ∧ H.le H' ∧ .obj b108 (.cells [v105, .slice none 0 0].toArray 74 (0, 0)) :: .row v105 3 (Rep.sz Int) r103.length xs106 :: .obj b102 (.cells ([.slice none 0 0, .slice none 0 0] : List Value).toArray 74 (0, 0)) :: .obj b101 (.cells [v0, v1, v2, v3, v4, v5].toArray 29 (0, 0)) :: M = M' ∧ [(1, .pointer (some ⟨b101, 0, none⟩)), (2, .pointer (some ⟨b102, 0, none⟩)), (3, .pointer (some ⟨b108, 0, none⟩)), (4, .int .i64 (n114)), (14, v105), (15, .int .i64 ((r103.length : Int))), (16, .int .i64 ((k109 : Int)))] = L') _ ⟨0, _, 0, rfl, rfl, hm, (Hp.le_refl _), rfl, rfl⟩ ?_
 rintro _ H115 _ _ ⟨k109, zs123', n114, hd125, rfl, hm, hle116, rfl, rfl⟩
 refine C_seq (C_region ?_)
 refine W_bin rfl rfl rfl rfl rfl ?_
 refine W_end (E_then (C_seq ?_))
 refine C_cond (b := decide ((k109 : Int) < (r103.length : Int))) rfl (fun hb127 => ?_) (fun hb127 => ?_)
 ·obtain ⟨y122, zs123, rfl, hy124, hd126⟩ := rng_t hd125 hb127
  have hm : m_topology_Get_b1 k109 y122 n114 (forI (fun k y s117 n => m_topology_Get_b1 k y s117 n) (fun s117 => forI (fun k y s216 n => m_topology_Get_b2 p0_n r103 k y s216 n) (fun s216 => (m_graph_Components s117 s216).bind fun r260 => some (S_api_Topology.mk r103 r260.1)) 0 p0_n.Branches ([] : List S_A2_Int)) (k109 + 1) zs123) = some r := hm
  generalize hn119 : forI (fun k y s117 n => m_topology_Get_b1 k y s117 n) (fun s117 => forI (fun k y s216 n => m_topology_Get_b2 p0_n r103 k y s216 n) (fun s216 => (m_graph_Components s117 s216).bind fun r260 => some (S_api_Topology.mk r103 r260.1)) 0 p0_n.Branches ([] : List S_A2_Int)) (k109 + 1) zs123 = nx118 at hm
  unfold m_topology_Get_b1 at hm
  refine C_skip (E_then (C_seq (C_block (C_seq (C_region ?_)))))
  refine W_indexO (List.mem_cons_of_mem _ (List.mem_cons_self ..)) rfl rfl runUnderlying42 sizeOf3 rfl rfl (Int.natCast_nonneg _) (List.getElem?_eq_some_iff.1 hy124).1 ?_
  obtain ⟨_, rfl, hg128⟩ := (h107).elem hy124
  refine W_load rfl rfl isAgg3 rfl (row_one0 (List.mem_cons_of_mem _ (List.mem_cons_self ..)) hg128 rfl) ?_
  refine W_assign rfl rfl rfl ?_
  refine W_end (E_then (C_region ?_))
  refine W_move rfl rfl rfl ?_
  refine W_move rfl rfl rfl ?_
  refine W_bin rfl rfl rfl rfl rfl ?_
  refine W_max rfl rfl rfl rfl ?_
  refine W_assign rfl rfl rfl ?_
  refine W_end (E_normal_block (E_then (C_region ?_)))
  refine W_bin rfl rfl rfl rfl rfl ?_
  refine W_move rfl rfl rfl ?_
  refine W_end ?_
  exact E_keepJ (E_back (Nat.lt_succ_self _) ⟨k109 + 1, zs123, max n114 (IntKind.i64.wrap (y122 + 1)), hd126, rfl, (by rw [hn119]; exact hm), hle116, rfl, rfl⟩) (List.Perm.refl _) ⟨rfl, rfl, rfl, rfl, rfl, rfl, (congrArg (fun z => some (Value.int .i64 z)) (i64_succ hy124 hmx121)), trivial⟩
 ·obtain rfl := rng_f hd125 hb127
  have hm : (forI (fun k y s216 n => m_topology_Get_b2 p0_n r103 k y s216 n) (fun s216 => (m_graph_Components n114 s216).bind fun r260 => some (S_api_Topology.mk r103 r260.1)) 0 p0_n.Branches ([] : List S_A2_Int)) = some r := hm
  refine C_exit (E_exit_then (E_exit_then (E_exit_hit (E_then (C_seq (C_region ?_))))))
  refine W_assign rfl rfl rfl ?_
  refine W_end (E_then (C_seq (C_seq (C_region ?_))))
  refine W_field (o := 2) rfl rfl runUnderlying29 rfl sizeOf24 rfl rfl rfl ?_
  refine W_load rfl rfl isAgg24 rfl (own_at (List.mem_cons_of_mem _ (List.mem_cons_of_mem _ (List.mem_cons_of_mem _ (List.mem_cons_self ..)))) rfl) ?_
  refine W_lenR rfl rfl runUnderlying24 rfl (h2.mono hle116) ?_
  refine W_move rfl rfl rfl ?_
  refine W_end (E_then (C_block ?_))
  refine C_nilRow 98 (Rep.sz S_A2_Int) ?_
  refine C_keep (L' := [(1, .pointer (some ⟨b101, 0, none⟩)), (2, .pointer (some ⟨b102, 0, none⟩)), (3, .pointer (some ⟨b108, 0, none⟩)), (4, .int .i64 (n114)), (7, (.slice none 0 0)), (26, v2), (27, .int .i64 ((p0_n.Branches.length : Int))), (28, .int .i64 (((0 : Nat) : Int)))]) ⟨rfl, rfl, rfl, rfl, rfl, rfl, rfl, rfl, trivial⟩ (List.Perm.refl _) ?_
  refine C_loop (fun n H' M' L' => ∃ (k129 : Nat) (zs221' : List S_api_Branch), ∃ l212 : List S_A2_Int, ∃ v210 : Value, ∃ xs211 : List Value, (p0_n.Branches).drop k129 = zs221' ∧ zs221'.length = n ∧ forI (fun k y s216 n => m_topology_Get_b2 p0_n r103 k y s216 n) (fun s216 => (m_graph_Components n114 s216).bind fun r260 => some (S_api_Topology.mk r103 r260.1)) k129 zs221' l212 = some r ∧ Rw H' v210 xs211 l212 ∧ H115.le H' ∧ .row v210 98 (Rep.sz S_A2_Int) l212.length xs211 :: .obj b108 (.cells [v105, .slice none 0 0].toArray 74 (0, 0)) :: .row v105 3 (Rep.sz Int) r103.length xs106 :: .obj b102 (.cells ([.slice none 0 0, .slice none 0 0] : List Value).toArray 74 (0, 0)) :: .obj b101 (.cells [v0, v1, v2, v3, v4, v5].toArray 29 (0, 0)) :: M = M' ∧ [(1, .pointer (some ⟨b101, 0, none⟩)), (2, .pointer (some ⟨b102, 0, none⟩)), (3, .pointer (some ⟨b108, 0, none⟩)), (4, .int .i64 (n114)), (7, v210), (26, v2), (27, .int .i64 ((p0_n.Branches.length : Int))), (28, .int .i64 ((k129 : Int)))] = L') _ ⟨0, _, ([] : List S_A2_Int), (.slice none 0 0), ([]), rfl, rfl, hm, Rw.nil, (Hp.le_refl _), rfl, rfl⟩ ?_
  rintro _ H214 _ _ ⟨k129, zs221', l212, v210, xs211, hd223, rfl, hm, hr213, hle215, rfl, rfl⟩
  refine C_seq (C_region ?_)
  refine W_bin rfl rfl rfl rfl rfl ?_
  refine W_end (E_then (C_seq ?_))
  refine C_cond (b := decide ((k129 : Int) < (p0_n.Branches.length : Int))) rfl (fun hb225 => ?_) (fun hb225 => ?_)
  ·obtain ⟨y220, zs221, rfl, hy222, hd224⟩ := rng_t hd223 hb225
   have hm : m_topology_Get_b2 p0_n r103 k129 y220 l212 (forI (fun k y s216 n => m_topology_Get_b2 p0_n r103 k y s216 n) (fun s216 => (m_graph_Components n114 s216).bind fun r260 => some (S_api_Topology.mk r103 r260.1)) (k129 + 1) zs221) = some r := hm
   generalize hn218 : forI (fun k y s216 n => m_topology_Get_b2 p0_n r103 k y s216 n) (fun s216 => (m_graph_Components n114 s216).bind fun r260 => some (S_api_Topology.mk r103 r260.1)) (k129 + 1) zs221 = nx217 at hm
   unfold m_topology_Get_b2 at hm
   refine C_skip (E_then (C_seq (C_block (C_seq (C_region ?_)))))
   obtain ⟨_, ⟨rfl⟩, hc226⟩ := (h2).elem hy222
   refine W_indexS rfl rfl runUnderlying24 sizeOf83 rfl ((h2.mono hle116).mono hle215) rfl (Int.natCast_nonneg _) hy222 ?_
   refine W_loadAgg rfl rfl isAgg83 sizeOf83 rfl ((hc226.mono hle116).mono hle215).at rfl ?_
   refine W_alloc (cs := [.string (⟨#[]⟩), .string (⟨#[]⟩), .string (⟨#[]⟩), .int .i64 (0), .int .i64 (0), .int .i64 (0), .int .i64 (0), .int .i64 (0), .int .i64 (0)]) rfl rfl zeroValue83 rfl (fun b227 => ?_)
   refine W_store (cs := [.string (y220.Name), .string (y220.From), .string (y220.To), .int .i64 (y220.X), .int .i64 (y220.Tap), .int .i64 (y220.Shift), .int .i64 (y220.Limit), .int .i64 (y220.Short), .int .i64 (y220.Hold)]) (out := [.string (y220.Name), .string (y220.From), .string (y220.To), .int .i64 (y220.X), .int .i64 (y220.Tap), .int .i64 (y220.Shift), .int .i64 (y220.Limit), .int .i64 (y220.Short), .int .i64 (y220.Hold)]) rfl sizeOf83 rfl rfl rfl rfl rfl (all_cons rfl (all_cons rfl (all_cons rfl (all_cons rfl (all_cons rfl (all_cons rfl (all_cons rfl (all_cons rfl (all_cons rfl all_nil))))))))) (over_all rfl) ?_
   refine W_end (E_then ?_)
   obtain ⟨r228, hc229, hm⟩ := bind_some hm
   obtain ⟨y230, h231, he232, hm⟩ := idx_some hm
   obtain ⟨_, rfl, hg233⟩ := (h107).elem he232
   obtain ⟨r234, hc235, hm⟩ := bind_some hm
   obtain ⟨y236, h237, he238, hm⟩ := idx_some hm
   obtain ⟨_, rfl, hg239⟩ := (h107).elem he238
   refine C_region_tok0 21 (phiT [(fun H rs v => [] = rs ∧ v210 = v), (fun H rs v => [] = rs ∧ .pointer (some ⟨b108, 0, none⟩) = v), (fun H rs v => [] = rs ∧ v105 = v), (fun H rs v => [] = rs ∧ .pointer (some ⟨b101, 0, none⟩) = v), (fun H rs v => [] = rs ∧ v0 = v), (fun H rs v => [] = rs ∧ .pointer (some ⟨b227, 1, none⟩) = v), (fun H rs v => [] = rs ∧ .string (y220.From) = v), (fun H rs v => [] = rs ∧ .int .i64 (r228) = v), (fun H rs v => [] = rs ∧ .pointer (some ((Value.base (v105)).add ((r228 : Int).toNat * Rep.sz Int))) = v), (fun H rs v => [] = rs ∧ .int .i64 (y230) = v), (fun H rs v => [] = rs ∧ .pointer (some ⟨b108, 0, none⟩) = v), (fun H rs v => [] = rs ∧ v105 = v), (fun H rs v => [] = rs ∧ .pointer (some ⟨b101, 0, none⟩) = v), (fun H rs v => [] = rs ∧ v0 = v), (fun H rs v => [] = rs ∧ .pointer (some ⟨b227, 2, none⟩) = v), (fun H rs v => [] = rs ∧ .string (y220.To) = v), (fun H rs v => [] = rs ∧ .int .i64 (r234) = v), (fun H rs v => [] = rs ∧ .pointer (some ((Value.base (v105)).add ((r234 : Int).toNat * Rep.sz Int))) = v), (fun H rs v => [] = rs ∧ .int .i64 (y236) = v), (fun H rs v => [] = rs ∧ .agg [.int .i64 (y230), .int .i64 (y236)].toArray = v), (fun H rs v => ∃ v248 : Value, [] = rs ∧ v248 = v ∧ RdS H v248 ([(S_A2_Int.mk y230 y236)]) ∧ Value.cap' v248 = ([(S_A2_Int.mk y230 y236)]).length)]) [[], [], [], [], [], [], [], [], [], [], [], [], [], [], [], [], [], [], [], [], []] [[], [], [], [], [], [], [], [], [], [], [], [], [], [], [], [], [], [], [], [], []] [] [0, 1, 2, 3, 4, 5, 6, 7, 8, 9, 10, 11, 12, 13, 14, 15, 16, 17, 18, 19, 20] Facts.mixed (by kernel_rfl) (by rfl) (by rfl) (by rfl) (by kernel_rfl) (phiT_mono ⟨eq_monoT _ _, eq_monoT _ _, eq_monoT _ _, eq_monoT _ _, eq_monoT _ _, eq_monoT _ _, eq_monoT _ _, eq_monoT _ _, eq_monoT _ _, eq_monoT _ _, eq_monoT _ _, eq_monoT _ _, eq_monoT _ _, eq_monoT _ _, eq_monoT _ _, eq_monoT _ _, eq_monoT _ _, eq_monoT _ _, eq_monoT _ _, eq_monoT _ _, (by rintro H1 H2 rs v hle ⟨v248, rfl, rfl, h252, hc253⟩; exact ⟨v248, rfl, rfl, (h252.mono hle), (hc253)⟩), trivial⟩) ⟨?_, ?_, ?_, ?_, ?_, ?_, ?_, ?_, ?_, ?_, ?_, ?_, ?_, ?_, ?_, ?_, ?_, ?_, ?_, ?_, ?_, trivial⟩ ?_
   ·intro HX hX X Rest hR
    intro hU hUp
    refine W_move rfl rfl rfl ?_
    exact W_end (OneT_end [] (Hp.le_refl _) ⟨rfl, rfl⟩)
   ·intro HX hX X Rest hR
    intro hU hUp
    refine W_field (o := 0) rfl rfl runUnderlying74 rfl sizeOf42 rfl rfl rfl ?_
    exact W_end (OneT_end [] (Hp.le_refl _) ⟨rfl, rfl⟩)
   ·intro HX hX X Rest hR
    rintro _ _ ⟨rfl, rfl⟩
    intro hU hUp
    refine W_load rfl rfl isAgg42 rfl (own_at (hR _ (List.mem_cons_of_mem _ (List.mem_cons_of_mem _ (List.mem_cons_self ..)))) rfl) ?_
    exact W_end (OneT_end [] (Hp.le_refl _) ⟨rfl, rfl⟩)
   ·intro HX hX X Rest hR
    intro hU hUp
    refine W_field (o := 0) rfl rfl runUnderlying29 rfl sizeOf22 rfl rfl rfl ?_
    exact W_end (OneT_end [] (Hp.le_refl _) ⟨rfl, rfl⟩)
   ·intro HX hX X Rest hR
    rintro _ _ ⟨rfl, rfl⟩
    intro hU hUp
    refine W_load rfl rfl isAgg22 rfl (own_at (hR _ (List.mem_cons_of_mem _ (List.mem_cons_of_mem _ (List.mem_cons_of_mem _ (List.mem_cons_of_mem _ (List.mem_cons_of_mem _ (List.mem_cons_self ..))))))) rfl) ?_
    exact W_end (OneT_end [] (Hp.le_refl _) ⟨rfl, rfl⟩)
   ·intro HX hX X Rest hR
    intro hU hUp
    refine W_field (o := 1) rfl rfl runUnderlying83 rfl sizeOf9 rfl rfl rfl ?_
    exact W_end (OneT_end [] (Hp.le_refl _) ⟨rfl, rfl⟩)
   ·intro HX hX X Rest hR
    rintro _ _ ⟨rfl, rfl⟩
    intro hU hUp
    refine W_load rfl rfl isAgg9 rfl (own_at (hR _ (List.mem_cons_self ..)) rfl) ?_
    exact W_end (OneT_end [] (Hp.le_refl _) ⟨rfl, rfl⟩)
   ·intro HX hX X Rest hR
    rintro _ _ ⟨rfl, rfl⟩
    rintro _ _ ⟨rfl, rfl⟩
    intro hU hUp
    refine W_call call31 rfl rfl rfl (fun w ht => by have h := m_slices_Index_string_string_c (hm := hc229) (((h0.mono hle116).mono hle215).mono hX) ht; exact h) ?_
    rintro _ _ _ ⟨rfl, rfl, rfl⟩
    exact W_end (OneT_end [] (Hp.le_refl _) ⟨rfl, rfl⟩)
   ·intro HX hX X Rest hR
    rintro _ _ ⟨rfl, rfl⟩
    rintro _ _ ⟨rfl, rfl⟩
    intro hU hUp
    refine W_indexO (hR _ (List.mem_cons_of_mem _ (List.mem_cons_of_mem _ (List.mem_cons_of_mem _ (List.mem_cons_self ..))))) rfl rfl runUnderlying42 sizeOf3 rfl rfl h231 (List.getElem?_eq_some_iff.1 he232).1 ?_
    exact W_end (OneT_end [] (Hp.le_refl _) ⟨rfl, rfl⟩)
   ·intro HX hX X Rest hR
    rintro _ _ ⟨rfl, rfl⟩
    intro hU hUp
    refine W_load rfl rfl isAgg3 rfl (row_one0 (hR _ (List.mem_cons_of_mem _ (List.mem_cons_of_mem _ (List.mem_cons_of_mem _ (List.mem_cons_self ..))))) hg233 rfl) ?_
    exact W_end (OneT_end [] (Hp.le_refl _) ⟨rfl, rfl⟩)
   ·intro HX hX X Rest hR
    intro hU hUp
    refine W_field (o := 0) rfl rfl runUnderlying74 rfl sizeOf42 rfl rfl rfl ?_
    exact W_end (OneT_end [] (Hp.le_refl _) ⟨rfl, rfl⟩)
   ·intro HX hX X Rest hR
    rintro _ _ ⟨rfl, rfl⟩
    intro hU hUp
    refine W_load rfl rfl isAgg42 rfl (own_at (hR _ (List.mem_cons_of_mem _ (List.mem_cons_of_mem _ (List.mem_cons_self ..)))) rfl) ?_
    exact W_end (OneT_end [] (Hp.le_refl _) ⟨rfl, rfl⟩)
   ·intro HX hX X Rest hR
    intro hU hUp
    refine W_field (o := 0) rfl rfl runUnderlying29 rfl sizeOf22 rfl rfl rfl ?_
    exact W_end (OneT_end [] (Hp.le_refl _) ⟨rfl, rfl⟩)
   ·intro HX hX X Rest hR
    rintro _ _ ⟨rfl, rfl⟩
    intro hU hUp
    refine W_load rfl rfl isAgg22 rfl (own_at (hR _ (List.mem_cons_of_mem _ (List.mem_cons_of_mem _ (List.mem_cons_of_mem _ (List.mem_cons_of_mem _ (List.mem_cons_of_mem _ (List.mem_cons_self ..))))))) rfl) ?_
    exact W_end (OneT_end [] (Hp.le_refl _) ⟨rfl, rfl⟩)
   ·intro HX hX X Rest hR
    intro hU hUp
    refine W_field (o := 2) rfl rfl runUnderlying83 rfl sizeOf9 rfl rfl rfl ?_
    exact W_end (OneT_end [] (Hp.le_refl _) ⟨rfl, rfl⟩)
   ·intro HX hX X Rest hR
    rintro _ _ ⟨rfl, rfl⟩
    intro hU hUp
    refine W_load rfl rfl isAgg9 rfl (own_at (hR _ (List.mem_cons_self ..)) rfl) ?_
    exact W_end (OneT_end [] (Hp.le_refl _) ⟨rfl, rfl⟩)
   ·intro HX hX X Rest hR
    rintro _ _ ⟨rfl, rfl⟩
    rintro _ _ ⟨rfl, rfl⟩
    rintro _ _ ⟨rfl, rfl⟩
    intro hU hUp
    refine W_call call31 rfl rfl rfl (fun w ht => by have h := m_slices_Index_string_string_c (hm := hc235) (((h0.mono hle116).mono hle215).mono hX) ht; exact h) ?_
    rintro _ _ _ ⟨rfl, rfl, rfl⟩
    exact W_end (OneT_end [] (Hp.le_refl _) ⟨rfl, rfl⟩)
   ·intro HX hX X Rest hR
    rintro _ _ ⟨rfl, rfl⟩
    rintro _ _ ⟨rfl, rfl⟩
    intro hU hUp
    refine W_indexO (hR _ (List.mem_cons_of_mem _ (List.mem_cons_of_mem _ (List.mem_cons_of_mem _ (List.mem_cons_self ..))))) rfl rfl runUnderlying42 sizeOf3 rfl rfl h237 (List.getElem?_eq_some_iff.1 he238).1 ?_
    exact W_end (OneT_end [] (Hp.le_refl _) ⟨rfl, rfl⟩)
   ·intro HX hX X Rest hR
    rintro _ _ ⟨rfl, rfl⟩
    intro hU hUp
    refine W_load rfl rfl isAgg3 rfl (row_one0 (hR _ (List.mem_cons_of_mem _ (List.mem_cons_of_mem _ (List.mem_cons_of_mem _ (List.mem_cons_self ..))))) hg239 rfl) ?_
    exact W_end (OneT_end [] (Hp.le_refl _) ⟨rfl, rfl⟩)
   ·intro HX hX X Rest hR
    rintro _ _ ⟨rfl, rfl⟩
    rintro _ _ ⟨rfl, rfl⟩
    intro hU hUp
    refine W_buildArr (css := [[.int .i64 (y230)], [.int .i64 (y236)]]) (zs := [.int .i64 (0), .int .i64 (0)]) (out := [.int .i64 (y230), .int .i64 (y236)]) (places := [(0, 1), (1, 1)]) rfl rfl rfl ⟨rfl, rfl, trivial⟩ zeroValue98 rfl runUnderlying98 sizeOf3 rfl rfl ?_
    exact W_end (OneT_end [] (Hp.le_refl _) ⟨rfl, rfl⟩)
   ·intro HX hX X Rest hR
    rintro _ _ ⟨rfl, rfl⟩
    intro hU hUp
    refine W_buildSlice (α := S_A2_Int) (css := [[.int .i64 (y230), .int .i64 (y236)]]) (zs := [.int .i64 (0), .int .i64 (0)]) (out := [.int .i64 (y230), .int .i64 (y236)]) (ys := [(S_A2_Int.mk y230 y236)]) rfl rfl rfl ⟨rfl, trivial⟩ runUnderlying97 sizeOf98 rfl zeroValue98 (by kernel_rfl) rfl rfl rfl rfl ⟨[.int .i64 (y230), .int .i64 (y236)], [], rfl, rfl, rfl⟩ rfl ?_
    intro b247 v248 H249 hv250 hle251 h252
    have hc253 : Value.cap' v248 = ([(S_A2_Int.mk y230 y236)]).length := by rw [hv250]; rfl
    exact W_end (OneT_end [] hle251 ⟨v248, rfl, rfl, (h252), (hc253)⟩)
   intro H254 hle255
   rintro _ _ ⟨rfl, rfl⟩
   rintro _ _ ⟨rfl, rfl⟩
   rintro _ _ ⟨rfl, rfl⟩
   rintro _ _ ⟨rfl, rfl⟩
   rintro _ _ ⟨rfl, rfl⟩
   rintro _ _ ⟨rfl, rfl⟩
   rintro _ _ ⟨rfl, rfl⟩
   rintro _ _ ⟨rfl, rfl⟩
   rintro _ _ ⟨rfl, rfl⟩
   rintro _ _ ⟨rfl, rfl⟩
   rintro _ _ ⟨rfl, rfl⟩
   rintro _ _ ⟨rfl, rfl⟩
   rintro _ _ ⟨rfl, rfl⟩
   rintro _ _ ⟨rfl, rfl⟩
   rintro _ _ ⟨rfl, rfl⟩
   rintro _ _ ⟨rfl, rfl⟩
   rintro _ _ ⟨rfl, rfl⟩
   rintro _ _ ⟨rfl, rfl⟩
   rintro _ _ ⟨rfl, rfl⟩
   rintro _ _ ⟨rfl, rfl⟩
   rintro _ _ ⟨v248, rfl, rfl, h252, hc253⟩
   obtain ⟨hz256, hm⟩ := need_some hm
   refine W_perm (List.Perm.swap _ _ _) ?_
   refine W_appendO (α := S_A2_Int) (l := l212) (ys := [(S_A2_Int.mk y230 y236)]) rfl rfl underlying97 ⟨_, rfl, rfl, rfl, rfl⟩ rfl rfl rfl rfl rfl (hr213.mono hle255) h252 hz256 ?_
   intro v257 xs258 hr259
   refine W_assign rfl rfl rfl ?_
   refine W_end (E_normal_block (E_then (C_region ?_)))
   refine W_bin rfl rfl rfl rfl rfl ?_
   refine W_move rfl rfl rfl ?_
   refine W_end ?_
   refine E_drop (List.Sublist.cons_cons _ (List.Sublist.cons _ (List.Sublist.refl _))) ?_
   exact E_keepJ (E_back (Nat.lt_succ_self _) ⟨k129 + 1, zs221, (l212 ++ ([(S_A2_Int.mk y230 y236)])), v257, xs258, hd224, rfl, (by rw [hn218]; exact hm), hr259, (Hp.le_trans hle215 hle255), rfl, rfl⟩) (List.Perm.refl _) ⟨rfl, rfl, rfl, rfl, rfl, rfl, rfl, (congrArg (fun z => some (Value.int .i64 z)) (i64_succ hy222 (((h2.mono hle116).mono hle215)).lenMax)), trivial⟩
  ·obtain rfl := rng_f hd223 hb225
   have hm : ((m_graph_Components n114 l212).bind fun r260 => some (S_api_Topology.mk r103 r260.1)) = some r := hm
   refine C_exit (E_exit_then (E_exit_then (E_exit_hit (E_then (C_seq (C_region ?_))))))
   refine W_move rfl rfl rfl ?_
   refine W_move rfl rfl rfl ?_
   obtain ⟨r260, hc261, hm⟩ := bind_some hm
   refine W_call call52 rfl rfl rfl (fun w ht => by obtain ⟨H0_, hl0_, ht0_, hr0_, bk0_⟩ := ht.lendRow hr213 rfl; have h := m_graph_Components_c (hm := hc261) hr0_ ht0_; exact lend_back bk0_ (h)) ?_
   rintro _ _ _ ⟨rfl, ⟨_, rfl, v262, xs263, rfl, rfl, h264⟩⟩
   have h264 := h264 H214
   refine W_move rfl rfl rfl ?_
   refine W_extract rfl rfl rfl rfl ?_
   refine W_extract rfl rfl rfl rfl ?_
   refine W_field (o := 1) rfl rfl runUnderlying74 rfl sizeOf42 rfl rfl rfl ?_
   refine W_perm (List.Perm.trans (List.Perm.cons _ (List.Perm.swap _ _ _)) (List.Perm.swap _ _ _)) ?_
   refine W_store (cs := [v262]) (out := [v105, v262]) rfl sizeOf42 rfl rfl (Rw.cells h264) rfl rfl (all_cons (Rw.one h264) all_nil) rfl ?_
   refine W_end (E_then (C_seq (C_region ?_)))
   refine W_loadAgg rfl rfl isAgg74 sizeOf74 rfl (own_all (List.mem_cons_self ..)) rfl ?_
   refine W_perm (List.Perm.trans (List.Perm.cons _ (List.Perm.cons _ (List.Perm.cons _ (List.Perm.swap _ _ _)))) (List.Perm.trans (List.Perm.cons _ (List.Perm.cons _ (List.Perm.swap _ _ _))) (List.Perm.trans (List.Perm.cons _ (List.Perm.swap _ _ _)) (List.Perm.swap _ _ _)))) ?_
   refine W_store (cs := [v105, v262]) (out := [v105, v262]) rfl sizeOf74 rfl rfl rfl rfl rfl (all_cons (Rw.one ((h107.mono hle116).mono hle215)) (all_cons (Rw.one h264) all_nil)) (over_all rfl) ?_
   refine W_end (E_then (C_ret ?_))
   obtain rfl := Option.some.inj hm
   exact endC1 (Hp.le_trans hle116 hle215) rfl (ResV.agg rfl isAgg74 sizeOf74 (List.mem_cons_self ..) rfl) (List.Sublist.cons _ (List.Sublist.cons _ (List.Sublist.cons _ (List.Sublist.cons_cons _ (List.Sublist.cons_cons _ (List.Sublist.cons _ (List.Sublist.refl _))))))) (List.Perm.swap _ _ _) ⟨rfl, v105, xs106, v262, xs263, rfl, rfl, (((h107.mono hle116).mono hle215)).toF, (h264).toF⟩

theorem m_islands_Places_c {B : Nat} {w0 w : World} {H : Hp} {M : List Res} {p0_n : S_api_Network} {v0 : Value} {v1 : Value} {v2 : Value} {v3 : Value} {v4 : Value} {v5 : Value} {r : (List Int) × Int} (hm : m_islands_Places p0_n = some r) (h0 : RdS H v0 p0_n.Nodes) (h1 : RdS H v1 p0_n.Switches) (h2 : RdS H v2 p0_n.Branches) (h3 : RdS H v3 p0_n.Gens) (h4 : RdS H v4 p0_n.Loads) (h5 : RdS H v5 p0_n.Stores) (ht : St B w0 H (M) w) :
  Calls prog 11 [.agg [v0, v1, v2, v3, v4, v5].toArray].toArray w (Ret B w0 fun H' M' v => H = H' ∧ ∃ qv0 : Value, ∃ qxs0 : List Value, .row qv0 3 (Rep.sz Int) r.1.length qxs0 :: M = M' ∧ .tuple #[qv0, .int .i64 (r.2)] = v ∧ RwF qv0 qxs0 r.1) := by
 unfold m_islands_Places at hm
 refine enter func11 rfl rfl rfl ht ?_
 refine C_seq (C_region ?_)
 refine W_box (cs := [v0, v1, v2, v3, v4, v5]) rfl rfl rfl rfl (fun b101 => ?_)
 refine W_assign rfl rfl rfl ?_
 refine W_assign rfl rfl rfl ?_
 refine W_end (E_then (C_seq (C_seq (C_region ?_))))
 refine W_loadAgg rfl rfl isAgg29 sizeOf29 rfl (own_all (List.mem_cons_self ..)) rfl ?_
 obtain ⟨r102, hc103, hm⟩ := bind_some hm
 refine W_call call16 rfl rfl rfl (fun w ht => by have h := m_netmodel_Check_c (hm := hc103) h0 h1 h2 h3 h4 h5 ht; exact h) ?_
 rintro _ _ _ ⟨rfl, rfl, rfl⟩
 refine W_assign rfl rfl rfl ?_
 refine W_end (E_then (C_seq (C_region ?_)))
 refine W_move rfl rfl rfl ?_
 refine W_bin rfl rfl rfl rfl rfl ?_
 refine W_end (E_then ?_)
 refine C_cond (b := !decide (r102 = 0)) rfl (fun hb104 => ?_) (fun hb104 => ?_)
 ·have hm := ite_t' hb104 hm
  refine C_seq (C_region ?_)
  refine W_move rfl rfl rfl ?_
  refine W_assign rfl rfl rfl ?_
  refine W_assign rfl rfl rfl ?_
  refine W_end (E_then (C_ret (E_ret_then ?_)))
  refine E_nilRow 3 (Rep.sz Int) ?_
  obtain rfl := Option.some.inj hm
  refine E_drop (List.Sublist.cons_cons _ (List.Sublist.cons _ (List.Sublist.refl _))) ?_
  refine E_weak (Hp.le_refl _) ?_
  exact end2 rfl rfl rfl ⟨rfl, (.slice none 0 0), [], rfl, rfl, (Rw.nil (H := H)).toF⟩
 ·have hm := ite_f' hb104 hm
  refine C_skip (E_then (C_seq (C_region ?_)))
  refine W_loadAgg rfl rfl isAgg29 sizeOf29 rfl (own_all (List.mem_cons_self ..)) rfl ?_
  obtain ⟨r105, hc106, hm⟩ := bind_some hm
  refine W_call call30 rfl rfl rfl (fun w ht => by have h := m_topology_Get_c (hm := hc106) h0 h1 h2 h3 h4 h5 ht; exact h) ?_
  rintro _ _ _ ⟨rfl, v107, xs108, v110, xs111, rfl, rfl, h109, h112⟩
  have h109 := h109 H
  have h112 := h112 H
  refine W_alloc (cs := [.slice none 0 0, .slice none 0 0]) rfl rfl zeroValue74 rfl (fun b113 => ?_)
  refine W_store (cs := [v107, v110]) (out := [v107, v110]) rfl sizeOf74 rfl rfl rfl rfl rfl (all_cons (Rw.one h109) (all_cons (Rw.one h112) all_nil)) (over_all rfl) ?_
  refine W_end (E_then (C_seq (C_region ?_)))
  refine W_assign rfl rfl rfl ?_
  refine W_end (E_then (C_seq (C_seq (C_region ?_))))
  refine W_field (o := 0) rfl rfl runUnderlying74 rfl sizeOf42 rfl rfl rfl ?_
  refine W_load rfl rfl isAgg42 rfl (own_at (List.mem_cons_self ..) rfl) ?_
  refine W_lenO (List.mem_cons_of_mem _ (List.mem_cons_self ..)) rfl rfl runUnderlying42 rfl ?_
  refine W_move rfl rfl rfl ?_
  refine W_end (E_then (C_block ?_))
  refine C_rowMax (List.mem_cons_of_mem _ (List.mem_cons_self ..)) (fun hmx169 => ?_)
  refine C_nilRow 3 (Rep.sz Int) ?_
  refine C_drop (List.Sublist.cons_cons _ (List.Sublist.cons_cons _ (List.Sublist.cons_cons _ (List.Sublist.cons_cons _ (List.Sublist.cons _ (List.Sublist.refl _)))))) ?_
  refine C_keep (L' := [(5, .pointer (some ⟨b113, 0, none⟩)), (6, (.slice none 0 0)), (17, v107), (18, .int .i64 ((r105.Bus.length : Int))), (19, .int .i64 (((0 : Nat) : Int)))]) ⟨rfl, rfl, rfl, rfl, rfl, trivial⟩ (List.Perm.refl _) ?_
  refine C_loop (fun n H' M' L' => ∃ (k114 : Nat) (zs171' : List Int), ∃ l161 : List Int, ∃ v159 : Value, ∃ xs160 : List Value, (r105.Bus).drop k114 = zs171' ∧ zs171'.length = n ∧ forI (fun k y s165 n => m_islands_Places_b1 r105 k y s165 n) (fun s165 => some (s165, 0)) k114 zs171' l161 = some r ∧ Rw H' v159 xs160 l161 ∧ H.le H' ∧ .row v159 3 (Rep.sz Int) l161.length xs160 :: .obj b113 (.cells [v107, v110].toArray 74 (0, 0)) :: .row v107 3 (Rep.sz Int) r105.Bus.length xs108 :: .row v110 3 (Rep.sz Int) r105.Island.length xs111 :: M = M' ∧ [(5, .pointer (some ⟨b113, 0, none⟩)), (6, v159), (17, v107), (18, .int .i64 ((r105.Bus.length : Int))), (19, .int .i64 ((k114 : Int)))] = L') _ ⟨0, _, ([] : List Int), (.slice none 0 0), ([]), rfl, rfl, hm, Rw.nil, (Hp.le_refl _), rfl, rfl⟩ ?_
  rintro _ H163 _ _ ⟨k114, zs171', l161, v159, xs160, hd173, rfl, hm, hr162, hle164, rfl, rfl⟩
  refine C_seq (C_region ?_)
  refine W_bin rfl rfl rfl rfl rfl ?_
  refine W_end (E_then (C_seq ?_))
  refine C_cond (b := decide ((k114 : Int) < (r105.Bus.length : Int))) rfl (fun hb175 => ?_) (fun hb175 => ?_)
  ·obtain ⟨y170, zs171, rfl, hy172, hd174⟩ := rng_t hd173 hb175
   have hm : m_islands_Places_b1 r105 k114 y170 l161 (forI (fun k y s165 n => m_islands_Places_b1 r105 k y s165 n) (fun s165 => some (s165, 0)) (k114 + 1) zs171) = some r := hm
   generalize hn167 : forI (fun k y s165 n => m_islands_Places_b1 r105 k y s165 n) (fun s165 => some (s165, 0)) (k114 + 1) zs171 = nx166 at hm
   unfold m_islands_Places_b1 at hm
   refine C_skip (E_then (C_seq (C_block (C_seq (C_region ?_)))))
   refine W_indexO (List.mem_cons_of_mem _ (List.mem_cons_of_mem _ (List.mem_cons_self ..))) rfl rfl runUnderlying42 sizeOf3 rfl rfl (Int.natCast_nonneg _) (List.getElem?_eq_some_iff.1 hy172).1 ?_
   obtain ⟨_, rfl, hg176⟩ := (h109).elem hy172
   refine W_load rfl rfl isAgg3 rfl (row_one0 (List.mem_cons_of_mem _ (List.mem_cons_of_mem _ (List.mem_cons_self ..))) hg176 rfl) ?_
   refine W_assign rfl rfl rfl ?_
   refine W_end (E_then (C_region ?_))
   refine W_move rfl rfl rfl ?_
   refine W_field (o := 1) rfl rfl runUnderlying74 rfl sizeOf42 rfl rfl rfl ?_
   refine W_load rfl rfl isAgg42 rfl (own_at (List.mem_cons_of_mem _ (List.mem_cons_self ..)) rfl) ?_
   refine W_move rfl rfl rfl ?_
   obtain ⟨y177, h178, he179, hm⟩ := idx_some hm
   refine W_indexO (List.mem_cons_of_mem _ (List.mem_cons_of_mem _ (List.mem_cons_of_mem _ (List.mem_cons_self ..)))) rfl rfl runUnderlying42 sizeOf3 rfl rfl h178 (List.getElem?_eq_some_iff.1 he179).1 ?_
   obtain ⟨_, rfl, hg180⟩ := (h112).elem he179
   refine W_load rfl rfl isAgg3 rfl (row_one0 (List.mem_cons_of_mem _ (List.mem_cons_of_mem _ (List.mem_cons_of_mem _ (List.mem_cons_self ..)))) hg180 rfl) ?_
   refine W_buildSlice (α := Int) (css := [[.int .i64 (y177)]]) (zs := [.int .i64 (0)]) (out := [.int .i64 (y177)]) (ys := ([y177] : List Int)) rfl rfl rfl ⟨rfl, trivial⟩ runUnderlying42 sizeOf3 rfl zeroValue3 (by kernel_rfl) rfl rfl rfl rfl ⟨[.int .i64 (y177)], [], rfl, rfl, rfl⟩ rfl ?_
   intro b181 v182 H183 hv184 hle185 h186
   have hc187 : Value.cap' v182 = ([y177] : List Int).length := by rw [hv184]; rfl
   obtain ⟨hz188, hm⟩ := need_some hm
   refine W_appendO (α := Int) (l := l161) (ys := ([y177] : List Int)) rfl rfl underlying42 ⟨_, rfl, rfl, rfl, rfl⟩ rfl rfl rfl rfl rfl (hr162.mono hle185) h186 hz188 ?_
   intro v189 xs190 hr191
   refine W_assign rfl rfl rfl ?_
   refine W_end (E_normal_block (E_then (C_region ?_)))
   refine W_bin rfl rfl rfl rfl rfl ?_
   refine W_move rfl rfl rfl ?_
   refine W_end ?_
   exact E_keepJ (E_back (Nat.lt_succ_self _) ⟨k114 + 1, zs171, (l161 ++ ([y177] : List Int)), v189, xs190, hd174, rfl, (by rw [hn167]; exact hm), hr191, (Hp.le_trans hle164 hle185), rfl, rfl⟩) (List.Perm.refl _) ⟨rfl, rfl, rfl, rfl, (congrArg (fun z => some (Value.int .i64 z)) (i64_succ hy172 hmx169)), trivial⟩
  ·obtain rfl := rng_f hd173 hb175
   have hm : (some (l161, 0)) = some r := hm
   refine C_exit (E_exit_then (E_exit_then (E_exit_hit (E_then (C_seq (C_region ?_))))))
   refine W_move rfl rfl rfl ?_
   refine W_assign rfl rfl rfl ?_
   refine W_assign rfl rfl rfl ?_
   refine W_end (E_then (C_ret ?_))
   obtain rfl := Option.some.inj hm
   refine E_drop (List.Sublist.cons_cons _ (List.Sublist.cons _ (List.Sublist.cons _ (List.Sublist.cons _ (List.Sublist.refl _))))) ?_
   refine E_weak hle164 ?_
   exact end2 rfl rfl rfl ⟨rfl, v159, xs160, rfl, rfl, (hr162).toF⟩

theorem m_blackstart_path_1_c {B : Nat} {w0 w : World} {H : Hp} {M : List Res} {p0_s : ByteArray} {p1_c1 : (List Int)} {p2_c2 : S_api_Network} {b0 : Nat} {v0 : Value} {b1 : Nat} {v1 : Value} {v2 : Value} {v3 : Value} {v4 : Value} {v5 : Value} {v6 : Value} {r : Int} (hm : m_blackstart_path_1 p0_s p1_c1 p2_c2 = some r) (h0 : RdS H v0 p1_c1) (h1 : RdS H v1 p2_c2.Nodes) (h2 : RdS H v2 p2_c2.Switches) (h3 : RdS H v3 p2_c2.Branches) (h4 : RdS H v4 p2_c2.Gens) (h5 : RdS H v5 p2_c2.Loads) (h6 : RdS H v6 p2_c2.Stores) (ht : St B w0 H (.obj b0 (.cells [v0].toArray 42 (0, 0)) :: .obj b1 (.cells [v1, v2, v3, v4, v5, v6].toArray 29 (0, 0)) :: M) w) :
  Calls prog 42 [.string (p0_s), .pointer (some ⟨b0, 0, none⟩), .pointer (some ⟨b1, 0, none⟩)].toArray w (Ret B w0 fun H' M' v => H = H' ∧ .obj b0 (.cells [v0].toArray 42 (0, 0)) :: .obj b1 (.cells [v1, v2, v3, v4, v5, v6].toArray 29 (0, 0)) :: M = M' ∧ .int .i64 (r) = v) := by
 unfold m_blackstart_path_1 at hm
 refine enter func42 rfl rfl rfl ht ?_
 refine C_seq (C_region ?_)
 refine W_assign rfl rfl rfl ?_
 refine W_end (E_then (C_seq ?_))
 obtain ⟨r101, hc102, hm⟩ := bind_some hm
 refine C_region_tok0 5 (phiT [(fun H rs v => [] = rs ∧ v0 = v), (fun H rs v => [] = rs ∧ .pointer (some ⟨b1, 0, none⟩) = v), (fun H rs v => [] = rs ∧ v1 = v), (fun H rs v => [] = rs ∧ .string (p0_s) = v), (fun H rs v => [] = rs ∧ .int .i64 (r101) = v)]) [[], [], [], [], []] [[], [], [], [], []] [] [0, 1, 2, 3, 4] Facts.mixed (by kernel_rfl) (by rfl) (by rfl) (by rfl) (by kernel_rfl) (phiT_mono ⟨eq_monoT _ _, eq_monoT _ _, eq_monoT _ _, eq_monoT _ _, eq_monoT _ _, trivial⟩) ⟨?_, ?_, ?_, ?_, ?_, trivial⟩ ?_
 ·intro HX hX X Rest hR
  intro hU hUp
  refine W_load rfl rfl isAgg42 rfl (own_at (hR _ (List.mem_cons_self ..)) rfl) ?_
  exact W_end (OneT_end [] (Hp.le_refl _) ⟨rfl, rfl⟩)
 ·intro HX hX X Rest hR
  intro hU hUp
  refine W_field (o := 0) rfl rfl runUnderlying29 rfl sizeOf22 rfl rfl rfl ?_
  exact W_end (OneT_end [] (Hp.le_refl _) ⟨rfl, rfl⟩)
 ·intro HX hX X Rest hR
  rintro _ _ ⟨rfl, rfl⟩
  intro hU hUp
  refine W_load rfl rfl isAgg22 rfl (own_at (hR _ (List.mem_cons_of_mem _ (List.mem_cons_self ..))) rfl) ?_
  exact W_end (OneT_end [] (Hp.le_refl _) ⟨rfl, rfl⟩)
 ·intro HX hX X Rest hR
  intro hU hUp
  refine W_move rfl rfl rfl ?_
  exact W_end (OneT_end [] (Hp.le_refl _) ⟨rfl, rfl⟩)
 ·intro HX hX X Rest hR
  rintro _ _ ⟨rfl, rfl⟩
  rintro _ _ ⟨rfl, rfl⟩
  intro hU hUp
  refine W_call call31 rfl rfl rfl (fun w ht => by have h := m_slices_Index_string_string_c (hm := hc102) (h1.mono hX) ht; exact h) ?_
  rintro _ _ _ ⟨rfl, rfl, rfl⟩
  exact W_end (OneT_end [] (Hp.le_refl _) ⟨rfl, rfl⟩)
 intro H103 hle104
 rintro _ _ ⟨rfl, rfl⟩
 rintro _ _ ⟨rfl, rfl⟩
 rintro _ _ ⟨rfl, rfl⟩
 rintro _ _ ⟨rfl, rfl⟩
 rintro _ _ ⟨rfl, rfl⟩
 obtain ⟨y105, h106, he107, hm⟩ := idx_some hm
 obtain ⟨_, rfl, hc108⟩ := (h0).elem he107
 refine W_indexS rfl rfl runUnderlying42 sizeOf3 rfl (h0.mono hle104) rfl h106 he107 ?_
 refine W_load rfl rfl isAgg3 rfl (HCells.one (hc108.mono hle104) 0 rfl).at ?_
 refine W_assign rfl rfl rfl ?_
 refine W_end (E_then (C_ret ?_))
 obtain rfl := Option.some.inj hm
 refine E_weak hle104 ?_
 exact end1 rfl rfl ⟨rfl, rfl, rfl⟩

theorem m_graph_all_c {B : Nat} {w0 w : World} {H : Hp} {M : List Res} {p0_l : (List S_A2_Int)} {v0 : Value} {r : (List Int)} (hm : m_graph_all p0_l = some r) (h0 : RdS H v0 p0_l) (ht : St B w0 H (M) w) :
  Calls prog 59 [v0].toArray w (Ret B w0 fun H' M' v => H = H' ∧ ∃ qv0 : Value, ∃ qxs0 : List Value, .row qv0 3 (Rep.sz Int) r.length qxs0 :: M = M' ∧ qv0 = v ∧ RwF qv0 qxs0 r) := by
 unfold m_graph_all at hm
 refine enter func59 rfl rfl rfl ht ?_
 refine C_seq (C_region ?_)
 refine W_assign rfl rfl rfl ?_
 refine W_end (E_then (C_seq (C_region ?_)))
 refine W_move rfl rfl rfl ?_
 refine W_lenR rfl rfl runUnderlying97 rfl h0 ?_
 obtain ⟨hz101, hm⟩ := need_some hm
 refine W_makeSlice (α := Int) (zs := [.int .i64 (0)]) (ze := 0) rfl rfl underlying42 ⟨_, rfl, rfl, rfl, rfl⟩ rfl rfl rfl rfl rfl rfl hz101.1 hz101.2 ?_
 intro v102 xs103 hr104
 refine W_assign rfl rfl rfl ?_
 refine W_end (E_then (C_seq (C_seq (C_region ?_))))
 refine W_move rfl rfl rfl ?_
 refine W_lenO (List.mem_cons_self ..) rfl rfl runUnderlying42 rfl ?_
 refine W_move rfl rfl rfl ?_
 refine W_end (E_then (C_block ?_))
 refine C_rowMax (List.mem_cons_self ..) (fun hmx140 => ?_)
 refine C_keep (L' := [(3, v102), (9, .int .i64 (((List.replicate ((p0_l.length : Int) : Int).toNat (0 : Int)).length : Int))), (10, .int .i64 (((0 : Nat) : Int)))]) ⟨rfl, rfl, rfl, trivial⟩ (List.Perm.refl _) ?_
 refine C_loop (fun n H' M' L' => ∃ (k105 : Nat) (zs142' : Nat), ∃ l132 : List Int, ∃ xs131 : List Value, k105 + zs142' = (((List.replicate ((p0_l.length : Int) : Int).toNat (0 : Int)).length : Int) : Int).toNat ∧ zs142' = n ∧ forN (fun k s136 n => m_graph_all_b1 k s136 n) (fun s136 => some s136) zs142' k105 l132 = some r ∧ Rw H' v102 xs131 l132 ∧ H.le H' ∧ .row v102 3 (Rep.sz Int) l132.length xs131 :: M = M' ∧ [(3, v102), (9, .int .i64 (((List.replicate ((p0_l.length : Int) : Int).toNat (0 : Int)).length : Int))), (10, .int .i64 ((k105 : Int)))] = L') _ ⟨0, _, (List.replicate ((p0_l.length : Int) : Int).toNat (0 : Int)), xs103, Nat.zero_add _, rfl, hm, hr104, (Hp.le_refl _), rfl, rfl⟩ ?_
 rintro _ H134 _ _ ⟨k105, zs142', l132, xs131, hd144, rfl, hm, hr133, hle135, rfl, rfl⟩
 refine C_seq (C_region ?_)
 refine W_bin rfl rfl rfl rfl rfl ?_
 refine W_end (E_then (C_seq ?_))
 refine C_cond (b := decide ((k105 : Int) < ((List.replicate ((p0_l.length : Int) : Int).toNat (0 : Int)).length : Int))) rfl (fun hb146 => ?_) (fun hb146 => ?_)
 ·obtain ⟨zs142, rfl, hd145, hy143⟩ := rngN_t hd144 hb146
  have hm : m_graph_all_b1 k105 l132 (forN (fun k s136 n => m_graph_all_b1 k s136 n) (fun s136 => some s136) zs142 (k105 + 1)) = some r := hm
  generalize hn138 : forN (fun k s136 n => m_graph_all_b1 k s136 n) (fun s136 => some s136) zs142 (k105 + 1) = nx137 at hm
  unfold m_graph_all_b1 at hm
  refine C_skip (E_then (C_seq (C_block (C_seq (C_region ?_)))))
  refine W_move rfl rfl rfl ?_
  refine W_assign rfl rfl rfl ?_
  refine W_end (E_then (C_region ?_))
  refine W_move rfl rfl rfl ?_
  refine W_move rfl rfl rfl ?_
  refine W_move rfl rfl rfl ?_
  obtain ⟨y147, h148, he149, hm⟩ := idx_some hm
  refine W_indexO (List.mem_cons_self ..) rfl rfl runUnderlying42 sizeOf3 rfl rfl h148 (List.getElem?_eq_some_iff.1 he149).1 ?_
  obtain ⟨_, rfl, hg150⟩ := (hr133).elem he149
  obtain ⟨hr151, he152, hg153⟩ := Rw.put (cs := [.int .i64 ((k105 : Int))]) (o := 0) (c := [.int .i64 (y147)]) (out := [.int .i64 ((k105 : Int))]) (e2 := ((k105 : Int))) hr133 he149 rfl hg150 rfl rfl rfl
  refine W_storeO2 (i := ((k105 : Int) : Int).toNat * Rep.sz Int + 0) (cs := [.int .i64 ((k105 : Int))]) rfl sizeOf3 rfl (row_ad0 _ _) rfl rfl rfl (Rw.room hr133 he149 rfl) rfl (all_cons rfl all_nil) (n' := (l132.set (((k105 : Int) : Int).toNat) ((k105 : Int))).length) List.length_set ?_
  generalize over xs131 (((k105 : Int) : Int).toNat * Rep.sz Int + 0) [.int .i64 ((k105 : Int))] = xs154 at hr151 hg153 ⊢
  refine W_end (E_normal_block (E_then (C_region ?_)))
  refine W_bin rfl rfl rfl rfl rfl ?_
  refine W_move rfl rfl rfl ?_
  refine W_end ?_
  exact E_keepJ (E_back (Nat.lt_succ_self _) ⟨k105 + 1, zs142, (l132.set (((k105 : Int) : Int).toNat) ((k105 : Int))), xs154, hd145, rfl, (by rw [hn138]; exact hm), hr151, hle135, rfl, rfl⟩) (List.Perm.refl _) ⟨rfl, rfl, (congrArg (fun z => some (Value.int .i64 z)) (i64_succN hy143 (toNat_max (len_max hmx140)))), trivial⟩
 ·obtain rfl := rngN_f hd144 hb146
  have hm : (some l132) = some r := hm
  refine C_exit (E_exit_then (E_exit_then (E_exit_hit (E_then (C_seq (C_region ?_))))))
  refine W_move rfl rfl rfl ?_
  refine W_assign rfl rfl rfl ?_
  refine W_end (E_then (C_ret ?_))
  obtain rfl := Option.some.inj hm
  refine E_weak hle135 ?_
  exact end1 rfl rfl ⟨rfl, v102, xs131, rfl, rfl, (hr133).toF⟩

theorem m_graph_path_c {B : Nat} {w0 w : World} {H : Hp} {M : List Res} {p0_n : Int} {p1_l : (List S_A2_Int)} {edges : (List Int)} {p3_from : Int} {to : Int} {v0 : Value} {v1 : Value} {r : (List Int) × Bool} (hm : m_graph_path p0_n p1_l edges p3_from to = some r) (h0 : RdS H v0 p1_l) (h1 : RdS H v1 edges) (ht : St B w0 H (M) w) :
  Calls prog 58 [.int .i64 (p0_n), v0, v1, .int .i64 (p3_from), .int .i64 (to)].toArray w (Ret B w0 fun H' M' v => H = H' ∧ ∃ qv0 : Value, ∃ qxs0 : List Value, .row qv0 3 (Rep.sz Int) r.1.length qxs0 :: M = M' ∧ .tuple #[qv0, .bool (r.2)] = v ∧ RwF qv0 qxs0 r.1) := by
 unfold m_graph_path at hm
 refine enter func58 rfl rfl rfl ht ?_
 refine C_seq (C_region ?_)
 refine W_assign rfl rfl rfl ?_
 refine W_assign rfl rfl rfl ?_
 refine W_end (E_then (C_seq (C_region ?_)))
 refine W_buildSliceO (α := Int) (css := [[.int .i64 ((-1))]]) (zs := [.int .i64 (0)]) (out := [.int .i64 ((-1))]) (ys := ([((-1))] : List Int)) rfl rfl rfl ⟨rfl, trivial⟩ runUnderlying42 sizeOf3 rfl zeroValue3 (by kernel_rfl) rfl rfl rfl rfl ⟨[.int .i64 ((-1))], [], rfl, rfl, rfl⟩ rfl ?_
 intro v101 xs102 hr103
 refine W_move rfl rfl rfl ?_
 obtain ⟨hz104, hm⟩ := need_some hm
 refine W_call call70 rfl rfl rfl (fun w ht => by obtain ⟨H0_, hl0_, ht0_, hr0_, bk0_⟩ := ht.lendRow hr103 rfl; have h := repeat70_c hr0_ hz104 ht0_; exact lend_back bk0_ h) ?_
 rintro _ _ _ ⟨rfl, _, rfl, v105, xs106, rfl, rfl, hr107⟩
 have hr107 := hr107 H
 refine W_assign rfl rfl rfl ?_
 refine W_end (E_then (C_seq (C_region ?_)))
 refine W_move rfl rfl rfl ?_
 refine W_move rfl rfl rfl ?_
 obtain ⟨y108, h109, he110, hm⟩ := idx_some hm
 refine W_indexO (List.mem_cons_of_mem _ (List.mem_cons_self ..)) rfl rfl runUnderlying42 sizeOf3 rfl rfl h109 (List.getElem?_eq_some_iff.1 he110).1 ?_
 obtain ⟨_, rfl, hg111⟩ := (hr107).elem he110
 refine W_perm (List.Perm.swap _ _ _) ?_
 obtain ⟨hr112, he113, hg114⟩ := Rw.put (cs := [.int .i64 (0)]) (o := 0) (c := [.int .i64 (y108)]) (out := [.int .i64 (0)]) (e2 := 0) hr107 he110 rfl hg111 rfl rfl rfl
 refine W_storeO2 (i := (to : Int).toNat * Rep.sz Int + 0) (cs := [.int .i64 (0)]) rfl sizeOf3 rfl (row_ad0 _ _) rfl rfl rfl (Rw.room hr107 he110 rfl) rfl (all_cons rfl all_nil) (n' := ((repL ([((-1))] : List Int) p0_n).set ((to : Int).toNat) 0).length) List.length_set ?_
 generalize over xs106 ((to : Int).toNat * Rep.sz Int + 0) [.int .i64 (0)] = xs115 at hr112 hg114 ⊢
 refine W_end (E_then (C_seq (C_seq (C_region ?_))))
 refine W_move rfl rfl rfl ?_
 refine W_buildSliceO (α := Int) (css := [[.int .i64 (to)]]) (zs := [.int .i64 (0)]) (out := [.int .i64 (to)]) (ys := ([to] : List Int)) rfl rfl rfl ⟨rfl, trivial⟩ runUnderlying42 sizeOf3 rfl zeroValue3 (by kernel_rfl) rfl rfl rfl rfl ⟨[.int .i64 (to)], [], rfl, rfl, rfl⟩ rfl ?_
 intro v116 xs117 hr118
 refine W_assign rfl rfl rfl ?_
 refine W_end (E_then (C_block ?_))
 refine C_drop (List.Sublist.cons_cons _ (List.Sublist.cons_cons _ (List.Sublist.cons _ (List.Sublist.refl _)))) ?_
 refine C_keep (L' := [(1, v0), (2, v1), (3, .int .i64 (p3_from)), (4, .int .i64 (to)), (12, v105), (13, v116)]) ⟨rfl, rfl, rfl, rfl, rfl, rfl, trivial⟩ (List.Perm.swap _ _ _) ?_
 refine C_loop (fun n H' M' L' => ∃ l1075 : List Int, ∃ l1079 : List Int, ∃ xs1074 : List Value, ∃ v1077 : Value, ∃ xs1078 : List Value, loopF (fun s1083 n => m_graph_path_b9 p1_l edges p3_from to s1083.1 s1083.2 n) n (l1075, l1079) = some r ∧ Rw H' v105 xs1074 l1075 ∧ Rw H' v1077 xs1078 l1079 ∧ H.le H' ∧ .row v105 3 (Rep.sz Int) l1075.length xs1074 :: .row v1077 3 (Rep.sz Int) l1079.length xs1078 :: M = M' ∧ [(1, v0), (2, v1), (3, .int .i64 (p3_from)), (4, .int .i64 (to)), (12, v105), (13, v1077)] = L') FUEL ⟨((repL ([((-1))] : List Int) p0_n).set ((to : Int).toNat) 0), ([to] : List Int), xs115, v116, xs117, hm, hr112, hr118, (Hp.le_refl _), rfl, rfl⟩ ?_
 rintro n1086 H1081 _ _ ⟨l1075, l1079, xs1074, v1077, xs1078, hm, hr1076, hr1080, hle1082, rfl, rfl⟩
 cases n1086 with
 | zero => cases hm
 | succ n1086 =>
  have hm : m_graph_path_b9 p1_l edges p3_from to l1075 l1079 (loopF (fun s1083 n => m_graph_path_b9 p1_l edges p3_from to s1083.1 s1083.2 n) n1086) = some r := hm
  generalize hn1085 : loopF (fun s1083 n => m_graph_path_b9 p1_l edges p3_from to s1083.1 s1083.2 n) n1086 = nx1084 at hm
  unfold m_graph_path_b9 at hm
  refine C_seq (C_seq (C_region ?_))
  refine W_move rfl rfl rfl ?_
  refine W_lenO (List.mem_cons_of_mem _ (List.mem_cons_self ..)) rfl rfl runUnderlying42 rfl ?_
  refine W_bin rfl rfl rfl rfl rfl ?_
  refine W_end (E_then ?_)
  refine C_cond (b := decide (0 < (l1079.length : Int))) rfl (fun hb1092 => ?_) (fun hb1092 => ?_)
  ·have hm := ite_t' hb1092 hm
   refine C_skip (E_then (C_block (C_seq (C_region ?_))))
   refine W_move rfl rfl rfl ?_
   obtain ⟨y1093, h1094, he1095, hm⟩ := idx_some hm
   refine W_indexO (List.mem_cons_of_mem _ (List.mem_cons_self ..)) rfl rfl runUnderlying42 sizeOf3 rfl rfl h1094 (List.getElem?_eq_some_iff.1 he1095).1 ?_
   obtain ⟨_, rfl, hg1096⟩ := (hr1080).elem he1095
   refine W_load rfl rfl isAgg3 rfl (row_one0 (List.mem_cons_of_mem _ (List.mem_cons_self ..)) hg1096 rfl) ?_
   refine W_assign rfl rfl rfl ?_
   refine W_end (E_then (C_seq (C_region ?_)))
   refine W_move rfl rfl rfl ?_
   obtain ⟨hz1097, hm⟩ := need_some hm
   refine W_perm (List.Perm.swap _ _ _) ?_
   refine W_sliceO (α := Int) (l := (1 : Int).toNat) (h := l1079.length) rfl rfl runUnderlying42 sizeOf3 rfl rfl hr1080 (by omega) (by omega) (fun m hmm => (.inl ⟨rfl, rfl⟩)) (.inr ⟨_, _, _, rfl, rfl, by omega, by omega, rfl⟩) ?_
   intro v1098 xs1099 hr1100
   refine W_assign rfl rfl rfl ?_
   refine W_end (E_then (C_seq (C_region ?_)))
   refine W_move rfl rfl rfl ?_
   refine W_lenR rfl rfl runUnderlying42 rfl (h1.mono hle1082) ?_
   refine W_move rfl rfl rfl ?_
   refine W_end (E_then (C_block ?_))
   refine C_keep (L' := [(1, v0), (2, v1), (3, .int .i64 (p3_from)), (4, .int .i64 (to)), (12, v105), (13, v1098), (14, .int .i64 (y1093)), (41, v1), (42, .int .i64 ((edges.length : Int))), (43, .int .i64 (((0 : Nat) : Int)))]) ⟨rfl, rfl, rfl, rfl, rfl, rfl, rfl, rfl, rfl, rfl, trivial⟩ (List.Perm.swap _ _ _) ?_
   refine C_loop (fun n H' M' L' => ∃ (k1101 : Nat) (zs1415' : List Int), ∃ l1402 : List Int, ∃ l1406 : List Int, ∃ xs1401 : List Value, ∃ v1404 : Value, ∃ xs1405 : List Value, (edges).drop k1101 = zs1415' ∧ zs1415'.length = n ∧ forI (fun k y s1410 n => m_graph_path_b12 p1_l y1093 k y s1410.1 s1410.2 n) (fun s1410 => nx1084 (s1410.1, s1410.2)) k1101 zs1415' (l1402, l1406) = some r ∧ Rw H' v105 xs1401 l1402 ∧ Rw H' v1404 xs1405 l1406 ∧ H1081.le H' ∧ .row v105 3 (Rep.sz Int) l1402.length xs1401 :: .row v1404 3 (Rep.sz Int) l1406.length xs1405 :: M = M' ∧ [(1, v0), (2, v1), (3, .int .i64 (p3_from)), (4, .int .i64 (to)), (12, v105), (13, v1404), (14, .int .i64 (y1093)), (41, v1), (42, .int .i64 ((edges.length : Int))), (43, .int .i64 ((k1101 : Int)))] = L') _ ⟨0, _, l1075, (slc l1079 (1 : Int).toNat l1079.length), xs1074, v1098, xs1099, rfl, rfl, hm, hr1076, hr1100, (Hp.le_refl _), rfl, rfl⟩ ?_
   rintro _ H1408 _ _ ⟨k1101, zs1415', l1402, l1406, xs1401, v1404, xs1405, hd1417, rfl, hm, hr1403, hr1407, hle1409, rfl, rfl⟩
   refine C_seq (C_region ?_)
   refine W_bin rfl rfl rfl rfl rfl ?_
   refine W_end (E_then (C_seq ?_))
   refine C_cond (b := decide ((k1101 : Int) < (edges.length : Int))) rfl (fun hb1419 => ?_) (fun hb1419 => ?_)
   ·obtain ⟨y1414, zs1415, rfl, hy1416, hd1418⟩ := rng_t hd1417 hb1419
    have hm : m_graph_path_b12 p1_l y1093 k1101 y1414 l1402 l1406 (forI (fun k y s1410 n => m_graph_path_b12 p1_l y1093 k y s1410.1 s1410.2 n) (fun s1410 => nx1084 (s1410.1, s1410.2)) (k1101 + 1) zs1415) = some r := hm
    generalize hn1412 : forI (fun k y s1410 n => m_graph_path_b12 p1_l y1093 k y s1410.1 s1410.2 n) (fun s1410 => nx1084 (s1410.1, s1410.2)) (k1101 + 1) zs1415 = nx1411 at hm
    unfold m_graph_path_b12 at hm
    refine C_skip (E_then ?_)
    refine C_seq_join (fun H' M' L' => ∃ l1486 : List Int, ∃ l1490 : List Int, ∃ xs1485 : List Value, ∃ v1488 : Value, ∃ xs1489 : List Value, m_graph_path_b13 nx1411 l1486 l1490 = some r ∧ Rw H' v105 xs1485 l1486 ∧ Rw H' v1488 xs1489 l1490 ∧ H1408.le H' ∧ .row v105 3 (Rep.sz Int) l1486.length xs1485 :: .row v1488 3 (Rep.sz Int) l1490.length xs1489 :: M = M' ∧ [(1, v0), (2, v1), (3, .int .i64 (p3_from)), (4, .int .i64 (to)), (12, v105), (13, v1488), (14, .int .i64 (y1093)), (41, v1), (42, .int .i64 ((edges.length : Int))), (43, .int .i64 ((k1101 : Int)))] = L') ?_ (fun J1494 => ?_)
    ·rintro H1492 _ _ ⟨l1486, l1490, xs1485, v1488, xs1489, hm, hr1487, hr1491, hle1493, rfl, rfl⟩
     unfold m_graph_path_b13 at hm
     refine C_region ?_
     refine W_bin rfl rfl rfl rfl rfl ?_
     refine W_move rfl rfl rfl ?_
     refine W_end ?_
     exact E_keepJ (E_back (Nat.lt_succ_self _) ⟨k1101 + 1, zs1415, l1486, l1490, xs1485, v1488, xs1489, hd1418, rfl, (by rw [hn1412]; exact hm), hr1487, hr1491, (Hp.le_trans hle1409 hle1493), rfl, rfl⟩) (List.Perm.refl _) ⟨rfl, rfl, rfl, rfl, rfl, rfl, rfl, rfl, rfl, (congrArg (fun z => some (Value.int .i64 z)) (i64_succ hy1416 (((h1.mono hle1082).mono hle1409)).lenMax)), trivial⟩
    ·refine C_block (C_seq (C_region ?_))
     obtain ⟨_, rfl, hc1495⟩ := (h1).elem hy1416
     refine W_indexS rfl rfl runUnderlying42 sizeOf3 rfl ((h1.mono hle1082).mono hle1409) rfl (Int.natCast_nonneg _) hy1416 ?_
     refine W_load rfl rfl isAgg3 rfl (HCells.one ((hc1495.mono hle1082).mono hle1409) 0 rfl).at ?_
     refine W_assign rfl rfl rfl ?_
     refine W_end (E_then (C_seq (C_region ?_)))
     refine W_move rfl rfl rfl ?_
     refine W_move rfl rfl rfl ?_
     obtain ⟨y1496, h1497, he1498, hm⟩ := idx_some hm
     obtain ⟨_, ⟨rfl⟩, hc1499⟩ := (h0).elem he1498
     refine W_indexS rfl rfl runUnderlying97 sizeOf98 rfl ((h0.mono hle1082).mono hle1409) rfl h1497 he1498 ?_
     refine W_loadAgg rfl rfl isAgg98 sizeOf98 rfl ((hc1499.mono hle1082).mono hle1409).at rfl ?_
     refine W_alloc (cs := [.int .i64 (0), .int .i64 (0)]) rfl rfl zeroValue98 rfl (fun b1500 => ?_)
     refine W_store (cs := [.int .i64 (y1496.a0), .int .i64 (y1496.a1)]) (out := [.int .i64 (y1496.a0), .int .i64 (y1496.a1)]) rfl sizeOf98 rfl rfl rfl rfl rfl (all_cons rfl (all_cons rfl all_nil)) (over_all rfl) ?_
     refine W_end (E_then (C_seq (C_region ?_)))
     refine W_indexAd rfl rfl runUnderlying98 sizeOf3 rfl rfl (by decide) (by decide) ?_
     refine W_load rfl rfl isAgg3 rfl (own_at (List.mem_cons_self ..) rfl) ?_
     refine W_move rfl rfl rfl ?_
     refine W_bin rfl rfl rfl rfl rfl ?_
     refine W_move rfl rfl rfl ?_
     cases hb1501 : (decide (y1496.a0 = y1093))
     ·have hm := ite_f' hb1501 hm
      refine W_indexAd rfl rfl runUnderlying98 sizeOf3 rfl rfl (by decide) (by decide) ?_
      refine W_load rfl rfl isAgg3 rfl (own_at (List.mem_cons_self ..) rfl) ?_
      refine W_move rfl rfl rfl ?_
      refine W_bin rfl rfl rfl rfl rfl ?_
      refine W_pick rfl rfl rfl rfl ?_
      refine W_end (E_then ?_)
      refine C_cond (b := decide (y1496.a1 = y1093)) rfl (fun hb1502 => ?_) (fun hb1502 => ?_)
      ·have hm := ite_t' hb1502 hm
       refine C_seq (C_region ?_)
       refine W_indexAd rfl rfl runUnderlying98 sizeOf3 rfl rfl (by decide) (by decide) ?_
       refine W_load rfl rfl isAgg3 rfl (own_at (List.mem_cons_self ..) rfl) ?_
       refine W_indexAd rfl rfl runUnderlying98 sizeOf3 rfl rfl (by decide) (by decide) ?_
       refine W_load rfl rfl isAgg3 rfl (own_at (List.mem_cons_self ..) rfl) ?_
       refine W_bin rfl rfl rfl rfl rfl ?_
       refine W_move rfl rfl rfl ?_
       refine W_bin rfl rfl rfl rfl rfl ?_
       refine W_assign rfl rfl rfl ?_
       refine W_end (E_then (C_seq (C_region ?_)))
       refine W_move rfl rfl rfl ?_
       refine W_move rfl rfl rfl ?_
       obtain ⟨y1503, h1504, he1505, hm⟩ := idx_some hm
       refine W_indexO (List.mem_cons_of_mem _ (List.mem_cons_self ..)) rfl rfl runUnderlying42 sizeOf3 rfl rfl h1504 (List.getElem?_eq_some_iff.1 he1505).1 ?_
       obtain ⟨_, rfl, hg1506⟩ := (hr1403).elem he1505
       refine W_load rfl rfl isAgg3 rfl (row_one0 (List.mem_cons_of_mem _ (List.mem_cons_self ..)) hg1506 rfl) ?_
       refine W_bin rfl rfl rfl rfl rfl ?_
       refine W_end (E_then ?_)
       refine C_cond (b := decide (y1503 < 0)) rfl (fun hb1507 => ?_) (fun hb1507 => ?_)
       ·have hm := ite_t' hb1507 hm
        refine C_seq (C_region ?_)
        refine W_move rfl rfl rfl ?_
        refine W_move rfl rfl rfl ?_
        refine W_move rfl rfl rfl ?_
        refine W_move rfl rfl rfl ?_
        obtain ⟨y1508, h1509, he1510, hm⟩ := idx_some hm
        refine W_indexO (List.mem_cons_of_mem _ (List.mem_cons_self ..)) rfl rfl runUnderlying42 sizeOf3 rfl rfl h1509 (List.getElem?_eq_some_iff.1 he1510).1 ?_
        obtain ⟨_, rfl, hg1511⟩ := (hr1403).elem he1510
        refine W_load rfl rfl isAgg3 rfl (row_one0 (List.mem_cons_of_mem _ (List.mem_cons_self ..)) hg1511 rfl) ?_
        refine W_bin rfl rfl rfl rfl rfl ?_
        obtain ⟨y1512, h1513, he1514, hm⟩ := idx_some hm
        refine W_indexO (List.mem_cons_of_mem _ (List.mem_cons_self ..)) rfl rfl runUnderlying42 sizeOf3 rfl rfl h1513 (List.getElem?_eq_some_iff.1 he1514).1 ?_
        obtain ⟨_, rfl, hg1515⟩ := (hr1403).elem he1514
        refine W_perm (List.Perm.swap _ _ _) ?_
        obtain ⟨hr1516, he1517, hg1518⟩ := Rw.put (cs := [.int .i64 (IntKind.i64.wrap (y1508 + 1))]) (o := 0) (c := [.int .i64 (y1512)]) (out := [.int .i64 (IntKind.i64.wrap (y1508 + 1))]) (e2 := (IntKind.i64.wrap (y1508 + 1))) hr1403 he1514 rfl hg1515 rfl rfl rfl
        refine W_storeO2 (i := (IntKind.i64.wrap ((IntKind.i64.wrap (y1496.a0 + y1496.a1)) - y1093) : Int).toNat * Rep.sz Int + 0) (cs := [.int .i64 (IntKind.i64.wrap (y1508 + 1))]) rfl sizeOf3 rfl (row_ad0 _ _) rfl rfl rfl (Rw.room hr1403 he1514 rfl) rfl (all_cons rfl all_nil) (n' := (l1402.set ((IntKind.i64.wrap ((IntKind.i64.wrap (y1496.a0 + y1496.a1)) - y1093) : Int).toNat) (IntKind.i64.wrap (y1508 + 1))).length) List.length_set ?_
        generalize over xs1401 ((IntKind.i64.wrap ((IntKind.i64.wrap (y1496.a0 + y1496.a1)) - y1093) : Int).toNat * Rep.sz Int + 0) [.int .i64 (IntKind.i64.wrap (y1508 + 1))] = xs1519 at hr1516 hg1518 ⊢
        refine W_end (E_then (C_region ?_))
        refine W_move rfl rfl rfl ?_
        refine W_move rfl rfl rfl ?_
        refine W_buildSlice (α := Int) (css := [[.int .i64 (IntKind.i64.wrap ((IntKind.i64.wrap (y1496.a0 + y1496.a1)) - y1093))]]) (zs := [.int .i64 (0)]) (out := [.int .i64 (IntKind.i64.wrap ((IntKind.i64.wrap (y1496.a0 + y1496.a1)) - y1093))]) (ys := ([(IntKind.i64.wrap ((IntKind.i64.wrap (y1496.a0 + y1496.a1)) - y1093))] : List Int)) rfl rfl rfl ⟨rfl, trivial⟩ runUnderlying42 sizeOf3 rfl zeroValue3 (by kernel_rfl) rfl rfl rfl rfl ⟨[.int .i64 (IntKind.i64.wrap ((IntKind.i64.wrap (y1496.a0 + y1496.a1)) - y1093))], [], rfl, rfl, rfl⟩ rfl ?_
        intro b1520 v1521 H1522 hv1523 hle1524 h1525
        have hc1526 : Value.cap' v1521 = ([(IntKind.i64.wrap ((IntKind.i64.wrap (y1496.a0 + y1496.a1)) - y1093))] : List Int).length := by rw [hv1523]; rfl
        obtain ⟨hz1527, hm⟩ := need_some hm
        refine W_perm (List.Perm.trans (List.Perm.cons _ (List.Perm.swap _ _ _)) (List.Perm.swap _ _ _)) ?_
        refine W_appendO (α := Int) (l := l1406) (ys := ([(IntKind.i64.wrap ((IntKind.i64.wrap (y1496.a0 + y1496.a1)) - y1093))] : List Int)) rfl rfl underlying42 ⟨_, rfl, rfl, rfl, rfl⟩ rfl rfl rfl rfl rfl (hr1407.mono hle1524) h1525 hz1527 ?_
        intro v1528 xs1529 hr1530
        refine W_assign rfl rfl rfl ?_
        refine W_end (E_normal_block ?_)
        refine E_drop (List.Sublist.cons_cons _ (List.Sublist.cons_cons _ (List.Sublist.cons _ (List.Sublist.refl _)))) ?_
        exact E_keepJ (J1494 _ _ _ ⟨(l1402.set ((IntKind.i64.wrap ((IntKind.i64.wrap (y1496.a0 + y1496.a1)) - y1093) : Int).toNat) (IntKind.i64.wrap (y1508 + 1))), (l1406 ++ ([(IntKind.i64.wrap ((IntKind.i64.wrap (y1496.a0 + y1496.a1)) - y1093))] : List Int)), xs1519, v1528, xs1529, hm, (hr1516.mono hle1524), hr1530, hle1524, rfl, rfl⟩) (List.Perm.swap _ _ _) ⟨rfl, rfl, rfl, rfl, rfl, rfl, rfl, rfl, rfl, rfl, trivial⟩
       ·have hm := ite_f' hb1507 hm
        refine C_skip (E_normal_block ?_)
        refine E_drop (List.Sublist.cons _ (List.Sublist.refl _)) ?_
        exact E_keepJ (J1494 _ _ _ ⟨l1402, l1406, xs1401, v1404, xs1405, hm, hr1403, hr1407, (Hp.le_refl _), rfl, rfl⟩) (List.Perm.refl _) ⟨rfl, rfl, rfl, rfl, rfl, rfl, rfl, rfl, rfl, rfl, trivial⟩
      ·have hm := ite_f' hb1502 hm
       refine C_skip (E_normal_block ?_)
       refine E_drop (List.Sublist.cons _ (List.Sublist.refl _)) ?_
       exact E_keepJ (J1494 _ _ _ ⟨l1402, l1406, xs1401, v1404, xs1405, hm, hr1403, hr1407, (Hp.le_refl _), rfl, rfl⟩) (List.Perm.refl _) ⟨rfl, rfl, rfl, rfl, rfl, rfl, rfl, rfl, rfl, rfl, trivial⟩
     ·have hm := ite_t' hb1501 hm
      refine W_no rfl rfl rfl ?_
      refine W_no rfl rfl rfl ?_
      refine W_no rfl rfl rfl ?_
      refine W_no rfl rfl rfl ?_
      refine W_pick rfl rfl rfl rfl ?_
      refine W_end (E_then ?_)
      refine C_cond (b := true) rfl (fun _ => ?_) (fun hb => Bool.noConfusion hb)
      refine C_seq (C_region ?_)
      refine W_indexAd rfl rfl runUnderlying98 sizeOf3 rfl rfl (by decide) (by decide) ?_
      refine W_load rfl rfl isAgg3 rfl (own_at (List.mem_cons_self ..) rfl) ?_
      refine W_indexAd rfl rfl runUnderlying98 sizeOf3 rfl rfl (by decide) (by decide) ?_
      refine W_load rfl rfl isAgg3 rfl (own_at (List.mem_cons_self ..) rfl) ?_
      refine W_bin rfl rfl rfl rfl rfl ?_
      refine W_move rfl rfl rfl ?_
      refine W_bin rfl rfl rfl rfl rfl ?_
      refine W_assign rfl rfl rfl ?_
      refine W_end (E_then (C_seq (C_region ?_)))
      refine W_move rfl rfl rfl ?_
      refine W_move rfl rfl rfl ?_
      obtain ⟨y1531, h1532, he1533, hm⟩ := idx_some hm
      refine W_indexO (List.mem_cons_of_mem _ (List.mem_cons_self ..)) rfl rfl runUnderlying42 sizeOf3 rfl rfl h1532 (List.getElem?_eq_some_iff.1 he1533).1 ?_
      obtain ⟨_, rfl, hg1534⟩ := (hr1403).elem he1533
      refine W_load rfl rfl isAgg3 rfl (row_one0 (List.mem_cons_of_mem _ (List.mem_cons_self ..)) hg1534 rfl) ?_
      refine W_bin rfl rfl rfl rfl rfl ?_
      refine W_end (E_then ?_)
      refine C_cond (b := decide (y1531 < 0)) rfl (fun hb1535 => ?_) (fun hb1535 => ?_)
      ·have hm := ite_t' hb1535 hm
       refine C_seq (C_region ?_)
       refine W_move rfl rfl rfl ?_
       refine W_move rfl rfl rfl ?_
       refine W_move rfl rfl rfl ?_
       refine W_move rfl rfl rfl ?_
       obtain ⟨y1536, h1537, he1538, hm⟩ := idx_some hm
       refine W_indexO (List.mem_cons_of_mem _ (List.mem_cons_self ..)) rfl rfl runUnderlying42 sizeOf3 rfl rfl h1537 (List.getElem?_eq_some_iff.1 he1538).1 ?_
       obtain ⟨_, rfl, hg1539⟩ := (hr1403).elem he1538
       refine W_load rfl rfl isAgg3 rfl (row_one0 (List.mem_cons_of_mem _ (List.mem_cons_self ..)) hg1539 rfl) ?_
       refine W_bin rfl rfl rfl rfl rfl ?_
       obtain ⟨y1540, h1541, he1542, hm⟩ := idx_some hm
       refine W_indexO (List.mem_cons_of_mem _ (List.mem_cons_self ..)) rfl rfl runUnderlying42 sizeOf3 rfl rfl h1541 (List.getElem?_eq_some_iff.1 he1542).1 ?_
       obtain ⟨_, rfl, hg1543⟩ := (hr1403).elem he1542
       refine W_perm (List.Perm.swap _ _ _) ?_
       obtain ⟨hr1544, he1545, hg1546⟩ := Rw.put (cs := [.int .i64 (IntKind.i64.wrap (y1536 + 1))]) (o := 0) (c := [.int .i64 (y1540)]) (out := [.int .i64 (IntKind.i64.wrap (y1536 + 1))]) (e2 := (IntKind.i64.wrap (y1536 + 1))) hr1403 he1542 rfl hg1543 rfl rfl rfl
       refine W_storeO2 (i := (IntKind.i64.wrap ((IntKind.i64.wrap (y1496.a0 + y1496.a1)) - y1093) : Int).toNat * Rep.sz Int + 0) (cs := [.int .i64 (IntKind.i64.wrap (y1536 + 1))]) rfl sizeOf3 rfl (row_ad0 _ _) rfl rfl rfl (Rw.room hr1403 he1542 rfl) rfl (all_cons rfl all_nil) (n' := (l1402.set ((IntKind.i64.wrap ((IntKind.i64.wrap (y1496.a0 + y1496.a1)) - y1093) : Int).toNat) (IntKind.i64.wrap (y1536 + 1))).length) List.length_set ?_
       generalize over xs1401 ((IntKind.i64.wrap ((IntKind.i64.wrap (y1496.a0 + y1496.a1)) - y1093) : Int).toNat * Rep.sz Int + 0) [.int .i64 (IntKind.i64.wrap (y1536 + 1))] = xs1547 at hr1544 hg1546 ⊢
       refine W_end (E_then (C_region ?_))
       refine W_move rfl rfl rfl ?_
       refine W_move rfl rfl rfl ?_
       refine W_buildSlice (α := Int) (css := [[.int .i64 (IntKind.i64.wrap ((IntKind.i64.wrap (y1496.a0 + y1496.a1)) - y1093))]]) (zs := [.int .i64 (0)]) (out := [.int .i64 (IntKind.i64.wrap ((IntKind.i64.wrap (y1496.a0 + y1496.a1)) - y1093))]) (ys := ([(IntKind.i64.wrap ((IntKind.i64.wrap (y1496.a0 + y1496.a1)) - y1093))] : List Int)) rfl rfl rfl ⟨rfl, trivial⟩ runUnderlying42 sizeOf3 rfl zeroValue3 (by kernel_rfl) rfl rfl rfl rfl ⟨[.int .i64 (IntKind.i64.wrap ((IntKind.i64.wrap (y1496.a0 + y1496.a1)) - y1093))], [], rfl, rfl, rfl⟩ rfl ?_
       intro b1548 v1549 H1550 hv1551 hle1552 h1553
       have hc1554 : Value.cap' v1549 = ([(IntKind.i64.wrap ((IntKind.i64.wrap (y1496.a0 + y1496.a1)) - y1093))] : List Int).length := by rw [hv1551]; rfl
       obtain ⟨hz1555, hm⟩ := need_some hm
       refine W_perm (List.Perm.trans (List.Perm.cons _ (List.Perm.swap _ _ _)) (List.Perm.swap _ _ _)) ?_
       refine W_appendO (α := Int) (l := l1406) (ys := ([(IntKind.i64.wrap ((IntKind.i64.wrap (y1496.a0 + y1496.a1)) - y1093))] : List Int)) rfl rfl underlying42 ⟨_, rfl, rfl, rfl, rfl⟩ rfl rfl rfl rfl rfl (hr1407.mono hle1552) h1553 hz1555 ?_
       intro v1556 xs1557 hr1558
       refine W_assign rfl rfl rfl ?_
       refine W_end (E_normal_block ?_)
       refine E_drop (List.Sublist.cons_cons _ (List.Sublist.cons_cons _ (List.Sublist.cons _ (List.Sublist.refl _)))) ?_
       exact E_keepJ (J1494 _ _ _ ⟨(l1402.set ((IntKind.i64.wrap ((IntKind.i64.wrap (y1496.a0 + y1496.a1)) - y1093) : Int).toNat) (IntKind.i64.wrap (y1536 + 1))), (l1406 ++ ([(IntKind.i64.wrap ((IntKind.i64.wrap (y1496.a0 + y1496.a1)) - y1093))] : List Int)), xs1547, v1556, xs1557, hm, (hr1544.mono hle1552), hr1558, hle1552, rfl, rfl⟩) (List.Perm.swap _ _ _) ⟨rfl, rfl, rfl, rfl, rfl, rfl, rfl, rfl, rfl, rfl, trivial⟩
      ·have hm := ite_f' hb1535 hm
       refine C_skip (E_normal_block ?_)
       refine E_drop (List.Sublist.cons _ (List.Sublist.refl _)) ?_
       exact E_keepJ (J1494 _ _ _ ⟨l1402, l1406, xs1401, v1404, xs1405, hm, hr1403, hr1407, (Hp.le_refl _), rfl, rfl⟩) (List.Perm.refl _) ⟨rfl, rfl, rfl, rfl, rfl, rfl, rfl, rfl, rfl, rfl, trivial⟩
   ·obtain rfl := rng_f hd1417 hb1419
    have hm : (nx1084 (l1402, l1406)) = some r := hm
    refine C_exit (E_exit_then (E_exit_then (E_exit_hit (E_normal_block ?_))))
    exact E_keepJ (E_back (Nat.lt_succ_self _) ⟨l1402, l1406, xs1401, v1404, xs1405, (by rw [hn1085]; exact hm), hr1403, hr1407, (Hp.le_trans hle1082 hle1409), rfl, rfl⟩) (List.Perm.refl _) ⟨rfl, rfl, rfl, rfl, rfl, rfl, trivial⟩
  ·have hm := ite_f' hb1092 hm
   refine C_exit (E_exit_then (E_exit_then (E_exit_hit (E_then (C_seq (C_seq (C_region ?_)))))))
   refine W_move rfl rfl rfl ?_
   refine W_move rfl rfl rfl ?_
   obtain ⟨y1559, h1560, he1561, hm⟩ := idx_some hm
   refine W_indexO (List.mem_cons_self ..) rfl rfl runUnderlying42 sizeOf3 rfl rfl h1560 (List.getElem?_eq_some_iff.1 he1561).1 ?_
   obtain ⟨_, rfl, hg1562⟩ := (hr1076).elem he1561
   refine W_load rfl rfl isAgg3 rfl (row_one0 (List.mem_cons_self ..) hg1562 rfl) ?_
   refine W_bin rfl rfl rfl rfl rfl ?_
   refine W_end (E_then ?_)
   refine C_cond (b := decide (y1559 < 0)) rfl (fun hb1563 => ?_) (fun hb1563 => ?_)
   ·have hm := ite_t' hb1563 hm
    refine C_seq (C_region ?_)
    refine W_assign rfl rfl rfl ?_
    refine W_assign rfl rfl rfl ?_
    refine W_end (E_then (C_ret (E_ret_then ?_)))
    refine E_nilRow 3 (Rep.sz Int) ?_
    obtain rfl := Option.some.inj hm
    refine E_drop (List.Sublist.cons_cons _ (List.Sublist.cons _ (List.Sublist.cons _ (List.Sublist.refl _)))) ?_
    refine E_weak hle1082 ?_
    exact end2 rfl rfl rfl ⟨rfl, (.slice none 0 0), [], rfl, rfl, (Rw.nil (H := H)).toF⟩
   ·have hm := ite_f' hb1563 hm
    refine C_skip (E_then (C_seq (C_region ?_)))
    refine W_assign rfl rfl rfl ?_
    refine W_end (E_then (C_seq (C_seq (C_region ?_))))
    refine W_move rfl rfl rfl ?_
    refine W_assign rfl rfl rfl ?_
    refine W_end (E_then (C_block ?_))
    refine C_nilRow 3 (Rep.sz Int) ?_
    refine C_drop (List.Sublist.cons_cons _ (List.Sublist.cons_cons _ (List.Sublist.cons _ (List.Sublist.refl _)))) ?_
    refine C_keep (L' := [(1, v0), (2, v1), (4, .int .i64 (to)), (12, v105), (19, (.slice none 0 0)), (20, .int .i64 (p3_from))]) ⟨rfl, rfl, rfl, rfl, rfl, rfl, trivial⟩ (List.Perm.refl _) ?_
    refine C_loop (fun n H' M' L' => ∃ l2258 : List Int, ∃ n2260 : Int, ∃ v2256 : Value, ∃ xs2257 : List Value, loopF (fun s2263 n => m_graph_path_b22 p1_l edges to l1075 s2263.1 s2263.2 n) n (l2258, n2260) = some r ∧ Rw H' v2256 xs2257 l2258 ∧ H1081.le H' ∧ .row v2256 3 (Rep.sz Int) l2258.length xs2257 :: .row v105 3 (Rep.sz Int) l1075.length xs1074 :: M = M' ∧ [(1, v0), (2, v1), (4, .int .i64 (to)), (12, v105), (19, v2256), (20, .int .i64 (n2260))] = L') FUEL ⟨([] : List Int), p3_from, (.slice none 0 0), ([]), hm, Rw.nil, (Hp.le_refl _), rfl, rfl⟩ ?_
    rintro n2266 H2261 _ _ ⟨l2258, n2260, v2256, xs2257, hm, hr2259, hle2262, rfl, rfl⟩
    cases n2266 with
    | zero => cases hm
    | succ n2266 =>
     have hm : m_graph_path_b22 p1_l edges to l1075 l2258 n2260 (loopF (fun s2263 n => m_graph_path_b22 p1_l edges to l1075 s2263.1 s2263.2 n) n2266) = some r := hm
     generalize hn2265 : loopF (fun s2263 n => m_graph_path_b22 p1_l edges to l1075 s2263.1 s2263.2 n) n2266 = nx2264 at hm
     unfold m_graph_path_b22 at hm
     refine C_seq (C_seq (C_region ?_))
     refine W_move rfl rfl rfl ?_
     refine W_move rfl rfl rfl ?_
     refine W_bin rfl rfl rfl rfl rfl ?_
     refine W_end (E_then ?_)
     refine C_cond (b := !decide (n2260 = to)) rfl (fun hb2272 => ?_) (fun hb2272 => ?_)
     ·have hm := ite_t' hb2272 hm
      refine C_skip (E_then (C_block (C_seq (C_region ?_))))
      refine W_move rfl rfl rfl ?_
      refine W_lenR rfl rfl runUnderlying42 rfl ((h1.mono hle1082).mono hle2262) ?_
      refine W_move rfl rfl rfl ?_
      refine W_end (E_then (C_block ?_))
      refine C_keep (L' := [(1, v0), (2, v1), (4, .int .i64 (to)), (12, v105), (19, v2256), (20, .int .i64 (n2260)), (95, v1), (96, .int .i64 ((edges.length : Int))), (97, .int .i64 (((0 : Nat) : Int)))]) ⟨rfl, rfl, rfl, rfl, rfl, rfl, rfl, rfl, rfl, trivial⟩ (List.Perm.refl _) ?_
      refine C_loop (fun n H' M' L' => ∃ (k2273 : Nat) (zs2499' : List Int), (edges).drop k2273 = zs2499' ∧ zs2499'.length = n ∧ forI (fun k y s2494 n => m_graph_path_b25 p1_l l1075 l2258 n2260 nx2264 k y n) (fun _ => nx2264 (l2258, n2260)) k2273 zs2499' () = some r ∧ H2261.le H' ∧ .row v2256 3 (Rep.sz Int) l2258.length xs2257 :: .row v105 3 (Rep.sz Int) l1075.length xs1074 :: M = M' ∧ [(1, v0), (2, v1), (4, .int .i64 (to)), (12, v105), (19, v2256), (20, .int .i64 (n2260)), (95, v1), (96, .int .i64 ((edges.length : Int))), (97, .int .i64 ((k2273 : Int)))] = L') _ ⟨0, _, rfl, rfl, hm, (Hp.le_refl _), rfl, rfl⟩ ?_
      rintro _ H2492 _ _ ⟨k2273, zs2499', hd2501, rfl, hm, hle2493, rfl, rfl⟩
      refine C_seq (C_region ?_)
      refine W_bin rfl rfl rfl rfl rfl ?_
      refine W_end (E_then (C_seq ?_))
      refine C_cond (b := decide ((k2273 : Int) < (edges.length : Int))) rfl (fun hb2503 => ?_) (fun hb2503 => ?_)
      ·obtain ⟨y2498, zs2499, rfl, hy2500, hd2502⟩ := rng_t hd2501 hb2503
       have hm : m_graph_path_b25 p1_l l1075 l2258 n2260 nx2264 k2273 y2498 (forI (fun k y s2494 n => m_graph_path_b25 p1_l l1075 l2258 n2260 nx2264 k y n) (fun _ => nx2264 (l2258, n2260)) (k2273 + 1) zs2499) = some r := hm
       generalize hn2496 : forI (fun k y s2494 n => m_graph_path_b25 p1_l l1075 l2258 n2260 nx2264 k y n) (fun _ => nx2264 (l2258, n2260)) (k2273 + 1) zs2499 = nx2495 at hm
       unfold m_graph_path_b25 at hm
       refine C_skip (E_then ?_)
       refine C_seq_join (fun H' M' L' => m_graph_path_b26 nx2495 = some r ∧ H2492.le H' ∧ .row v2256 3 (Rep.sz Int) l2258.length xs2257 :: .row v105 3 (Rep.sz Int) l1075.length xs1074 :: M = M' ∧ [(1, v0), (2, v1), (4, .int .i64 (to)), (12, v105), (19, v2256), (20, .int .i64 (n2260)), (95, v1), (96, .int .i64 ((edges.length : Int))), (97, .int .i64 ((k2273 : Int)))] = L') ?_ (fun J2558 => ?_)
       ·rintro H2556 _ _ ⟨hm, hle2557, rfl, rfl⟩
        unfold m_graph_path_b26 at hm
        refine C_region ?_
        refine W_bin rfl rfl rfl rfl rfl ?_
        refine W_move rfl rfl rfl ?_
        refine W_end ?_
        exact E_keepJ (E_back (Nat.lt_succ_self _) ⟨k2273 + 1, zs2499, hd2502, rfl, (by rw [hn2496]; exact hm), (Hp.le_trans hle2493 hle2557), rfl, rfl⟩) (List.Perm.refl _) ⟨rfl, rfl, rfl, rfl, rfl, rfl, rfl, rfl, (congrArg (fun z => some (Value.int .i64 z)) (i64_succ hy2500 ((((h1.mono hle1082).mono hle2262).mono hle2493)).lenMax)), trivial⟩
       ·refine C_block (C_seq (C_region ?_))
        obtain ⟨_, rfl, hc2559⟩ := (h1).elem hy2500
        refine W_indexS rfl rfl runUnderlying42 sizeOf3 rfl (((h1.mono hle1082).mono hle2262).mono hle2493) rfl (Int.natCast_nonneg _) hy2500 ?_
        refine W_load rfl rfl isAgg3 rfl (HCells.one (((hc2559.mono hle1082).mono hle2262).mono hle2493) 0 rfl).at ?_
        refine W_assign rfl rfl rfl ?_
        refine W_end (E_then (C_seq (C_region ?_)))
        refine W_move rfl rfl rfl ?_
        refine W_move rfl rfl rfl ?_
        obtain ⟨y2560, h2561, he2562, hm⟩ := idx_some hm
        obtain ⟨_, ⟨rfl⟩, hc2563⟩ := (h0).elem he2562
        refine W_indexS rfl rfl runUnderlying97 sizeOf98 rfl (((h0.mono hle1082).mono hle2262).mono hle2493) rfl h2561 he2562 ?_
        refine W_loadAgg rfl rfl isAgg98 sizeOf98 rfl (((hc2563.mono hle1082).mono hle2262).mono hle2493).at rfl ?_
        refine W_alloc (cs := [.int .i64 (0), .int .i64 (0)]) rfl rfl zeroValue98 rfl (fun b2564 => ?_)
        refine W_store (cs := [.int .i64 (y2560.a0), .int .i64 (y2560.a1)]) (out := [.int .i64 (y2560.a0), .int .i64 (y2560.a1)]) rfl sizeOf98 rfl rfl rfl rfl rfl (all_cons rfl (all_cons rfl all_nil)) (over_all rfl) ?_
        refine W_end (E_then (C_seq (C_seq (C_region ?_))))
        refine W_indexAd rfl rfl runUnderlying98 sizeOf3 rfl rfl (by decide) (by decide) ?_
        refine W_load rfl rfl isAgg3 rfl (own_at (List.mem_cons_self ..) rfl) ?_
        refine W_move rfl rfl rfl ?_
        refine W_bin rfl rfl rfl rfl rfl ?_
        refine W_move rfl rfl rfl ?_
        cases hb2565 : (decide (y2560.a0 = n2260))
        ·have hm := ite_f' hb2565 hm
         refine W_indexAd rfl rfl runUnderlying98 sizeOf3 rfl rfl (by decide) (by decide) ?_
         refine W_load rfl rfl isAgg3 rfl (own_at (List.mem_cons_self ..) rfl) ?_
         refine W_move rfl rfl rfl ?_
         refine W_bin rfl rfl rfl rfl rfl ?_
         refine W_pick rfl rfl rfl rfl ?_
         refine W_end (E_then ?_)
         refine C_cond (b := !decide (y2560.a1 = n2260)) rfl (fun hb2566 => ?_) (fun hb2566 => ?_)
         ·have hm := ite_t' hb2566 hm
          refine C_exit (E_exit_then (E_exit_hit ?_))
          refine E_drop (List.Sublist.cons _ (List.Sublist.refl _)) ?_
          exact E_keepJ (J2558 _ _ _ ⟨hm, (Hp.le_refl _), rfl, rfl⟩) (List.Perm.refl _) ⟨rfl, rfl, rfl, rfl, rfl, rfl, rfl, rfl, rfl, trivial⟩
         ·have hm := ite_f' hb2566 hm
          refine C_skip (E_then (C_seq (C_region ?_)))
          refine W_indexAd rfl rfl runUnderlying98 sizeOf3 rfl rfl (by decide) (by decide) ?_
          refine W_load rfl rfl isAgg3 rfl (own_at (List.mem_cons_self ..) rfl) ?_
          refine W_indexAd rfl rfl runUnderlying98 sizeOf3 rfl rfl (by decide) (by decide) ?_
          refine W_load rfl rfl isAgg3 rfl (own_at (List.mem_cons_self ..) rfl) ?_
          refine W_bin rfl rfl rfl rfl rfl ?_
          refine W_move rfl rfl rfl ?_
          refine W_bin rfl rfl rfl rfl rfl ?_
          refine W_assign rfl rfl rfl ?_
          refine W_end (E_then (C_seq ?_))
          obtain ⟨y2567, h2568, he2569, hm⟩ := idx_some hm
          obtain ⟨_, rfl, hg2570⟩ := (hr1076).elem he2569
          obtain ⟨y2571, h2572, he2573, hm⟩ := idx_some hm
          obtain ⟨_, rfl, hg2574⟩ := (hr1076).elem he2573
          refine C_region_tok0 9 (phiT [(fun H rs v => [] = rs ∧ v105 = v), (fun H rs v => [] = rs ∧ .int .i64 (IntKind.i64.wrap ((IntKind.i64.wrap (y2560.a0 + y2560.a1)) - n2260)) = v), (fun H rs v => [] = rs ∧ .pointer (some ((Value.base (v105)).add ((IntKind.i64.wrap ((IntKind.i64.wrap (y2560.a0 + y2560.a1)) - n2260) : Int).toNat * Rep.sz Int))) = v), (fun H rs v => [] = rs ∧ .int .i64 (y2567) = v), (fun H rs v => [] = rs ∧ v105 = v), (fun H rs v => [] = rs ∧ .int .i64 (n2260) = v), (fun H rs v => [] = rs ∧ .pointer (some ((Value.base (v105)).add ((n2260 : Int).toNat * Rep.sz Int))) = v), (fun H rs v => [] = rs ∧ .int .i64 (y2571) = v), (fun H rs v => [] = rs ∧ .int .i64 (IntKind.i64.wrap (y2571 - 1)) = v)]) [[], [], [], [], [], [], [], [], []] [[], [], [], [], [], [], [], [], []] [] [0, 1, 2, 3, 4, 5, 6, 7, 8] Facts.mixed (by kernel_rfl) (by rfl) (by rfl) (by rfl) (by kernel_rfl) (phiT_mono ⟨eq_monoT _ _, eq_monoT _ _, eq_monoT _ _, eq_monoT _ _, eq_monoT _ _, eq_monoT _ _, eq_monoT _ _, eq_monoT _ _, eq_monoT _ _, trivial⟩) ⟨?_, ?_, ?_, ?_, ?_, ?_, ?_, ?_, ?_, trivial⟩ ?_
          ·intro HX hX X Rest hR
           intro hU hUp
           refine W_move rfl rfl rfl ?_
           exact W_end (OneT_end [] (Hp.le_refl _) ⟨rfl, rfl⟩)
          ·intro HX hX X Rest hR
           intro hU hUp
           refine W_move rfl rfl rfl ?_
           exact W_end (OneT_end [] (Hp.le_refl _) ⟨rfl, rfl⟩)
          ·intro HX hX X Rest hR
           rintro _ _ ⟨rfl, rfl⟩
           rintro _ _ ⟨rfl, rfl⟩
           intro hU hUp
           refine W_indexO (hR _ (List.mem_cons_of_mem _ (List.mem_cons_of_mem _ (List.mem_cons_self ..)))) rfl rfl runUnderlying42 sizeOf3 rfl rfl h2568 (List.getElem?_eq_some_iff.1 he2569).1 ?_
           exact W_end (OneT_end [] (Hp.le_refl _) ⟨rfl, rfl⟩)
          ·intro HX hX X Rest hR
           rintro _ _ ⟨rfl, rfl⟩
           intro hU hUp
           refine W_load rfl rfl isAgg3 rfl (row_one0 (hR _ (List.mem_cons_of_mem _ (List.mem_cons_of_mem _ (List.mem_cons_self ..)))) hg2570 rfl) ?_
           exact W_end (OneT_end [] (Hp.le_refl _) ⟨rfl, rfl⟩)
          ·intro HX hX X Rest hR
           intro hU hUp
           refine W_move rfl rfl rfl ?_
           exact W_end (OneT_end [] (Hp.le_refl _) ⟨rfl, rfl⟩)
          ·intro HX hX X Rest hR
           intro hU hUp
           refine W_move rfl rfl rfl ?_
           exact W_end (OneT_end [] (Hp.le_refl _) ⟨rfl, rfl⟩)
          ·intro HX hX X Rest hR
           rintro _ _ ⟨rfl, rfl⟩
           rintro _ _ ⟨rfl, rfl⟩
           intro hU hUp
           refine W_indexO (hR _ (List.mem_cons_of_mem _ (List.mem_cons_of_mem _ (List.mem_cons_self ..)))) rfl rfl runUnderlying42 sizeOf3 rfl rfl h2572 (List.getElem?_eq_some_iff.1 he2573).1 ?_
           exact W_end (OneT_end [] (Hp.le_refl _) ⟨rfl, rfl⟩)
          ·intro HX hX X Rest hR
           rintro _ _ ⟨rfl, rfl⟩
           intro hU hUp
           refine W_load rfl rfl isAgg3 rfl (row_one0 (hR _ (List.mem_cons_of_mem _ (List.mem_cons_of_mem _ (List.mem_cons_self ..)))) hg2574 rfl) ?_
           exact W_end (OneT_end [] (Hp.le_refl _) ⟨rfl, rfl⟩)
          ·intro HX hX X Rest hR
           rintro _ _ ⟨rfl, rfl⟩
           intro hU hUp
           refine W_bin rfl rfl rfl rfl rfl ?_
           exact W_end (OneT_end [] (Hp.le_refl _) ⟨rfl, rfl⟩)
          intro H2575 hle2576
          rintro _ _ ⟨rfl, rfl⟩
          rintro _ _ ⟨rfl, rfl⟩
          rintro _ _ ⟨rfl, rfl⟩
          rintro _ _ ⟨rfl, rfl⟩
          rintro _ _ ⟨rfl, rfl⟩
          rintro _ _ ⟨rfl, rfl⟩
          rintro _ _ ⟨rfl, rfl⟩
          rintro _ _ ⟨rfl, rfl⟩
          rintro _ _ ⟨rfl, rfl⟩
          refine W_bin rfl rfl rfl rfl rfl ?_
          refine W_end (E_then ?_)
          refine C_cond (b := decide (y2567 = (IntKind.i64.wrap (y2571 - 1)))) rfl (fun hb2577 => ?_) (fun hb2577 => ?_)
          ·have hm := ite_t' hb2577 hm
           refine C_seq (C_region ?_)
           refine W_move rfl rfl rfl ?_
           refine W_move rfl rfl rfl ?_
           refine W_buildSlice (α := Int) (css := [[.int .i64 (y2498)]]) (zs := [.int .i64 (0)]) (out := [.int .i64 (y2498)]) (ys := ([y2498] : List Int)) rfl rfl rfl ⟨rfl, trivial⟩ runUnderlying42 sizeOf3 rfl zeroValue3 (by kernel_rfl) rfl rfl rfl rfl ⟨[.int .i64 (y2498)], [], rfl, rfl, rfl⟩ rfl ?_
           intro b2578 v2579 H2580 hv2581 hle2582 h2583
           have hc2584 : Value.cap' v2579 = ([y2498] : List Int).length := by rw [hv2581]; rfl
           obtain ⟨hz2585, hm⟩ := need_some hm
           refine W_perm (List.Perm.swap _ _ _) ?_
           refine W_appendO (α := Int) (l := l2258) (ys := ([y2498] : List Int)) rfl rfl underlying42 ⟨_, rfl, rfl, rfl, rfl⟩ rfl rfl rfl rfl rfl (((hr2259.mono hle2493).mono hle2576).mono hle2582) h2583 hz2585 ?_
           intro v2586 xs2587 hr2588
           refine W_assign rfl rfl rfl ?_
           refine W_end (E_then (C_seq (C_region ?_)))
           refine W_move rfl rfl rfl ?_
           refine W_assign rfl rfl rfl ?_
           refine W_end (E_then (C_exit ?_))
           refine E_exit_miss rfl ?_
           refine E_exit_then (E_exit_then (E_exit_hit (E_normal_block ?_)))
           refine E_drop (List.Sublist.cons_cons _ (List.Sublist.cons _ (List.Sublist.refl _))) ?_
           exact E_keepJ (E_back (Nat.lt_succ_self _) ⟨(l2258 ++ ([y2498] : List Int)), IntKind.i64.wrap ((IntKind.i64.wrap (y2560.a0 + y2560.a1)) - n2260), v2586, xs2587, (by rw [hn2265]; exact hm), hr2588, (Hp.le_trans (Hp.le_trans (Hp.le_trans hle2262 hle2493) hle2576) hle2582), rfl, rfl⟩) (List.Perm.refl _) ⟨rfl, rfl, rfl, rfl, rfl, rfl, trivial⟩
          ·have hm := ite_f' hb2577 hm
           refine C_skip (E_normal_block ?_)
           refine E_drop (List.Sublist.cons _ (List.Sublist.refl _)) ?_
           exact E_keepJ (J2558 _ _ _ ⟨hm, hle2576, rfl, rfl⟩) (List.Perm.refl _) ⟨rfl, rfl, rfl, rfl, rfl, rfl, rfl, rfl, rfl, trivial⟩
        ·have hm := ite_t' hb2565 hm
         refine W_no rfl rfl rfl ?_
         refine W_no rfl rfl rfl ?_
         refine W_no rfl rfl rfl ?_
         refine W_no rfl rfl rfl ?_
         refine W_pick rfl rfl rfl rfl ?_
         refine W_end (E_then ?_)
         refine C_cond (b := false) rfl (fun hb => Bool.noConfusion hb) (fun _ => ?_)
         refine C_skip (E_then (C_seq (C_region ?_)))
         refine W_indexAd rfl rfl runUnderlying98 sizeOf3 rfl rfl (by decide) (by decide) ?_
         refine W_load rfl rfl isAgg3 rfl (own_at (List.mem_cons_self ..) rfl) ?_
         refine W_indexAd rfl rfl runUnderlying98 sizeOf3 rfl rfl (by decide) (by decide) ?_
         refine W_load rfl rfl isAgg3 rfl (own_at (List.mem_cons_self ..) rfl) ?_
         refine W_bin rfl rfl rfl rfl rfl ?_
         refine W_move rfl rfl rfl ?_
         refine W_bin rfl rfl rfl rfl rfl ?_
         refine W_assign rfl rfl rfl ?_
         refine W_end (E_then (C_seq ?_))
         obtain ⟨y2589, h2590, he2591, hm⟩ := idx_some hm
         obtain ⟨_, rfl, hg2592⟩ := (hr1076).elem he2591
         obtain ⟨y2593, h2594, he2595, hm⟩ := idx_some hm
         obtain ⟨_, rfl, hg2596⟩ := (hr1076).elem he2595
         refine C_region_tok0 9 (phiT [(fun H rs v => [] = rs ∧ v105 = v), (fun H rs v => [] = rs ∧ .int .i64 (IntKind.i64.wrap ((IntKind.i64.wrap (y2560.a0 + y2560.a1)) - n2260)) = v), (fun H rs v => [] = rs ∧ .pointer (some ((Value.base (v105)).add ((IntKind.i64.wrap ((IntKind.i64.wrap (y2560.a0 + y2560.a1)) - n2260) : Int).toNat * Rep.sz Int))) = v), (fun H rs v => [] = rs ∧ .int .i64 (y2589) = v), (fun H rs v => [] = rs ∧ v105 = v), (fun H rs v => [] = rs ∧ .int .i64 (n2260) = v), (fun H rs v => [] = rs ∧ .pointer (some ((Value.base (v105)).add ((n2260 : Int).toNat * Rep.sz Int))) = v), (fun H rs v => [] = rs ∧ .int .i64 (y2593) = v), (fun H rs v => [] = rs ∧ .int .i64 (IntKind.i64.wrap (y2593 - 1)) = v)]) [[], [], [], [], [], [], [], [], []] [[], [], [], [], [], [], [], [], []] [] [0, 1, 2, 3, 4, 5, 6, 7, 8] Facts.mixed (by kernel_rfl) (by rfl) (by rfl) (by rfl) (by kernel_rfl) (phiT_mono ⟨eq_monoT _ _, eq_monoT _ _, eq_monoT _ _, eq_monoT _ _, eq_monoT _ _, eq_monoT _ _, eq_monoT _ _, eq_monoT _ _, eq_monoT _ _, trivial⟩) ⟨?_, ?_, ?_, ?_, ?_, ?_, ?_, ?_, ?_, trivial⟩ ?_
         ·intro HX hX X Rest hR
          intro hU hUp
          refine W_move rfl rfl rfl ?_
          exact W_end (OneT_end [] (Hp.le_refl _) ⟨rfl, rfl⟩)
         ·intro HX hX X Rest hR
          intro hU hUp
          refine W_move rfl rfl rfl ?_
          exact W_end (OneT_end [] (Hp.le_refl _) ⟨rfl, rfl⟩)
         ·intro HX hX X Rest hR
          rintro _ _ ⟨rfl, rfl⟩
          rintro _ _ ⟨rfl, rfl⟩
          intro hU hUp
          refine W_indexO (hR _ (List.mem_cons_of_mem _ (List.mem_cons_of_mem _ (List.mem_cons_self ..)))) rfl rfl runUnderlying42 sizeOf3 rfl rfl h2590 (List.getElem?_eq_some_iff.1 he2591).1 ?_
          exact W_end (OneT_end [] (Hp.le_refl _) ⟨rfl, rfl⟩)
         ·intro HX hX X Rest hR
          rintro _ _ ⟨rfl, rfl⟩
          intro hU hUp
          refine W_load rfl rfl isAgg3 rfl (row_one0 (hR _ (List.mem_cons_of_mem _ (List.mem_cons_of_mem _ (List.mem_cons_self ..)))) hg2592 rfl) ?_
          exact W_end (OneT_end [] (Hp.le_refl _) ⟨rfl, rfl⟩)
         ·intro HX hX X Rest hR
          intro hU hUp
          refine W_move rfl rfl rfl ?_
          exact W_end (OneT_end [] (Hp.le_refl _) ⟨rfl, rfl⟩)
         ·intro HX hX X Rest hR
          intro hU hUp
          refine W_move rfl rfl rfl ?_
          exact W_end (OneT_end [] (Hp.le_refl _) ⟨rfl, rfl⟩)
         ·intro HX hX X Rest hR
          rintro _ _ ⟨rfl, rfl⟩
          rintro _ _ ⟨rfl, rfl⟩
          intro hU hUp
          refine W_indexO (hR _ (List.mem_cons_of_mem _ (List.mem_cons_of_mem _ (List.mem_cons_self ..)))) rfl rfl runUnderlying42 sizeOf3 rfl rfl h2594 (List.getElem?_eq_some_iff.1 he2595).1 ?_
          exact W_end (OneT_end [] (Hp.le_refl _) ⟨rfl, rfl⟩)
         ·intro HX hX X Rest hR
          rintro _ _ ⟨rfl, rfl⟩
          intro hU hUp
          refine W_load rfl rfl isAgg3 rfl (row_one0 (hR _ (List.mem_cons_of_mem _ (List.mem_cons_of_mem _ (List.mem_cons_self ..)))) hg2596 rfl) ?_
          exact W_end (OneT_end [] (Hp.le_refl _) ⟨rfl, rfl⟩)
         ·intro HX hX X Rest hR
          rintro _ _ ⟨rfl, rfl⟩
          intro hU hUp
          refine W_bin rfl rfl rfl rfl rfl ?_
          exact W_end (OneT_end [] (Hp.le_refl _) ⟨rfl, rfl⟩)
         intro H2597 hle2598
         rintro _ _ ⟨rfl, rfl⟩
         rintro _ _ ⟨rfl, rfl⟩
         rintro _ _ ⟨rfl, rfl⟩
         rintro _ _ ⟨rfl, rfl⟩
         rintro _ _ ⟨rfl, rfl⟩
         rintro _ _ ⟨rfl, rfl⟩
         rintro _ _ ⟨rfl, rfl⟩
         rintro _ _ ⟨rfl, rfl⟩
         rintro _ _ ⟨rfl, rfl⟩
         refine W_bin rfl rfl rfl rfl rfl ?_
         refine W_end (E_then ?_)
         refine C_cond (b := decide (y2589 = (IntKind.i64.wrap (y2593 - 1)))) rfl (fun hb2599 => ?_) (fun hb2599 => ?_)
         ·have hm := ite_t' hb2599 hm
          refine C_seq (C_region ?_)
          refine W_move rfl rfl rfl ?_
          refine W_move rfl rfl rfl ?_
          refine W_buildSlice (α := Int) (css := [[.int .i64 (y2498)]]) (zs := [.int .i64 (0)]) (out := [.int .i64 (y2498)]) (ys := ([y2498] : List Int)) rfl rfl rfl ⟨rfl, trivial⟩ runUnderlying42 sizeOf3 rfl zeroValue3 (by kernel_rfl) rfl rfl rfl rfl ⟨[.int .i64 (y2498)], [], rfl, rfl, rfl⟩ rfl ?_
          intro b2600 v2601 H2602 hv2603 hle2604 h2605
          have hc2606 : Value.cap' v2601 = ([y2498] : List Int).length := by rw [hv2603]; rfl
          obtain ⟨hz2607, hm⟩ := need_some hm
          refine W_perm (List.Perm.swap _ _ _) ?_
          refine W_appendO (α := Int) (l := l2258) (ys := ([y2498] : List Int)) rfl rfl underlying42 ⟨_, rfl, rfl, rfl, rfl⟩ rfl rfl rfl rfl rfl (((hr2259.mono hle2493).mono hle2598).mono hle2604) h2605 hz2607 ?_
          intro v2608 xs2609 hr2610
          refine W_assign rfl rfl rfl ?_
          refine W_end (E_then (C_seq (C_region ?_)))
          refine W_move rfl rfl rfl ?_
          refine W_assign rfl rfl rfl ?_
          refine W_end (E_then (C_exit ?_))
          refine E_exit_miss rfl ?_
          refine E_exit_then (E_exit_then (E_exit_hit (E_normal_block ?_)))
          refine E_drop (List.Sublist.cons_cons _ (List.Sublist.cons _ (List.Sublist.refl _))) ?_
          exact E_keepJ (E_back (Nat.lt_succ_self _) ⟨(l2258 ++ ([y2498] : List Int)), IntKind.i64.wrap ((IntKind.i64.wrap (y2560.a0 + y2560.a1)) - n2260), v2608, xs2609, (by rw [hn2265]; exact hm), hr2610, (Hp.le_trans (Hp.le_trans (Hp.le_trans hle2262 hle2493) hle2598) hle2604), rfl, rfl⟩) (List.Perm.refl _) ⟨rfl, rfl, rfl, rfl, rfl, rfl, trivial⟩
         ·have hm := ite_f' hb2599 hm
          refine C_skip (E_normal_block ?_)
          refine E_drop (List.Sublist.cons _ (List.Sublist.refl _)) ?_
          exact E_keepJ (J2558 _ _ _ ⟨hm, hle2598, rfl, rfl⟩) (List.Perm.refl _) ⟨rfl, rfl, rfl, rfl, rfl, rfl, rfl, rfl, rfl, trivial⟩
      ·obtain rfl := rng_f hd2501 hb2503
       have hm : (nx2264 (l2258, n2260)) = some r := hm
       refine C_exit (E_exit_then (E_exit_then (E_exit_hit (E_normal_block ?_))))
       exact E_keepJ (E_back (Nat.lt_succ_self _) ⟨l2258, n2260, v2256, xs2257, (by rw [hn2265]; exact hm), (hr2259.mono hle2493), (Hp.le_trans hle2262 hle2493), rfl, rfl⟩) (List.Perm.refl _) ⟨rfl, rfl, rfl, rfl, rfl, rfl, trivial⟩
     ·have hm := ite_f' hb2272 hm
      refine C_exit (E_exit_then (E_exit_then (E_exit_hit (E_then (C_seq (C_region ?_))))))
      refine W_move rfl rfl rfl ?_
      refine W_assign rfl rfl rfl ?_
      refine W_assign rfl rfl rfl ?_
      refine W_end (E_then (C_ret ?_))
      obtain rfl := Option.some.inj hm
      refine E_drop (List.Sublist.cons_cons _ (List.Sublist.cons _ (List.Sublist.refl _))) ?_
      refine E_weak (Hp.le_trans hle1082 hle2262) ?_
      exact end2 rfl rfl rfl ⟨rfl, v2256, xs2257, rfl, rfl, (hr2259).toF⟩

theorem m_graph_Path_c {B : Nat} {w0 w : World} {H : Hp} {M : List Res} {p0_n : Int} {p1_l : (List S_A2_Int)} {p2_from : Int} {to : Int} {v0 : Value} {r : (List Int) × Int} (hm : m_graph_Path p0_n p1_l p2_from to = some r) (h0 : RdS H v0 p1_l) (ht : St B w0 H (M) w) :
  Calls prog 43 [.int .i64 (p0_n), v0, .int .i64 (p2_from), .int .i64 (to)].toArray w (Ret B w0 fun H' M' v => H = H' ∧ ∃ qv0 : Value, ∃ qxs0 : List Value, .row qv0 3 (Rep.sz Int) r.1.length qxs0 :: M = M' ∧ .tuple #[qv0, .int .i64 (r.2)] = v ∧ RwF qv0 qxs0 r.1) := by
 unfold m_graph_Path at hm
 refine enter func43 rfl rfl rfl ht ?_
 refine C_seq (C_region ?_)
 refine W_assign rfl rfl rfl ?_
 refine W_assign rfl rfl rfl ?_
 refine W_end (E_then (C_seq (C_seq (C_region ?_))))
 refine W_move rfl rfl rfl ?_
 refine W_move rfl rfl rfl ?_
 obtain ⟨r101, hc102, hm⟩ := bind_some hm
 refine W_call call57 rfl rfl rfl (fun w ht => by have h := m_graph_Check_c (hm := hc102) h0 ht; exact h) ?_
 rintro _ _ _ ⟨rfl, rfl, rfl⟩
 refine W_assign rfl rfl rfl ?_
 refine W_end (E_then (C_seq (C_region ?_)))
 refine W_move rfl rfl rfl ?_
 refine W_bin rfl rfl rfl rfl rfl ?_
 refine W_end (E_then ?_)
 refine C_cond (b := !decide (r101 = 0)) rfl (fun hb103 => ?_) (fun hb103 => ?_)
 ·have hm := ite_t' hb103 hm
  refine C_seq (C_region ?_)
  refine W_move rfl rfl rfl ?_
  refine W_assign rfl rfl rfl ?_
  refine W_assign rfl rfl rfl ?_
  refine W_end (E_then (C_ret (E_ret_then ?_)))
  refine E_nilRow 3 (Rep.sz Int) ?_
  obtain rfl := Option.some.inj hm
  refine E_weak (Hp.le_refl _) ?_
  exact end2 rfl rfl rfl ⟨rfl, (.slice none 0 0), [], rfl, rfl, (Rw.nil (H := H)).toF⟩
 ·have hm := ite_f' hb103 hm
  refine C_skip (E_then (C_seq ?_))
  refine C_seq_join (fun H' M' L' => H = H' ∧ M = M' ∧ [(0, .int .i64 (p0_n)), (1, v0), (2, .int .i64 (p2_from)), (3, .int .i64 (to)), (34, .bool ((((decide (p2_from < 0)) || (decide (p0_n ≤ p2_from))) || (decide (to < 0))) || (decide (p0_n ≤ to))))] = L') ?_ (fun J107 => ?_)
  ·rintro _ _ _ ⟨rfl, rfl, rfl⟩
   refine C_cond (b := (((decide (p2_from < 0)) || (decide (p0_n ≤ p2_from))) || (decide (to < 0))) || (decide (p0_n ≤ to))) rfl (fun hb108 => ?_) (fun hb108 => ?_)
   ·have hm := ite_t' hb108 hm
    refine C_seq (C_region ?_)
    refine W_assign rfl rfl rfl ?_
    refine W_assign rfl rfl rfl ?_
    refine W_end (E_then (C_ret (E_ret_then ?_)))
    refine E_nilRow 3 (Rep.sz Int) ?_
    obtain rfl := Option.some.inj hm
    refine E_weak (Hp.le_refl _) ?_
    exact end2 rfl rfl rfl ⟨rfl, (.slice none 0 0), [], rfl, rfl, (Rw.nil (H := H)).toF⟩
   ·have hm := ite_f' hb108 hm
    refine C_skip (E_then (C_seq (C_region ?_)))
    refine W_move rfl rfl rfl ?_
    refine W_move rfl rfl rfl ?_
    refine W_move rfl rfl rfl ?_
    obtain ⟨r109, hc110, hm⟩ := bind_some hm
    refine W_call call59 rfl rfl rfl (fun w ht => by have h := m_graph_all_c (hm := hc110) h0 ht; exact h) ?_
    rintro _ _ _ ⟨rfl, v111, xs112, rfl, rfl, h113⟩
    have h113 := h113 H
    refine W_move rfl rfl rfl ?_
    refine W_move rfl rfl rfl ?_
    obtain ⟨r114, hc115, hm⟩ := bind_some hm
    refine W_call call58 rfl rfl rfl (fun w ht => by obtain ⟨H0_, hl0_, ht0_, hr0_, bk0_⟩ := ht.lendRow h113 rfl; have h := m_graph_path_c (hm := hc115) (h0.mono hl0_) hr0_ ht0_; exact lend_back bk0_ (h)) ?_
    rintro _ _ _ ⟨rfl, ⟨_, rfl, v116, xs117, rfl, rfl, h118⟩⟩
    have h118 := h118 H
    refine W_move rfl rfl rfl ?_
    refine W_extract rfl rfl rfl rfl ?_
    refine W_extract rfl rfl rfl rfl ?_
    refine W_assign rfl rfl rfl ?_
    refine W_assign rfl rfl rfl ?_
    refine W_end (E_then (C_seq (C_seq (C_region ?_))))
    refine W_move rfl rfl rfl ?_
    refine W_un rfl rfl rfl rfl ?_
    refine W_end (E_then ?_)
    refine C_cond (b := !r114.2) rfl (fun hb119 => ?_) (fun hb119 => ?_)
    ·have hm := ite_t' hb119 hm
     refine C_seq (C_region ?_)
     refine W_assign rfl rfl rfl ?_
     refine W_assign rfl rfl rfl ?_
     refine W_end (E_then (C_ret (E_ret_then ?_)))
     refine E_nilRow 3 (Rep.sz Int) ?_
     obtain rfl := Option.some.inj hm
     refine E_drop (List.Sublist.cons_cons _ (List.Sublist.cons _ (List.Sublist.cons _ (List.Sublist.refl _)))) ?_
     refine E_weak (Hp.le_refl _) ?_
     exact end2 rfl rfl rfl ⟨rfl, (.slice none 0 0), [], rfl, rfl, (Rw.nil (H := H)).toF⟩
    ·have hm := ite_f' hb119 hm
     refine C_skip (E_then (C_seq (C_region ?_)))
     refine W_move rfl rfl rfl ?_
     refine W_assign rfl rfl rfl ?_
     refine W_assign rfl rfl rfl ?_
     refine W_end (E_then (C_ret ?_))
     obtain rfl := Option.some.inj hm
     refine E_drop (List.Sublist.cons _ (List.Sublist.refl _)) ?_
     refine E_weak (Hp.le_refl _) ?_
     exact end2 rfl rfl rfl ⟨rfl, v116, xs117, rfl, rfl, (h118).toF⟩
  ·refine C_region ?_
   refine W_move rfl rfl rfl ?_
   refine W_bin rfl rfl rfl rfl rfl ?_
   refine W_move rfl rfl rfl ?_
   cases hb120 : (decide (p2_from < 0))
   ·refine W_move rfl rfl rfl ?_
    refine W_move rfl rfl rfl ?_
    refine W_bin rfl rfl rfl rfl rfl ?_
    refine W_pick rfl rfl rfl rfl ?_
    refine W_move rfl rfl rfl ?_
    cases hb121 : (decide (p0_n ≤ p2_from))
    ·refine W_move rfl rfl rfl ?_
     refine W_bin rfl rfl rfl rfl rfl ?_
     refine W_pick rfl rfl rfl rfl ?_
     refine W_move rfl rfl rfl ?_
     cases hb122 : (decide (to < 0))
     ·refine W_move rfl rfl rfl ?_
      refine W_move rfl rfl rfl ?_
      refine W_bin rfl rfl rfl rfl rfl ?_
      refine W_pick rfl rfl rfl rfl ?_
      refine W_end ?_
      exact E_keepJ (J107 _ _ _ ⟨rfl, rfl, rfl⟩) (List.Perm.refl _) ⟨rfl, rfl, rfl, rfl, (by show some (Value.bool (decide (p0_n ≤ to))) = some (Value.bool ((((decide (p2_from < 0)) || (decide (p0_n ≤ p2_from))) || (decide (to < 0))) || (decide (p0_n ≤ to)))); first | (simp only [hb103, hb120, hb121, hb122, Bool.and_true, Bool.true_and, Bool.false_and, Bool.and_false, Bool.or_true, Bool.true_or, Bool.or_false, Bool.false_or, Bool.not_true, Bool.not_false]; done) | (simp only [hb103, hb120, hb121, hb122]; first | done | simp only [Bool.and_true, Bool.true_and, Bool.false_and, Bool.and_false, Bool.or_true, Bool.true_or, Bool.or_false, Bool.false_or, Bool.not_true, Bool.not_false])), trivial⟩
     ·refine W_no rfl rfl rfl ?_
      refine W_no rfl rfl rfl ?_
      refine W_no rfl rfl rfl ?_
      refine W_pick rfl rfl rfl rfl ?_
      refine W_end ?_
      exact E_keepJ (J107 _ _ _ ⟨rfl, rfl, rfl⟩) (List.Perm.refl _) ⟨rfl, rfl, rfl, rfl, (by show some (Value.bool (true)) = some (Value.bool ((((decide (p2_from < 0)) || (decide (p0_n ≤ p2_from))) || (decide (to < 0))) || (decide (p0_n ≤ to)))); first | (simp only [hb103, hb120, hb121, hb122, Bool.and_true, Bool.true_and, Bool.false_and, Bool.and_false, Bool.or_true, Bool.true_or, Bool.or_false, Bool.false_or, Bool.not_true, Bool.not_false]; done) | (simp only [hb103, hb120, hb121, hb122]; first | done | simp only [Bool.and_true, Bool.true_and, Bool.false_and, Bool.and_false, Bool.or_true, Bool.true_or, Bool.or_false, Bool.false_or, Bool.not_true, Bool.not_false])), trivial⟩
    ·refine W_no rfl rfl rfl ?_
     refine W_no rfl rfl rfl ?_
     refine W_pick rfl rfl rfl rfl ?_
     refine W_move rfl rfl rfl ?_
     refine W_no rfl rfl rfl ?_
     refine W_no rfl rfl rfl ?_
     refine W_no rfl rfl rfl ?_
     refine W_pick rfl rfl rfl rfl ?_
     refine W_end ?_
     exact E_keepJ (J107 _ _ _ ⟨rfl, rfl, rfl⟩) (List.Perm.refl _) ⟨rfl, rfl, rfl, rfl, (by show some (Value.bool (true)) = some (Value.bool ((((decide (p2_from < 0)) || (decide (p0_n ≤ p2_from))) || (decide (to < 0))) || (decide (p0_n ≤ to)))); first | (simp only [hb103, hb120, hb121, Bool.and_true, Bool.true_and, Bool.false_and, Bool.and_false, Bool.or_true, Bool.true_or, Bool.or_false, Bool.false_or, Bool.not_true, Bool.not_false]; done) | (simp only [hb103, hb120, hb121]; first | done | simp only [Bool.and_true, Bool.true_and, Bool.false_and, Bool.and_false, Bool.or_true, Bool.true_or, Bool.or_false, Bool.false_or, Bool.not_true, Bool.not_false])), trivial⟩
   ·refine W_no rfl rfl rfl ?_
    refine W_no rfl rfl rfl ?_
    refine W_no rfl rfl rfl ?_
    refine W_pick rfl rfl rfl rfl ?_
    refine W_move rfl rfl rfl ?_
    refine W_no rfl rfl rfl ?_
    refine W_no rfl rfl rfl ?_
    refine W_pick rfl rfl rfl rfl ?_
    refine W_move rfl rfl rfl ?_
    refine W_no rfl rfl rfl ?_
    refine W_no rfl rfl rfl ?_
    refine W_no rfl rfl rfl ?_
    refine W_pick rfl rfl rfl rfl ?_
    refine W_end ?_
    exact E_keepJ (J107 _ _ _ ⟨rfl, rfl, rfl⟩) (List.Perm.refl _) ⟨rfl, rfl, rfl, rfl, (by show some (Value.bool (true)) = some (Value.bool ((((decide (p2_from < 0)) || (decide (p0_n ≤ p2_from))) || (decide (to < 0))) || (decide (p0_n ≤ to)))); first | (simp only [hb103, hb120, Bool.and_true, Bool.true_and, Bool.false_and, Bool.and_false, Bool.or_true, Bool.true_or, Bool.or_false, Bool.false_or, Bool.not_true, Bool.not_false]; done) | (simp only [hb103, hb120]; first | done | simp only [Bool.and_true, Bool.true_and, Bool.false_and, Bool.and_false, Bool.or_true, Bool.true_or, Bool.or_false, Bool.false_or, Bool.not_true, Bool.not_false])), trivial⟩

theorem m_blackstart_path_c {B : Nat} {w0 w : World} {H : Hp} {M : List Res} {p0_n : S_api_Network} {p1_a : ByteArray} {p2_b : ByteArray} {v0 : Value} {v1 : Value} {v2 : Value} {v3 : Value} {v4 : Value} {v5 : Value} {r : (List ByteArray) × Bool} (hm : m_blackstart_path p0_n p1_a p2_b = some r) (h0 : RdS H v0 p0_n.Nodes) (h1 : RdS H v1 p0_n.Switches) (h2 : RdS H v2 p0_n.Branches) (h3 : RdS H v3 p0_n.Gens) (h4 : RdS H v4 p0_n.Loads) (h5 : RdS H v5 p0_n.Stores) (ht : St B w0 H (M) w) :
  Calls prog 25 [.agg [v0, v1, v2, v3, v4, v5].toArray, .string (p1_a), .string (p2_b)].toArray w (Ret B w0 fun H' M' v => H = H' ∧ ∃ qv0 : Value, ∃ qxs0 : List Value, .row qv0 9 (Rep.sz ByteArray) r.1.length qxs0 :: M = M' ∧ .tuple #[qv0, .bool (r.2)] = v ∧ RwF qv0 qxs0 r.1) := by
 unfold m_blackstart_path at hm
 refine enter func25 rfl rfl rfl ht ?_
 refine C_seq (C_region ?_)
 refine W_box (cs := [v0, v1, v2, v3, v4, v5]) rfl rfl rfl rfl (fun b101 => ?_)
 refine W_assign rfl rfl rfl ?_
 refine W_assign rfl rfl rfl ?_
 refine W_end (E_then (C_seq (C_region ?_)))
 refine W_loadAgg rfl rfl isAgg29 sizeOf29 rfl (own_all (List.mem_cons_self ..)) rfl ?_
 obtain ⟨r102, hc103, hm⟩ := bind_some hm
 refine W_call call11 rfl rfl rfl (fun w ht => by have h := m_islands_Places_c (hm := hc103) h0 h1 h2 h3 h4 h5 ht; exact h) ?_
 rintro _ _ _ ⟨rfl, v104, xs105, rfl, rfl, h106⟩
 have h106 := h106 H
 refine W_move rfl rfl rfl ?_
 refine W_extract rfl rfl rfl rfl ?_
 refine W_extract rfl rfl rfl rfl ?_
 refine W_alloc (cs := [.slice none 0 0]) rfl rfl zeroValue42 rfl (fun b107 => ?_)
 refine W_store (cs := [v104]) (out := [v104]) rfl sizeOf42 rfl rfl (Rw.cells h106) rfl rfl (all_cons (Rw.one h106) all_nil) (over_all rfl) ?_
 refine W_assign rfl rfl rfl ?_
 refine W_end (E_then (C_seq (C_region ?_)))
 refine W_makeFunc rfl rfl rfl rfl ?_
 refine W_assign rfl rfl rfl ?_
 refine W_end (E_then (C_seq (C_region ?_)))
 refine W_assign rfl rfl rfl ?_
 refine W_end (E_then (C_seq (C_region ?_)))
 refine W_assign rfl rfl rfl ?_
 refine W_end (E_then (C_seq (C_seq (C_region ?_))))
 refine W_field (o := 1) rfl rfl runUnderlying29 rfl sizeOf23 rfl rfl rfl ?_
 refine W_load rfl rfl isAgg23 rfl (own_at (List.mem_cons_of_mem _ (List.mem_cons_of_mem _ (List.mem_cons_self ..))) rfl) ?_
 refine W_lenR rfl rfl runUnderlying23 rfl h1 ?_
 refine W_move rfl rfl rfl ?_
 refine W_end (E_then (C_block ?_))
 refine C_nilRow 98 (Rep.sz S_A2_Int) ?_
 refine C_nilRow 9 (Rep.sz ByteArray) ?_
 refine C_keep (L' := [(1, .string (p1_a)), (2, .string (p2_b)), (3, .pointer (some ⟨b101, 0, none⟩)), (10, .func (.func 42) [].toArray [.pointer (some ⟨b107, 0, none⟩), .pointer (some ⟨b101, 0, none⟩)].toArray), (11, (.slice none 0 0)), (12, (.slice none 0 0)), (27, v1), (28, .int .i64 ((p0_n.Switches.length : Int))), (29, .int .i64 (((0 : Nat) : Int)))]) ⟨rfl, rfl, rfl, rfl, rfl, rfl, rfl, rfl, rfl, trivial⟩ (List.Perm.swap _ _ _) ?_
 refine C_loop (fun n H' M' L' => ∃ (k108 : Nat) (zs318' : List S_api_Switch), ∃ l305 : List S_A2_Int, ∃ l309 : List ByteArray, ∃ v303 : Value, ∃ xs304 : List Value, ∃ v307 : Value, ∃ xs308 : List Value, (p0_n.Switches).drop k108 = zs318' ∧ zs318'.length = n ∧ forI (fun k y s313 n => m_blackstart_path_b3 p0_n r102 k y s313.1 s313.2 n) (fun s313 => (m_blackstart_path_1 p1_a r102.1 p0_n).bind fun r410 => (m_blackstart_path_1 p2_b r102.1 p0_n).bind fun r412 => (m_graph_Path (p0_n.Nodes.length : Int) s313.1 r410 r412).bind fun r414 => if !decide (r414.2 = 0) then (some (([] : List ByteArray), false)) else (forI (fun k y s476 n => m_blackstart_path_b5 s313.2 k y s476 n) (fun s476 => some (s476, true)) 0 r414.1 ([] : List ByteArray))) k108 zs318' (l305, l309) = some r ∧ Rw H' v303 xs304 l305 ∧ Rw H' v307 xs308 l309 ∧ H.le H' ∧ .row v303 98 (Rep.sz S_A2_Int) l305.length xs304 :: .row v307 9 (Rep.sz ByteArray) l309.length xs308 :: .obj b107 (.cells [v104].toArray 42 (0, 0)) :: .row v104 3 (Rep.sz Int) r102.1.length xs105 :: .obj b101 (.cells [v0, v1, v2, v3, v4, v5].toArray 29 (0, 0)) :: M = M' ∧ [(1, .string (p1_a)), (2, .string (p2_b)), (3, .pointer (some ⟨b101, 0, none⟩)), (10, .func (.func 42) [].toArray [.pointer (some ⟨b107, 0, none⟩), .pointer (some ⟨b101, 0, none⟩)].toArray), (11, v303), (12, v307), (27, v1), (28, .int .i64 ((p0_n.Switches.length : Int))), (29, .int .i64 ((k108 : Int)))] = L') _ ⟨0, _, ([] : List S_A2_Int), ([] : List ByteArray), (.slice none 0 0), ([]), (.slice none 0 0), ([]), rfl, rfl, hm, Rw.nil, Rw.nil, (Hp.le_refl _), rfl, rfl⟩ ?_
 rintro _ H311 _ _ ⟨k108, zs318', l305, l309, v303, xs304, v307, xs308, hd320, rfl, hm, hr306, hr310, hle312, rfl, rfl⟩
 refine C_seq (C_region ?_)
 refine W_bin rfl rfl rfl rfl rfl ?_
 refine W_end (E_then (C_seq ?_))
 refine C_cond (b := decide ((k108 : Int) < (p0_n.Switches.length : Int))) rfl (fun hb322 => ?_) (fun hb322 => ?_)
 ·obtain ⟨y317, zs318, rfl, hy319, hd321⟩ := rng_t hd320 hb322
  have hm : m_blackstart_path_b3 p0_n r102 k108 y317 l305 l309 (forI (fun k y s313 n => m_blackstart_path_b3 p0_n r102 k y s313.1 s313.2 n) (fun s313 => (m_blackstart_path_1 p1_a r102.1 p0_n).bind fun r410 => (m_blackstart_path_1 p2_b r102.1 p0_n).bind fun r412 => (m_graph_Path (p0_n.Nodes.length : Int) s313.1 r410 r412).bind fun r414 => if !decide (r414.2 = 0) then (some (([] : List ByteArray), false)) else (forI (fun k y s476 n => m_blackstart_path_b5 s313.2 k y s476 n) (fun s476 => some (s476, true)) 0 r414.1 ([] : List ByteArray))) (k108 + 1) zs318) = some r := hm
  generalize hn315 : forI (fun k y s313 n => m_blackstart_path_b3 p0_n r102 k y s313.1 s313.2 n) (fun s313 => (m_blackstart_path_1 p1_a r102.1 p0_n).bind fun r410 => (m_blackstart_path_1 p2_b r102.1 p0_n).bind fun r412 => (m_graph_Path (p0_n.Nodes.length : Int) s313.1 r410 r412).bind fun r414 => if !decide (r414.2 = 0) then (some (([] : List ByteArray), false)) else (forI (fun k y s476 n => m_blackstart_path_b5 s313.2 k y s476 n) (fun s476 => some (s476, true)) 0 r414.1 ([] : List ByteArray))) (k108 + 1) zs318 = nx314 at hm
  unfold m_blackstart_path_b3 at hm
  refine C_skip (E_then ?_)
  refine C_seq_join (fun H' M' L' => ∃ l363 : List S_A2_Int, ∃ l367 : List ByteArray, ∃ v361 : Value, ∃ xs362 : List Value, ∃ v365 : Value, ∃ xs366 : List Value, m_blackstart_path_b4 nx314 l363 l367 = some r ∧ Rw H' v361 xs362 l363 ∧ Rw H' v365 xs366 l367 ∧ H311.le H' ∧ .row v361 98 (Rep.sz S_A2_Int) l363.length xs362 :: .row v365 9 (Rep.sz ByteArray) l367.length xs366 :: .obj b107 (.cells [v104].toArray 42 (0, 0)) :: .row v104 3 (Rep.sz Int) r102.1.length xs105 :: .obj b101 (.cells [v0, v1, v2, v3, v4, v5].toArray 29 (0, 0)) :: M = M' ∧ [(1, .string (p1_a)), (2, .string (p2_b)), (3, .pointer (some ⟨b101, 0, none⟩)), (10, .func (.func 42) [].toArray [.pointer (some ⟨b107, 0, none⟩), .pointer (some ⟨b101, 0, none⟩)].toArray), (11, v361), (12, v365), (27, v1), (28, .int .i64 ((p0_n.Switches.length : Int))), (29, .int .i64 ((k108 : Int)))] = L') ?_ (fun J371 => ?_)
  ·rintro H369 _ _ ⟨l363, l367, v361, xs362, v365, xs366, hm, hr364, hr368, hle370, rfl, rfl⟩
   unfold m_blackstart_path_b4 at hm
   refine C_region ?_
   refine W_bin rfl rfl rfl rfl rfl ?_
   refine W_move rfl rfl rfl ?_
   refine W_end ?_
   exact E_keepJ (E_back (Nat.lt_succ_self _) ⟨k108 + 1, zs318, l363, l367, v361, xs362, v365, xs366, hd321, rfl, (by rw [hn315]; exact hm), hr364, hr368, (Hp.le_trans hle312 hle370), rfl, rfl⟩) (List.Perm.refl _) ⟨rfl, rfl, rfl, rfl, rfl, rfl, rfl, rfl, (congrArg (fun z => some (Value.int .i64 z)) (i64_succ hy319 ((h1.mono hle312)).lenMax)), trivial⟩
  ·refine C_block (C_seq (C_region ?_))
   obtain ⟨_, ⟨rfl⟩, hc372⟩ := (h1).elem hy319
   refine W_indexS rfl rfl runUnderlying23 sizeOf70 rfl (h1.mono hle312) rfl (Int.natCast_nonneg _) hy319 ?_
   refine W_loadAgg rfl rfl isAgg70 sizeOf70 rfl (hc372.mono hle312).at rfl ?_
   refine W_alloc (cs := [.string (⟨#[]⟩), .string (⟨#[]⟩), .string (⟨#[]⟩), .bool (false), .bool (false)]) rfl rfl zeroValue70 rfl (fun b373 => ?_)
   refine W_store (cs := [.string (y317.Name), .string (y317.A), .string (y317.B_), .bool (y317.Breaker), .bool (y317.Open)]) (out := [.string (y317.Name), .string (y317.A), .string (y317.B_), .bool (y317.Breaker), .bool (y317.Open)]) rfl sizeOf70 rfl rfl rfl rfl rfl (all_cons rfl (all_cons rfl (all_cons rfl (all_cons rfl (all_cons rfl all_nil))))) (over_all rfl) ?_
   refine W_end (E_then (C_seq (C_region ?_)))
   refine W_field (o := 4) rfl rfl runUnderlying70 rfl sizeOf4 rfl rfl rfl ?_
   refine W_load rfl rfl isAgg4 rfl (own_at (List.mem_cons_self ..) rfl) ?_
   refine W_end (E_then ?_)
   refine C_cond (b := y317.Open) rfl (fun hb374 => ?_) (fun hb374 => ?_)
   ·have hm := ite_t' hb374 hm
    refine C_seq ?_
    obtain ⟨r375, hc376, hm⟩ := bind_some hm
    obtain ⟨r377, hc378, hm⟩ := bind_some hm
    refine C_perm (List.Perm.trans (List.Perm.cons _ (List.Perm.cons _ (List.Perm.swap _ _ _))) (List.Perm.trans (List.Perm.cons _ (List.Perm.swap _ _ _)) (List.Perm.trans (List.Perm.swap _ _ _) (List.Perm.trans (List.Perm.cons _ (List.Perm.cons _ (List.Perm.cons _ (List.Perm.swap _ _ _)))) (List.Perm.trans (List.Perm.cons _ (List.Perm.cons _ (List.Perm.swap _ _ _))) (List.Perm.trans (List.Perm.cons _ (List.Perm.swap _ _ _)) (List.Perm.trans (List.Perm.cons _ (List.Perm.cons _ (List.Perm.cons _ (List.Perm.cons _ (List.Perm.swap _ _ _))))) (List.Perm.trans (List.Perm.cons _ (List.Perm.cons _ (List.Perm.cons _ (List.Perm.swap _ _ _)))) (List.Perm.cons _ (List.Perm.cons _ (List.Perm.swap _ _ _))))))))))) ?_
    refine C_as (M' := [[.obj b107 (.cells [v104].toArray 42 (0, 0))], [.row v104 3 (Rep.sz Int) r102.1.length xs105], [.obj b101 (.cells [v0, v1, v2, v3, v4, v5].toArray 29 (0, 0))]].flatten ++ (.obj b373 (.cells ([.string (y317.Name), .string (y317.A), .string (y317.B_), .bool (y317.Breaker), .bool (y317.Open)] : List Value).toArray 70 (0, 0)) :: .row v303 98 (Rep.sz S_A2_Int) l305.length xs304 :: .row v307 9 (Rep.sz ByteArray) l309.length xs308 :: M)) rfl ?_
    refine C_region_tok0 11 (phiT [(fun H rs v => [] = rs ∧ v303 = v), (fun H rs v => [] = rs ∧ .func (.func 42) [].toArray [.pointer (some ⟨b107, 0, none⟩), .pointer (some ⟨b101, 0, none⟩)].toArray = v), (fun H rs v => [] = rs ∧ .pointer (some ⟨b373, 1, none⟩) = v), (fun H rs v => [] = rs ∧ .string (y317.A) = v), (fun H rs v => [.row v104 3 (Rep.sz Int) r102.1.length xs105, .obj b107 (.cells [v104].toArray 42 (0, 0)), .obj b101 (.cells [v0, v1, v2, v3, v4, v5].toArray 29 (0, 0))] = rs ∧ .int .i64 (r375) = v), (fun H rs v => [] = rs ∧ .func (.func 42) [].toArray [.pointer (some ⟨b107, 0, none⟩), .pointer (some ⟨b101, 0, none⟩)].toArray = v), (fun H rs v => [] = rs ∧ .pointer (some ⟨b373, 2, none⟩) = v), (fun H rs v => [] = rs ∧ .string (y317.B_) = v), (fun H rs v => [.row v104 3 (Rep.sz Int) r102.1.length xs105, .obj b107 (.cells [v104].toArray 42 (0, 0)), .obj b101 (.cells [v0, v1, v2, v3, v4, v5].toArray 29 (0, 0))] = rs ∧ .int .i64 (r377) = v), (fun H rs v => [] = rs ∧ .agg [.int .i64 (r375), .int .i64 (r377)].toArray = v), (fun H rs v => ∃ v387 : Value, [] = rs ∧ v387 = v ∧ RdS H v387 ([(S_A2_Int.mk r375 r377)]) ∧ Value.cap' v387 = ([(S_A2_Int.mk r375 r377)]).length)]) [[], [], [], [], [13, 12, 11], [], [], [], [4], [], []] [[], [], [], [], [], [], [], [], [], [], []] [[.obj b107 (.cells [v104].toArray 42 (0, 0))], [.row v104 3 (Rep.sz Int) r102.1.length xs105], [.obj b101 (.cells [v0, v1, v2, v3, v4, v5].toArray 29 (0, 0))]] [0, 1, 2, 3, 5, 6, 7, 8, 9, 10] Facts.mixed (by kernel_rfl) (by rfl) (by rfl) (by rfl) (by kernel_rfl) (phiT_mono ⟨eq_monoT _ _, eq_monoT _ _, eq_monoT _ _, eq_monoT _ _, eq_monoT _ _, eq_monoT _ _, eq_monoT _ _, eq_monoT _ _, eq_monoT _ _, eq_monoT _ _, (by rintro H1 H2 rs v hle ⟨v387, rfl, rfl, h391, hc392⟩; exact ⟨v387, rfl, rfl, (h391.mono hle), (hc392)⟩), trivial⟩) ⟨?_, ?_, ?_, ?_, ?_, ?_, ?_, ?_, ?_, ?_, ?_, trivial⟩ ?_
    ·intro HX hX X Rest hR
     intro hU hUp
     refine W_move rfl rfl rfl ?_
     exact W_end (OneT_end [] (Hp.le_refl _) ⟨rfl, rfl⟩)
    ·intro HX hX X Rest hR
     intro hU hUp
     refine W_move rfl rfl rfl ?_
     exact W_end (OneT_end [] (Hp.le_refl _) ⟨rfl, rfl⟩)
    ·intro HX hX X Rest hR
     intro hU hUp
     refine W_field (o := 1) rfl rfl runUnderlying70 rfl sizeOf9 rfl rfl rfl ?_
     exact W_end (OneT_end [] (Hp.le_refl _) ⟨rfl, rfl⟩)
    ·intro HX hX X Rest hR
     rintro _ _ ⟨rfl, rfl⟩
     intro hU hUp
     refine W_load rfl rfl isAgg9 rfl (own_at (hR _ (List.mem_cons_self ..)) rfl) ?_
     exact W_end (OneT_end [] (Hp.le_refl _) ⟨rfl, rfl⟩)
    ·intro HX hX X Rest hR
     rintro _ _ ⟨rfl, rfl⟩
     rintro _ _ ⟨rfl, rfl⟩
     intro hU hUp
     refine W_as (M' := .obj b101 (.cells [v0, v1, v2, v3, v4, v5].toArray 29 (0, 0)) :: .row v104 3 (Rep.sz Int) r102.1.length xs105 :: .obj b107 (.cells [v104].toArray 42 (0, 0)) :: Rest) rfl ?_
     refine W_perm (List.Perm.trans (List.Perm.swap _ _ _) (List.Perm.cons _ (List.Perm.swap _ _ _))) ?_
     refine W_callv call42 rfl rfl rfl rfl (fun w ht => by obtain ⟨H0_, hl0_, ht0_, hr0_, bk0_⟩ := ht.lendRow ((h106.mono hle312).mono hX) rfl; have h := m_blackstart_path_1_c (hm := hc376) hr0_ (((h0.mono hle312).mono hX).mono hl0_) (((h1.mono hle312).mono hX).mono hl0_) (((h2.mono hle312).mono hX).mono hl0_) (((h3.mono hle312).mono hX).mono hl0_) (((h4.mono hle312).mono hX).mono hl0_) (((h5.mono hle312).mono hX).mono hl0_) ht0_; exact lend_back bk0_ (h)) ?_
     rintro _ _ _ ⟨rfl, ⟨_, rfl, rfl, rfl⟩⟩
     exact W_end (OneT_end [.row v104 3 (Rep.sz Int) r102.1.length xs105, .obj b107 (.cells [v104].toArray 42 (0, 0)), .obj b101 (.cells [v0, v1, v2, v3, v4, v5].toArray 29 (0, 0))] (Hp.le_refl _) ⟨rfl, rfl⟩)
    ·intro HX hX X Rest hR
     intro hU hUp
     refine W_move rfl rfl rfl ?_
     exact W_end (OneT_end [] (Hp.le_refl _) ⟨rfl, rfl⟩)
    ·intro HX hX X Rest hR
     intro hU hUp
     refine W_field (o := 2) rfl rfl runUnderlying70 rfl sizeOf9 rfl rfl rfl ?_
     exact W_end (OneT_end [] (Hp.le_refl _) ⟨rfl, rfl⟩)
    ·intro HX hX X Rest hR
     rintro _ _ ⟨rfl, rfl⟩
     intro hU hUp
     refine W_load rfl rfl isAgg9 rfl (own_at (hR _ (List.mem_cons_self ..)) rfl) ?_
     exact W_end (OneT_end [] (Hp.le_refl _) ⟨rfl, rfl⟩)
    ·intro HX hX X Rest hR
     rintro _ _ ⟨rfl, rfl⟩
     rintro _ _ ⟨rfl, rfl⟩
     rintro _ _ ⟨rfl, rfl⟩
     intro hU hUp
     refine W_as (M' := .row v104 3 (Rep.sz Int) r102.1.length xs105 :: .obj b107 (.cells [v104].toArray 42 (0, 0)) :: .obj b101 (.cells [v0, v1, v2, v3, v4, v5].toArray 29 (0, 0)) :: Rest) rfl ?_
     refine W_callv call42 rfl rfl rfl rfl (fun w ht => by obtain ⟨H0_, hl0_, ht0_, hr0_, bk0_⟩ := ht.lendRow ((h106.mono hle312).mono hX) rfl; have h := m_blackstart_path_1_c (hm := hc378) hr0_ (((h0.mono hle312).mono hX).mono hl0_) (((h1.mono hle312).mono hX).mono hl0_) (((h2.mono hle312).mono hX).mono hl0_) (((h3.mono hle312).mono hX).mono hl0_) (((h4.mono hle312).mono hX).mono hl0_) (((h5.mono hle312).mono hX).mono hl0_) ht0_; exact lend_back bk0_ (h)) ?_
     rintro _ _ _ ⟨rfl, ⟨_, rfl, rfl, rfl⟩⟩
     exact W_end (OneT_end [.row v104 3 (Rep.sz Int) r102.1.length xs105, .obj b107 (.cells [v104].toArray 42 (0, 0)), .obj b101 (.cells [v0, v1, v2, v3, v4, v5].toArray 29 (0, 0))] (Hp.le_refl _) ⟨rfl, rfl⟩)
    ·intro HX hX X Rest hR
     rintro _ _ ⟨rfl, rfl⟩
     rintro _ _ ⟨rfl, rfl⟩
     intro hU hUp
     refine W_buildArr (css := [[.int .i64 (r375)], [.int .i64 (r377)]]) (zs := [.int .i64 (0), .int .i64 (0)]) (out := [.int .i64 (r375), .int .i64 (r377)]) (places := [(0, 1), (1, 1)]) rfl rfl rfl ⟨rfl, rfl, trivial⟩ zeroValue98 rfl runUnderlying98 sizeOf3 rfl rfl ?_
     exact W_end (OneT_end [] (Hp.le_refl _) ⟨rfl, rfl⟩)
    ·intro HX hX X Rest hR
     rintro _ _ ⟨rfl, rfl⟩
     intro hU hUp
     refine W_buildSlice (α := S_A2_Int) (css := [[.int .i64 (r375), .int .i64 (r377)]]) (zs := [.int .i64 (0), .int .i64 (0)]) (out := [.int .i64 (r375), .int .i64 (r377)]) (ys := [(S_A2_Int.mk r375 r377)]) rfl rfl rfl ⟨rfl, trivial⟩ runUnderlying97 sizeOf98 rfl zeroValue98 (by kernel_rfl) rfl rfl rfl rfl ⟨[.int .i64 (r375), .int .i64 (r377)], [], rfl, rfl, rfl⟩ rfl ?_
     intro b386 v387 H388 hv389 hle390 h391
     have hc392 : Value.cap' v387 = ([(S_A2_Int.mk r375 r377)]).length := by rw [hv389]; rfl
     exact W_end (OneT_end [] hle390 ⟨v387, rfl, rfl, (h391), (hc392)⟩)
    intro H393 hle394
    rintro _ _ ⟨rfl, rfl⟩
    rintro _ _ ⟨rfl, rfl⟩
    rintro _ _ ⟨rfl, rfl⟩
    rintro _ _ ⟨rfl, rfl⟩
    rintro _ _ ⟨rfl, rfl⟩
    rintro _ _ ⟨rfl, rfl⟩
    rintro _ _ ⟨rfl, rfl⟩
    rintro _ _ ⟨rfl, rfl⟩
    rintro _ _ ⟨rfl, rfl⟩
    rintro _ _ ⟨rfl, rfl⟩
    rintro _ _ ⟨v387, rfl, rfl, h391, hc392⟩
    refine W_as (M' := .row v104 3 (Rep.sz Int) r102.1.length xs105 :: .obj b107 (.cells [v104].toArray 42 (0, 0)) :: .obj b101 (.cells [v0, v1, v2, v3, v4, v5].toArray 29 (0, 0)) :: .obj b373 (.cells ([.string (y317.Name), .string (y317.A), .string (y317.B_), .bool (y317.Breaker), .bool (y317.Open)] : List Value).toArray 70 (0, 0)) :: .row v303 98 (Rep.sz S_A2_Int) l305.length xs304 :: .row v307 9 (Rep.sz ByteArray) l309.length xs308 :: M) rfl ?_
    obtain ⟨hz395, hm⟩ := need_some hm
    refine W_perm (List.Perm.trans (List.Perm.cons _ (List.Perm.cons _ (List.Perm.cons _ (List.Perm.swap _ _ _)))) (List.Perm.trans (List.Perm.cons _ (List.Perm.cons _ (List.Perm.swap _ _ _))) (List.Perm.trans (List.Perm.cons _ (List.Perm.swap _ _ _)) (List.Perm.swap _ _ _)))) ?_
    refine W_appendO (α := S_A2_Int) (l := l305) (ys := [(S_A2_Int.mk r375 r377)]) rfl rfl underlying97 ⟨_, rfl, rfl, rfl, rfl⟩ rfl rfl rfl rfl rfl (hr306.mono hle394) h391 hz395 ?_
    intro v396 xs397 hr398
    refine W_assign rfl rfl rfl ?_
    refine W_end (E_then (C_region ?_))
    refine W_move rfl rfl rfl ?_
    refine W_field (o := 0) rfl rfl runUnderlying70 rfl sizeOf9 rfl rfl rfl ?_
    refine W_load rfl rfl isAgg9 rfl (own_at (List.mem_cons_of_mem _ (List.mem_cons_of_mem _ (List.mem_cons_of_mem _ (List.mem_cons_of_mem _ (List.mem_cons_self ..))))) rfl) ?_
    refine W_buildSlice (α := ByteArray) (css := [[.string (y317.Name)]]) (zs := [.string (⟨#[]⟩)]) (out := [.string (y317.Name)]) (ys := [y317.Name]) rfl rfl rfl ⟨rfl, trivial⟩ runUnderlying22 sizeOf9 rfl zeroValue9 (by kernel_rfl) rfl rfl rfl rfl ⟨[.string (y317.Name)], [], rfl, rfl, rfl⟩ rfl ?_
    intro b399 v400 H401 hv402 hle403 h404
    have hc405 : Value.cap' v400 = ([y317.Name]).length := by rw [hv402]; rfl
    obtain ⟨hz406, hm⟩ := need_some hm
    refine W_perm (List.Perm.trans (List.Perm.cons _ (List.Perm.cons _ (List.Perm.cons _ (List.Perm.cons _ (List.Perm.swap _ _ _))))) (List.Perm.trans (List.Perm.cons _ (List.Perm.cons _ (List.Perm.cons _ (List.Perm.swap _ _ _)))) (List.Perm.trans (List.Perm.cons _ (List.Perm.cons _ (List.Perm.swap _ _ _))) (List.Perm.trans (List.Perm.cons _ (List.Perm.swap _ _ _)) (List.Perm.swap _ _ _))))) ?_
    refine W_appendO (α := ByteArray) (l := l309) (ys := [y317.Name]) rfl rfl underlying22 ⟨_, rfl, rfl, rfl, rfl⟩ rfl rfl rfl rfl rfl ((hr310.mono hle394).mono hle403) h404 hz406 ?_
    intro v407 xs408 hr409
    refine W_assign rfl rfl rfl ?_
    refine W_end (E_normal_block ?_)
    refine E_drop (List.Sublist.cons_cons _ (List.Sublist.cons_cons _ (List.Sublist.cons_cons _ (List.Sublist.cons_cons _ (List.Sublist.cons_cons _ (List.Sublist.cons _ (List.Sublist.refl _))))))) ?_
    exact E_keepJ (J371 _ _ _ ⟨(l305 ++ ([(S_A2_Int.mk r375 r377)])), (l309 ++ ([y317.Name])), v396, xs397, v407, xs408, hm, (hr398.mono hle403), hr409, (Hp.le_trans hle394 hle403), rfl, rfl⟩) (List.Perm.trans (List.Perm.swap _ _ _) (List.Perm.cons _ (List.Perm.cons _ (List.Perm.swap _ _ _)))) ⟨rfl, rfl, rfl, rfl, rfl, rfl, rfl, rfl, rfl, trivial⟩
   ·have hm := ite_f' hb374 hm
    refine C_skip (E_normal_block ?_)
    refine E_drop (List.Sublist.cons _ (List.Sublist.refl _)) ?_
    exact E_keepJ (J371 _ _ _ ⟨l305, l309, v303, xs304, v307, xs308, hm, hr306, hr310, (Hp.le_refl _), rfl, rfl⟩) (List.Perm.refl _) ⟨rfl, rfl, rfl, rfl, rfl, rfl, rfl, rfl, rfl, trivial⟩
 ·obtain rfl := rng_f hd320 hb322
  have hm : ((m_blackstart_path_1 p1_a r102.1 p0_n).bind fun r410 => (m_blackstart_path_1 p2_b r102.1 p0_n).bind fun r412 => (m_graph_Path (p0_n.Nodes.length : Int) l305 r410 r412).bind fun r414 => if !decide (r414.2 = 0) then (some (([] : List ByteArray), false)) else (forI (fun k y s476 n => m_blackstart_path_b5 l309 k y s476 n) (fun s476 => some (s476, true)) 0 r414.1 ([] : List ByteArray))) = some r := hm
  refine C_exit (E_exit_then (E_exit_then (E_exit_hit (E_then (C_seq ?_)))))
  obtain ⟨r410, hc411, hm⟩ := bind_some hm
  obtain ⟨r412, hc413, hm⟩ := bind_some hm
  obtain ⟨r414, hc415, hm⟩ := bind_some hm
  refine C_perm (List.Perm.trans (List.Perm.cons _ (List.Perm.swap _ _ _)) (List.Perm.trans (List.Perm.swap _ _ _) (List.Perm.trans (List.Perm.cons _ (List.Perm.cons _ (List.Perm.swap _ _ _))) (List.Perm.trans (List.Perm.cons _ (List.Perm.swap _ _ _)) (List.Perm.trans (List.Perm.cons _ (List.Perm.cons _ (List.Perm.cons _ (List.Perm.swap _ _ _)))) (List.Perm.cons _ (List.Perm.cons _ (List.Perm.swap _ _ _)))))))) ?_
  refine C_as (M' := [[.obj b107 (.cells [v104].toArray 42 (0, 0))], [.row v104 3 (Rep.sz Int) r102.1.length xs105], [.obj b101 (.cells [v0, v1, v2, v3, v4, v5].toArray 29 (0, 0))], [.row v303 98 (Rep.sz S_A2_Int) l305.length xs304]].flatten ++ (.row v307 9 (Rep.sz ByteArray) l309.length xs308 :: M)) rfl ?_
  refine C_region_tok0 15 (phiT [(fun H rs v => [] = rs ∧ .pointer (some ⟨b101, 0, none⟩) = v), (fun H rs v => [] = rs ∧ v0 = v), (fun H rs v => [] = rs ∧ .int .i64 ((p0_n.Nodes.length : Int)) = v), (fun H rs v => [] = rs ∧ v303 = v), (fun H rs v => [] = rs ∧ .func (.func 42) [].toArray [.pointer (some ⟨b107, 0, none⟩), .pointer (some ⟨b101, 0, none⟩)].toArray = v), (fun H rs v => [] = rs ∧ .string (p1_a) = v), (fun H rs v => [] = rs ∧ .int .i64 (r410) = v), (fun H rs v => [] = rs ∧ .func (.func 42) [].toArray [.pointer (some ⟨b107, 0, none⟩), .pointer (some ⟨b101, 0, none⟩)].toArray = v), (fun H rs v => [] = rs ∧ .string (p2_b) = v), (fun H rs v => [] = rs ∧ .int .i64 (r412) = v), (fun H rs v => ∃ v419 : Value, ∃ xs420 : List Value, [.row v419 3 (Rep.sz Int) r414.1.length xs420] = rs ∧ .tuple #[v419, .int .i64 (r414.2)] = v ∧ Rw H v419 xs420 r414.1), (fun H rs v => ∃ v419 : Value, ∃ xs420 : List Value, [.row v419 3 (Rep.sz Int) r414.1.length xs420] = rs ∧ .tuple #[v419, .int .i64 (r414.2)] = v ∧ Rw H v419 xs420 r414.1), (fun H rs v => ∃ v419 : Value, ∃ xs420 : List Value, [.row v419 3 (Rep.sz Int) r414.1.length xs420] = rs ∧ v419 = v ∧ Rw H v419 xs420 r414.1), (fun H rs v => [] = rs ∧ .int .i64 (r414.2) = v), (fun H rs v => ∃ v419 : Value, ∃ xs420 : List Value, [.row v419 3 (Rep.sz Int) r414.1.length xs420] = rs ∧ v419 = v ∧ Rw H v419 xs420 r414.1)]) [[], [], [], [], [], [], [], [], [], [], [], [10], [11], [], [12]] [[], [17], [], [], [], [], [17, 16, 15], [], [], [17, 16, 15], [18], [], [], [], []] [[.obj b107 (.cells [v104].toArray 42 (0, 0))], [.row v104 3 (Rep.sz Int) r102.1.length xs105], [.obj b101 (.cells [v0, v1, v2, v3, v4, v5].toArray 29 (0, 0))], [.row v303 98 (Rep.sz S_A2_Int) l305.length xs304]] [0, 1, 2, 3, 4, 5, 6, 7, 8, 9, 13, 14, 15, 16, 17, 18] Facts.mixed (by kernel_rfl) (by rfl) (by rfl) (by rfl) (by kernel_rfl) (phiT_mono ⟨eq_monoT _ _, eq_monoT _ _, eq_monoT _ _, eq_monoT _ _, eq_monoT _ _, eq_monoT _ _, eq_monoT _ _, eq_monoT _ _, eq_monoT _ _, eq_monoT _ _, (by rintro H1 H2 rs v hle ⟨v419, xs420, rfl, rfl, h421⟩; exact ⟨v419, xs420, rfl, rfl, (h421.mono hle)⟩), (by rintro H1 H2 rs v hle ⟨v419, xs420, rfl, rfl, h421⟩; exact ⟨v419, xs420, rfl, rfl, (h421.mono hle)⟩), (by rintro H1 H2 rs v hle ⟨v419, xs420, rfl, rfl, h421⟩; exact ⟨v419, xs420, rfl, rfl, (h421.mono hle)⟩), eq_monoT _ _, (by rintro H1 H2 rs v hle ⟨v419, xs420, rfl, rfl, h421⟩; exact ⟨v419, xs420, rfl, rfl, (h421.mono hle)⟩), trivial⟩) ⟨?_, ?_, ?_, ?_, ?_, ?_, ?_, ?_, ?_, ?_, ?_, ?_, ?_, ?_, ?_, trivial⟩ ?_
  ·intro HX hX X Rest hR
   intro hU hUp
   refine W_field (o := 0) rfl rfl runUnderlying29 rfl sizeOf22 rfl rfl rfl ?_
   exact W_end (OneT_end [] (Hp.le_refl _) ⟨rfl, rfl⟩)
  ·intro HX hX X Rest hR
   rintro _ _ ⟨rfl, rfl⟩
   intro hU hUp
   have hU2 : ∀ s ∈ [.obj b101 (.cells [v0, v1, v2, v3, v4, v5].toArray 29 (0, 0))], s ∈ Rest := hU
   refine W_load rfl rfl isAgg22 rfl (own_at (hU2 _ (List.mem_cons_self ..)) rfl) ?_
   exact W_end (OneT_end [] (Hp.le_refl _) ⟨rfl, rfl⟩)
  ·intro HX hX X Rest hR
   rintro _ _ ⟨rfl, rfl⟩
   intro hU hUp
   refine W_lenR rfl rfl runUnderlying22 rfl ((h0.mono hle312).mono hX) ?_
   exact W_end (OneT_end [] (Hp.le_refl _) ⟨rfl, rfl⟩)
  ·intro HX hX X Rest hR
   intro hU hUp
   refine W_move rfl rfl rfl ?_
   exact W_end (OneT_end [] (Hp.le_refl _) ⟨rfl, rfl⟩)
  ·intro HX hX X Rest hR
   intro hU hUp
   refine W_move rfl rfl rfl ?_
   exact W_end (OneT_end [] (Hp.le_refl _) ⟨rfl, rfl⟩)
  ·intro HX hX X Rest hR
   intro hU hUp
   refine W_move rfl rfl rfl ?_
   exact W_end (OneT_end [] (Hp.le_refl _) ⟨rfl, rfl⟩)
  ·intro HX hX X Rest hR
   rintro _ _ ⟨rfl, rfl⟩
   rintro _ _ ⟨rfl, rfl⟩
   rintro hU ⟨Rr, hUp⟩
   have hUq : (.obj b101 (.cells [v0, v1, v2, v3, v4, v5].toArray 29 (0, 0)) :: .row v104 3 (Rep.sz Int) r102.1.length xs105 :: .obj b107 (.cells [v104].toArray 42 (0, 0)) :: Rr).Perm Rest := hUp
   have hR2 : ∀ s ∈ _, s ∈ .obj b101 (.cells [v0, v1, v2, v3, v4, v5].toArray 29 (0, 0)) :: .row v104 3 (Rep.sz Int) r102.1.length xs105 :: .obj b107 (.cells [v104].toArray 42 (0, 0)) :: Rr := fun s hs => hUq.mem_iff.2 (hR s hs)
   refine W_perm (M' := .obj b101 (.cells [v0, v1, v2, v3, v4, v5].toArray 29 (0, 0)) :: .row v104 3 (Rep.sz Int) r102.1.length xs105 :: .obj b107 (.cells [v104].toArray 42 (0, 0)) :: Rr) (List.Perm.append_left [] hUq.symm) ?_
   refine W_perm (List.Perm.trans (List.Perm.swap _ _ _) (List.Perm.cons _ (List.Perm.swap _ _ _))) ?_
   refine W_callv call42 rfl rfl rfl rfl (fun w ht => by obtain ⟨H0_, hl0_, ht0_, hr0_, bk0_⟩ := ht.lendRow ((h106.mono hle312).mono hX) rfl; have h := m_blackstart_path_1_c (hm := hc411) hr0_ (((h0.mono hle312).mono hX).mono hl0_) (((h1.mono hle312).mono hX).mono hl0_) (((h2.mono hle312).mono hX).mono hl0_) (((h3.mono hle312).mono hX).mono hl0_) (((h4.mono hle312).mono hX).mono hl0_) (((h5.mono hle312).mono hX).mono hl0_) ht0_; exact lend_back bk0_ (h)) ?_
   rintro _ _ _ ⟨rfl, ⟨_, rfl, rfl, rfl⟩⟩
   refine W_perm (List.Perm.trans (List.Perm.cons _ (List.Perm.swap _ _ _)) (List.Perm.swap _ _ _)) ?_
   refine W_perm hUq ?_
   exact W_end (OneT_end [] (Hp.le_refl _) ⟨rfl, rfl⟩)
  ·intro HX hX X Rest hR
   intro hU hUp
   refine W_move rfl rfl rfl ?_
   exact W_end (OneT_end [] (Hp.le_refl _) ⟨rfl, rfl⟩)
  ·intro HX hX X Rest hR
   intro hU hUp
   refine W_move rfl rfl rfl ?_
   exact W_end (OneT_end [] (Hp.le_refl _) ⟨rfl, rfl⟩)
  ·intro HX hX X Rest hR
   rintro _ _ ⟨rfl, rfl⟩
   rintro _ _ ⟨rfl, rfl⟩
   rintro _ _ ⟨rfl, rfl⟩
   rintro hU ⟨Rr, hUp⟩
   have hUq : (.obj b101 (.cells [v0, v1, v2, v3, v4, v5].toArray 29 (0, 0)) :: .row v104 3 (Rep.sz Int) r102.1.length xs105 :: .obj b107 (.cells [v104].toArray 42 (0, 0)) :: Rr).Perm Rest := hUp
   have hR2 : ∀ s ∈ _, s ∈ .obj b101 (.cells [v0, v1, v2, v3, v4, v5].toArray 29 (0, 0)) :: .row v104 3 (Rep.sz Int) r102.1.length xs105 :: .obj b107 (.cells [v104].toArray 42 (0, 0)) :: Rr := fun s hs => hUq.mem_iff.2 (hR s hs)
   refine W_perm (M' := .obj b101 (.cells [v0, v1, v2, v3, v4, v5].toArray 29 (0, 0)) :: .row v104 3 (Rep.sz Int) r102.1.length xs105 :: .obj b107 (.cells [v104].toArray 42 (0, 0)) :: Rr) (List.Perm.append_left [] hUq.symm) ?_
   refine W_perm (List.Perm.trans (List.Perm.swap _ _ _) (List.Perm.cons _ (List.Perm.swap _ _ _))) ?_
   refine W_callv call42 rfl rfl rfl rfl (fun w ht => by obtain ⟨H0_, hl0_, ht0_, hr0_, bk0_⟩ := ht.lendRow ((h106.mono hle312).mono hX) rfl; have h := m_blackstart_path_1_c (hm := hc413) hr0_ (((h0.mono hle312).mono hX).mono hl0_) (((h1.mono hle312).mono hX).mono hl0_) (((h2.mono hle312).mono hX).mono hl0_) (((h3.mono hle312).mono hX).mono hl0_) (((h4.mono hle312).mono hX).mono hl0_) (((h5.mono hle312).mono hX).mono hl0_) ht0_; exact lend_back bk0_ (h)) ?_
   rintro _ _ _ ⟨rfl, ⟨_, rfl, rfl, rfl⟩⟩
   refine W_perm (List.Perm.trans (List.Perm.cons _ (List.Perm.swap _ _ _)) (List.Perm.swap _ _ _)) ?_
   refine W_perm hUq ?_
   exact W_end (OneT_end [] (Hp.le_refl _) ⟨rfl, rfl⟩)
  ·intro HX hX X Rest hR
   rintro _ _ ⟨rfl, rfl⟩
   rintro _ _ ⟨rfl, rfl⟩
   rintro _ _ ⟨rfl, rfl⟩
   rintro _ _ ⟨rfl, rfl⟩
   rintro _ _ ⟨rfl, rfl⟩
   rintro hU ⟨Rr, hUp⟩
   have hUq : (.row v303 98 (Rep.sz S_A2_Int) l305.length xs304 :: Rr).Perm Rest := hUp
   have hR2 : ∀ s ∈ _, s ∈ .row v303 98 (Rep.sz S_A2_Int) l305.length xs304 :: Rr := fun s hs => hUq.mem_iff.2 (hR s hs)
   refine W_perm (M' := .row v303 98 (Rep.sz S_A2_Int) l305.length xs304 :: Rr) (List.Perm.append_left [] hUq.symm) ?_
   refine W_call call43 rfl rfl rfl (fun w ht => by obtain ⟨H0_, hl0_, ht0_, hr0_, bk0_⟩ := ht.lendRow (hr306.mono hX) rfl; have h := m_graph_Path_c (hm := hc415) hr0_ ht0_; exact lend_back bk0_ (h)) ?_
   rintro _ _ _ ⟨rfl, ⟨_, rfl, v419, xs420, rfl, rfl, h421⟩⟩
   have h421 := h421 HX
   refine W_perm (List.Perm.swap _ _ _) ?_
   refine W_perm (List.Perm.cons _ hUq) ?_
   exact W_end (OneT_end [.row v419 3 (Rep.sz Int) r414.1.length xs420] (Hp.le_refl _) ⟨v419, xs420, rfl, rfl, (h421)⟩)
  ·intro HX hX X Rest hR
   rintro _ _ ⟨v419, xs420, rfl, rfl, h421⟩
   intro hU hUp
   refine W_as (M' := .row v419 3 (Rep.sz Int) r414.1.length xs420 :: Rest) rfl ?_
   refine W_move rfl rfl rfl ?_
   exact W_end (OneT_end [.row v419 3 (Rep.sz Int) r414.1.length xs420] (Hp.le_refl _) ⟨v419, xs420, rfl, rfl, (h421)⟩)
  ·intro HX hX X Rest hR
   rintro _ _ ⟨v419, xs420, rfl, rfl, h421⟩
   intro hU hUp
   refine W_as (M' := .row v419 3 (Rep.sz Int) r414.1.length xs420 :: Rest) rfl ?_
   refine W_extract rfl rfl rfl rfl ?_
   exact W_end (OneT_end [.row v419 3 (Rep.sz Int) r414.1.length xs420] (Hp.le_refl _) ⟨v419, xs420, rfl, rfl, (h421)⟩)
  ·intro HX hX X Rest hR
   rintro _ _ ⟨v419, xs420, rfl, rfl, h421⟩
   intro hU hUp
   refine W_extract rfl rfl rfl rfl ?_
   exact W_end (OneT_end [] (Hp.le_refl _) ⟨rfl, rfl⟩)
  ·intro HX hX X Rest hR
   rintro _ _ ⟨v419, xs420, rfl, rfl, h421⟩
   rintro _ _ ⟨v419, xs420, rfl, rfl, h421⟩
   rintro _ _ ⟨rfl, rfl⟩
   rintro _ _ ⟨rfl, rfl⟩
   rintro _ _ ⟨rfl, rfl⟩
   rintro _ _ ⟨rfl, rfl⟩
   rintro _ _ ⟨rfl, rfl⟩
   rintro _ _ ⟨rfl, rfl⟩
   rintro _ _ ⟨rfl, rfl⟩
   rintro _ _ ⟨rfl, rfl⟩
   rintro _ _ ⟨rfl, rfl⟩
   rintro _ _ ⟨rfl, rfl⟩
   rintro _ _ ⟨v419, xs420, rfl, rfl, h421⟩
   rintro _ _ ⟨v419, xs420, rfl, rfl, h421⟩
   rintro _ _ ⟨v419, xs420, rfl, rfl, h421⟩
   intro hU hUp
   refine W_as (M' := .row v419 3 (Rep.sz Int) r414.1.length xs420 :: Rest) rfl ?_
   refine W_assign rfl rfl rfl ?_
   exact W_end (OneT_end [.row v419 3 (Rep.sz Int) r414.1.length xs420] (Hp.le_refl _) ⟨v419, xs420, rfl, rfl, (h421)⟩)
  intro H422 hle423
  rintro _ _ ⟨rfl, rfl⟩
  rintro _ _ ⟨rfl, rfl⟩
  rintro _ _ ⟨rfl, rfl⟩
  rintro _ _ ⟨rfl, rfl⟩
  rintro _ _ ⟨rfl, rfl⟩
  rintro _ _ ⟨rfl, rfl⟩
  rintro _ _ ⟨rfl, rfl⟩
  rintro _ _ ⟨rfl, rfl⟩
  rintro _ _ ⟨rfl, rfl⟩
  rintro _ _ ⟨rfl, rfl⟩
  rintro _ _ ⟨v419, xs420, rfl, rfl, h421⟩
  rintro _ _ ⟨v419, xs420, rfl, rfl, h421⟩
  rintro _ _ ⟨v419, xs420, rfl, rfl, h421⟩
  rintro _ _ ⟨rfl, rfl⟩
  rintro _ _ ⟨v419, xs420, rfl, rfl, h421⟩
  refine W_as (M' := .row v419 3 (Rep.sz Int) r414.1.length xs420 :: .obj b107 (.cells [v104].toArray 42 (0, 0)) :: .row v104 3 (Rep.sz Int) r102.1.length xs105 :: .obj b101 (.cells [v0, v1, v2, v3, v4, v5].toArray 29 (0, 0)) :: .row v303 98 (Rep.sz S_A2_Int) l305.length xs304 :: .row v307 9 (Rep.sz ByteArray) l309.length xs308 :: M) rfl ?_
  refine W_assign rfl rfl rfl ?_
  refine W_end (E_then (C_seq (C_seq (C_region ?_))))
  refine W_move rfl rfl rfl ?_
  refine W_bin rfl rfl rfl rfl rfl ?_
  refine W_end (E_then ?_)
  refine C_cond (b := !decide (r414.2 = 0)) rfl (fun hb424 => ?_) (fun hb424 => ?_)
  ·have hm := ite_t' hb424 hm
   refine C_seq (C_region ?_)
   refine W_assign rfl rfl rfl ?_
   refine W_assign rfl rfl rfl ?_
   refine W_end (E_then (C_ret (E_ret_then ?_)))
   refine E_nilRow 9 (Rep.sz ByteArray) ?_
   obtain rfl := Option.some.inj hm
   refine E_drop (List.Sublist.cons_cons _ (List.Sublist.cons _ (List.Sublist.cons _ (List.Sublist.cons _ (List.Sublist.cons _ (List.Sublist.cons _ (List.Sublist.cons _ (List.Sublist.refl _)))))))) ?_
   refine E_weak (Hp.le_trans hle312 hle423) ?_
   exact end2 rfl rfl rfl ⟨rfl, (.slice none 0 0), [], rfl, rfl, (Rw.nil (H := H)).toF⟩
  ·have hm := ite_f' hb424 hm
   refine C_skip (E_then (C_seq (C_region ?_)))
   refine W_assign rfl rfl rfl ?_
   refine W_end (E_then (C_seq (C_seq (C_region ?_))))
   refine W_move rfl rfl rfl ?_
   refine W_lenO (List.mem_cons_self ..) rfl rfl runUnderlying42 rfl ?_
   refine W_move rfl rfl rfl ?_
   refine W_end (E_then (C_block ?_))
   refine C_rowMax (List.mem_cons_self ..) (fun hmx480 => ?_)
   refine C_nilRow 9 (Rep.sz ByteArray) ?_
   refine C_drop (List.Sublist.cons_cons _ (List.Sublist.cons_cons _ (List.Sublist.cons _ (List.Sublist.cons _ (List.Sublist.cons _ (List.Sublist.cons _ (List.Sublist.refl _))))))) ?_
   refine C_keep (L' := [(12, v307), (17, (.slice none 0 0)), (69, v419), (70, .int .i64 ((r414.1.length : Int))), (71, .int .i64 (((0 : Nat) : Int)))]) ⟨rfl, rfl, rfl, rfl, rfl, trivial⟩ (List.Perm.refl _) ?_
   refine C_loop (fun n H' M' L' => ∃ (k425 : Nat) (zs482' : List Int), ∃ l472 : List ByteArray, ∃ v470 : Value, ∃ xs471 : List Value, (r414.1).drop k425 = zs482' ∧ zs482'.length = n ∧ forI (fun k y s476 n => m_blackstart_path_b5 l309 k y s476 n) (fun s476 => some (s476, true)) k425 zs482' l472 = some r ∧ Rw H' v470 xs471 l472 ∧ H422.le H' ∧ .row v470 9 (Rep.sz ByteArray) l472.length xs471 :: .row v419 3 (Rep.sz Int) r414.1.length xs420 :: .row v307 9 (Rep.sz ByteArray) l309.length xs308 :: M = M' ∧ [(12, v307), (17, v470), (69, v419), (70, .int .i64 ((r414.1.length : Int))), (71, .int .i64 ((k425 : Int)))] = L') _ ⟨0, _, ([] : List ByteArray), (.slice none 0 0), ([]), rfl, rfl, hm, Rw.nil, (Hp.le_refl _), rfl, rfl⟩ ?_
   rintro _ H474 _ _ ⟨k425, zs482', l472, v470, xs471, hd484, rfl, hm, hr473, hle475, rfl, rfl⟩
   refine C_seq (C_region ?_)
   refine W_bin rfl rfl rfl rfl rfl ?_
   refine W_end (E_then (C_seq ?_))
   refine C_cond (b := decide ((k425 : Int) < (r414.1.length : Int))) rfl (fun hb486 => ?_) (fun hb486 => ?_)
   ·obtain ⟨y481, zs482, rfl, hy483, hd485⟩ := rng_t hd484 hb486
    have hm : m_blackstart_path_b5 l309 k425 y481 l472 (forI (fun k y s476 n => m_blackstart_path_b5 l309 k y s476 n) (fun s476 => some (s476, true)) (k425 + 1) zs482) = some r := hm
    generalize hn478 : forI (fun k y s476 n => m_blackstart_path_b5 l309 k y s476 n) (fun s476 => some (s476, true)) (k425 + 1) zs482 = nx477 at hm
    unfold m_blackstart_path_b5 at hm
    refine C_skip (E_then (C_seq (C_block (C_seq (C_region ?_)))))
    refine W_indexO (List.mem_cons_of_mem _ (List.mem_cons_self ..)) rfl rfl runUnderlying42 sizeOf3 rfl rfl (Int.natCast_nonneg _) (List.getElem?_eq_some_iff.1 hy483).1 ?_
    obtain ⟨_, rfl, hg487⟩ := (h421).elem hy483
    refine W_load rfl rfl isAgg3 rfl (row_one0 (List.mem_cons_of_mem _ (List.mem_cons_self ..)) hg487 rfl) ?_
    refine W_assign rfl rfl rfl ?_
    refine W_end (E_then (C_region ?_))
    refine W_move rfl rfl rfl ?_
    refine W_move rfl rfl rfl ?_
    refine W_move rfl rfl rfl ?_
    obtain ⟨y488, h489, he490, hm⟩ := idx_some hm
    refine W_indexO (List.mem_cons_of_mem _ (List.mem_cons_of_mem _ (List.mem_cons_self ..))) rfl rfl runUnderlying22 sizeOf9 rfl rfl h489 (List.getElem?_eq_some_iff.1 he490).1 ?_
    obtain ⟨_, rfl, hg491⟩ := (hr310).elem he490
    refine W_load rfl rfl isAgg9 rfl (row_one0 (List.mem_cons_of_mem _ (List.mem_cons_of_mem _ (List.mem_cons_self ..))) hg491 rfl) ?_
    refine W_buildSlice (α := ByteArray) (css := [[.string (y488)]]) (zs := [.string (⟨#[]⟩)]) (out := [.string (y488)]) (ys := [y488]) rfl rfl rfl ⟨rfl, trivial⟩ runUnderlying22 sizeOf9 rfl zeroValue9 (by kernel_rfl) rfl rfl rfl rfl ⟨[.string (y488)], [], rfl, rfl, rfl⟩ rfl ?_
    intro b492 v493 H494 hv495 hle496 h497
    have hc498 : Value.cap' v493 = ([y488]).length := by rw [hv495]; rfl
    obtain ⟨hz499, hm⟩ := need_some hm
    refine W_appendO (α := ByteArray) (l := l472) (ys := [y488]) rfl rfl underlying22 ⟨_, rfl, rfl, rfl, rfl⟩ rfl rfl rfl rfl rfl (hr473.mono hle496) h497 hz499 ?_
    intro v500 xs501 hr502
    refine W_assign rfl rfl rfl ?_
    refine W_end (E_normal_block (E_then (C_region ?_)))
    refine W_bin rfl rfl rfl rfl rfl ?_
    refine W_move rfl rfl rfl ?_
    refine W_end ?_
    exact E_keepJ (E_back (Nat.lt_succ_self _) ⟨k425 + 1, zs482, (l472 ++ ([y488])), v500, xs501, hd485, rfl, (by rw [hn478]; exact hm), hr502, (Hp.le_trans hle475 hle496), rfl, rfl⟩) (List.Perm.refl _) ⟨rfl, rfl, rfl, rfl, (congrArg (fun z => some (Value.int .i64 z)) (i64_succ hy483 hmx480)), trivial⟩
   ·obtain rfl := rng_f hd484 hb486
    have hm : (some (l472, true)) = some r := hm
    refine C_exit (E_exit_then (E_exit_then (E_exit_hit (E_then (C_seq (C_region ?_))))))
    refine W_move rfl rfl rfl ?_
    refine W_assign rfl rfl rfl ?_
    refine W_assign rfl rfl rfl ?_
    refine W_end (E_then (C_ret ?_))
    obtain rfl := Option.some.inj hm
    refine E_drop (List.Sublist.cons_cons _ (List.Sublist.cons _ (List.Sublist.cons _ (List.Sublist.refl _)))) ?_
    refine E_weak (Hp.le_trans (Hp.le_trans hle312 hle423) hle475) ?_
    exact end2 rfl rfl rfl ⟨rfl, v470, xs471, rfl, rfl, (hr473).toF⟩

theorem m_blackstart_closeSwitch_1_c {B : Nat} {w0 w : World} {H : Hp} {M : List Res} {p0_s : S_api_Switch} {p1_c1 : ByteArray} {b0 : Nat} {r : Bool} (hm : m_blackstart_closeSwitch_1 p0_s p1_c1 = r) (ht : St B w0 H (.obj b0 (.cells ([.string (p1_c1)] : List Value).toArray 9 (0, 0)) :: M) w) :
  Calls prog 47 [.agg [.string (p0_s.Name), .string (p0_s.A), .string (p0_s.B_), .bool (p0_s.Breaker), .bool (p0_s.Open)].toArray, .pointer (some ⟨b0, 0, none⟩)].toArray w (Ret B w0 fun H' M' v => H = H' ∧ .obj b0 (.cells ([.string (p1_c1)] : List Value).toArray 9 (0, 0)) :: M = M' ∧ .bool (r) = v) := by
 unfold m_blackstart_closeSwitch_1 at hm
 refine enter func47 rfl rfl rfl ht ?_
 refine C_seq (C_region ?_)
 refine W_box (cs := [.string (p0_s.Name), .string (p0_s.A), .string (p0_s.B_), .bool (p0_s.Breaker), .bool (p0_s.Open)]) rfl rfl rfl rfl (fun b101 => ?_)
 refine W_assign rfl rfl rfl ?_
 refine W_end (E_then (C_seq (C_region ?_)))
 refine W_field (o := 0) rfl rfl runUnderlying70 rfl sizeOf9 rfl rfl rfl ?_
 refine W_load rfl rfl isAgg9 rfl (own_at (List.mem_cons_self ..) rfl) ?_
 refine W_load rfl rfl isAgg9 rfl (own_at (List.mem_cons_of_mem _ (List.mem_cons_self ..)) rfl) ?_
 refine W_bin rfl rfl rfl rfl rfl ?_
 refine W_assign rfl rfl rfl ?_
 refine W_end (E_then (C_ret ?_))
 obtain rfl := hm
 refine E_drop (List.Sublist.cons _ (List.Sublist.refl _)) ?_
 refine E_weak (Hp.le_refl _) ?_
 exact end1 rfl rfl ⟨rfl, rfl, rfl⟩

theorem m_slices_IndexFunc_api_Switch_api_Switch__blackstart_closeSwitch_1_c {B : Nat} {w0 w : World} {H : Hp} {M : List Res} {p0_s : (List S_api_Switch)} {p1_f_0 : ByteArray} {v0 : Value} {b0 : Nat} {r : Int} (hm : m_slices_IndexFunc_api_Switch_api_Switch__blackstart_closeSwitch_1 p0_s p1_f_0 = some r) (h0 : RdS H v0 p0_s) (ht : St B w0 H (.obj b0 (.cells ([.string (p1_f_0)] : List Value).toArray 9 (0, 0)) :: M) w) :
  Calls prog 46 [v0, .func (.func 47) [].toArray [.pointer (some ⟨b0, 0, none⟩)].toArray].toArray w (Ret B w0 fun H' M' v => H = H' ∧ .obj b0 (.cells ([.string (p1_f_0)] : List Value).toArray 9 (0, 0)) :: M = M' ∧ .int .i64 (r) = v) := by
 unfold m_slices_IndexFunc_api_Switch_api_Switch__blackstart_closeSwitch_1 at hm
 refine enter func46 rfl rfl rfl ht ?_
 refine C_seq (C_region ?_)
 refine W_assign rfl rfl rfl ?_
 refine W_end (E_then (C_seq (C_seq (C_region ?_))))
 refine W_move rfl rfl rfl ?_
 refine W_lenR rfl rfl runUnderlying23 rfl h0 ?_
 refine W_move rfl rfl rfl ?_
 refine W_end (E_then (C_block ?_))
 refine C_keep (L' := [(0, v0), (1, .func (.func 47) [].toArray [.pointer (some ⟨b0, 0, none⟩)].toArray), (7, .int .i64 ((p0_s.length : Int))), (8, .int .i64 (((0 : Nat) : Int)))]) ⟨rfl, rfl, rfl, rfl, trivial⟩ (List.Perm.refl _) ?_
 refine C_loop (fun n H' M' L' => ∃ (k101 : Nat) (zs119' : Nat), k101 + zs119' = ((p0_s.length : Int) : Int).toNat ∧ zs119' = n ∧ forN (fun k s114 n => m_slices_IndexFunc_api_Switch_api_Switch__blackstart_closeSwitch_1_b1 p0_s p1_f_0 k n) (fun _ => some (-1)) zs119' k101 () = some r ∧ H.le H' ∧ .obj b0 (.cells ([.string (p1_f_0)] : List Value).toArray 9 (0, 0)) :: M = M' ∧ [(0, v0), (1, .func (.func 47) [].toArray [.pointer (some ⟨b0, 0, none⟩)].toArray), (7, .int .i64 ((p0_s.length : Int))), (8, .int .i64 ((k101 : Int)))] = L') _ ⟨0, _, Nat.zero_add _, rfl, hm, (Hp.le_refl _), rfl, rfl⟩ ?_
 rintro _ H112 _ _ ⟨k101, zs119', hd121, rfl, hm, hle113, rfl, rfl⟩
 refine C_seq (C_region ?_)
 refine W_bin rfl rfl rfl rfl rfl ?_
 refine W_end (E_then (C_seq ?_))
 refine C_cond (b := decide ((k101 : Int) < (p0_s.length : Int))) rfl (fun hb123 => ?_) (fun hb123 => ?_)
 ·obtain ⟨zs119, rfl, hd122, hy120⟩ := rngN_t hd121 hb123
  have hm : m_slices_IndexFunc_api_Switch_api_Switch__blackstart_closeSwitch_1_b1 p0_s p1_f_0 k101 (forN (fun k s114 n => m_slices_IndexFunc_api_Switch_api_Switch__blackstart_closeSwitch_1_b1 p0_s p1_f_0 k n) (fun _ => some (-1)) zs119 (k101 + 1)) = some r := hm
  generalize hn116 : forN (fun k s114 n => m_slices_IndexFunc_api_Switch_api_Switch__blackstart_closeSwitch_1_b1 p0_s p1_f_0 k n) (fun _ => some (-1)) zs119 (k101 + 1) = nx115 at hm
  unfold m_slices_IndexFunc_api_Switch_api_Switch__blackstart_closeSwitch_1_b1 at hm
  refine C_skip (E_then (C_seq (C_block (C_seq (C_region ?_)))))
  refine W_move rfl rfl rfl ?_
  refine W_assign rfl rfl rfl ?_
  refine W_end (E_then (C_seq (C_region ?_)))
  refine W_move rfl rfl rfl ?_
  refine W_move rfl rfl rfl ?_
  refine W_move rfl rfl rfl ?_
  obtain ⟨y124, h125, he126, hm⟩ := idx_some hm
  obtain ⟨_, ⟨rfl⟩, hc127⟩ := (h0).elem he126
  refine W_indexS rfl rfl runUnderlying23 sizeOf70 rfl (h0.mono hle113) rfl h125 he126 ?_
  refine W_loadAgg rfl rfl isAgg70 sizeOf70 rfl (hc127.mono hle113).at rfl ?_
  refine W_callv call47 rfl rfl rfl rfl (fun w ht => by have h := m_blackstart_closeSwitch_1_c (hm := (rfl : m_blackstart_closeSwitch_1 y124 p1_f_0 = _))  ht; exact h) ?_
  rintro _ _ _ ⟨rfl, rfl, rfl⟩
  refine W_end (E_then ?_)
  refine C_cond (b := (m_blackstart_closeSwitch_1 y124 p1_f_0)) rfl (fun hb128 => ?_) (fun hb128 => ?_)
  ·have hm := ite_t' hb128 hm
   refine C_seq (C_region ?_)
   refine W_move rfl rfl rfl ?_
   refine W_assign rfl rfl rfl ?_
   refine W_end (E_then (C_ret (E_ret_block (E_ret_then (E_ret_then (E_ret_block (E_ret_then ?_)))))))
   obtain rfl := Option.some.inj hm
   refine E_weak hle113 ?_
   exact end1 rfl rfl ⟨rfl, rfl, rfl⟩
  ·have hm := ite_f' hb128 hm
   refine C_skip (E_normal_block (E_then (C_region ?_)))
   refine W_bin rfl rfl rfl rfl rfl ?_
   refine W_move rfl rfl rfl ?_
   refine W_end ?_
   exact E_keepJ (E_back (Nat.lt_succ_self _) ⟨k101 + 1, zs119, hd122, rfl, (by rw [hn116]; exact hm), hle113, rfl, rfl⟩) (List.Perm.refl _) ⟨rfl, rfl, rfl, (congrArg (fun z => some (Value.int .i64 z)) (i64_succN hy120 (toNat_max (len_max (h0).lenMax)))), trivial⟩
 ·obtain rfl := rngN_f hd121 hb123
  have hm : (some (-1)) = some r := hm
  refine C_exit (E_exit_then (E_exit_then (E_exit_hit (E_then (C_seq (C_region ?_))))))
  refine W_assign rfl rfl rfl ?_
  refine W_end (E_then (C_ret ?_))
  obtain rfl := Option.some.inj hm
  refine E_weak hle113 ?_
  exact end1 rfl rfl ⟨rfl, rfl, rfl⟩

theorem m_blackstart_closeSwitch_c {B : Nat} {w0 w : World} {H : Hp} {M : List Res} {p0_n : S_api_Network} {name : ByteArray} {b0 : Nat} {v0 : Value} {v1 : Value} {xs0 : List Value} {v2 : Value} {v3 : Value} {v4 : Value} {v5 : Value} {r : S_api_Network} (hm : m_blackstart_closeSwitch p0_n name = some r) (h0 : RdS H v0 p0_n.Nodes) (h1 : Rw H v1 xs0 p0_n.Switches) (h2 : RdS H v2 p0_n.Branches) (h3 : RdS H v3 p0_n.Gens) (h4 : RdS H v4 p0_n.Loads) (h5 : RdS H v5 p0_n.Stores) (ht : St B w0 H (.obj b0 (.cells [v0, v1, v2, v3, v4, v5].toArray 29 (0, 0)) :: .row v1 70 (Rep.sz S_api_Switch) p0_n.Switches.length xs0 :: M) w) :
  Calls prog 27 [.pointer (some ⟨b0, 0, none⟩), .string (name)].toArray w (Ret B w0 fun H' M' v => H.le H' ∧ ∃ qv0 : Value, ∃ qv1 : Value, ∃ qxs0 : List Value, ∃ qv2 : Value, ∃ qv3 : Value, ∃ qv4 : Value, ∃ qv5 : Value, .obj b0 (.cells [qv0, qv1, qv2, qv3, qv4, qv5].toArray 29 (0, 0)) :: .row qv1 70 (Rep.sz S_api_Switch) r.Switches.length qxs0 :: M = M' ∧ .tuple #[] = v ∧ RdS H' qv0 r.Nodes ∧ Rw H' qv1 qxs0 r.Switches ∧ RdS H' qv2 r.Branches ∧ RdS H' qv3 r.Gens ∧ RdS H' qv4 r.Loads ∧ RdS H' qv5 r.Stores) := by
 unfold m_blackstart_closeSwitch at hm
 refine enter func27 rfl rfl rfl ht ?_
 refine C_seq (C_region ?_)
 refine W_box (cs := [.string (name)]) rfl rfl rfl rfl (fun b101 => ?_)
 refine W_end (E_then ?_)
 obtain ⟨r102, hc103, hm⟩ := bind_some hm
 refine C_perm (List.Perm.cons _ (List.Perm.swap _ _ _)) ?_
 refine C_as (M' := [[.obj b101 (.cells ([.string (name)] : List Value).toArray 9 (0, 0))], [.row v1 70 (Rep.sz S_api_Switch) p0_n.Switches.length xs0]].flatten ++ (.obj b0 (.cells [v0, v1, v2, v3, v4, v5].toArray 29 (0, 0)) :: M)) rfl ?_
 refine C_region_tok0 10 (phiT [(fun H rs v => [] = rs ∧ .pointer (some ⟨b0, 0, none⟩) = v), (fun H rs v => [] = rs ∧ .pointer (some ⟨b0, 0, none⟩) = v), (fun H rs v => [] = rs ∧ .pointer (some ⟨b0, 1, none⟩) = v), (fun H rs v => [] = rs ∧ v1 = v), (fun H rs v => [] = rs ∧ .pointer (some ⟨b0, 0, none⟩) = v), (fun H rs v => [] = rs ∧ .pointer (some ⟨b0, 0, none⟩) = v), (fun H rs v => [] = rs ∧ .pointer (some ⟨b0, 1, none⟩) = v), (fun H rs v => [] = rs ∧ v1 = v), (fun H rs v => [] = rs ∧ .func (.func 47) [].toArray [.pointer (some ⟨b101, 0, none⟩)].toArray = v), (fun H rs v => [.row v1 70 (Rep.sz S_api_Switch) p0_n.Switches.length xs0, .obj b101 (.cells ([.string (name)] : List Value).toArray 9 (0, 0))] = rs ∧ .int .i64 (r102) = v)]) [[], [], [], [], [], [], [], [], [], [11, 10]] [[], [], [], [], [], [], [], [], [], []] [[.obj b101 (.cells ([.string (name)] : List Value).toArray 9 (0, 0))], [.row v1 70 (Rep.sz S_api_Switch) p0_n.Switches.length xs0]] [0, 1, 2, 3, 4, 5, 6, 7, 8, 9] Facts.mixed (by kernel_rfl) (by rfl) (by rfl) (by rfl) (by kernel_rfl) (phiT_mono ⟨eq_monoT _ _, eq_monoT _ _, eq_monoT _ _, eq_monoT _ _, eq_monoT _ _, eq_monoT _ _, eq_monoT _ _, eq_monoT _ _, eq_monoT _ _, eq_monoT _ _, trivial⟩) ⟨?_, ?_, ?_, ?_, ?_, ?_, ?_, ?_, ?_, ?_, trivial⟩ ?_
 ·intro HX hX X Rest hR
  intro hU hUp
  refine W_move rfl rfl rfl ?_
  exact W_end (OneT_end [] (Hp.le_refl _) ⟨rfl, rfl⟩)
 ·intro HX hX X Rest hR
  rintro _ _ ⟨rfl, rfl⟩
  intro hU hUp
  refine W_nilCheck rfl rfl rfl ?_
  exact W_end (OneT_end [] (Hp.le_refl _) ⟨rfl, rfl⟩)
 ·intro HX hX X Rest hR
  rintro _ _ ⟨rfl, rfl⟩
  intro hU hUp
  refine W_field (o := 1) rfl rfl runUnderlying29 rfl sizeOf23 rfl rfl rfl ?_
  exact W_end (OneT_end [] (Hp.le_refl _) ⟨rfl, rfl⟩)
 ·intro HX hX X Rest hR
  rintro _ _ ⟨rfl, rfl⟩
  intro hU hUp
  refine W_load rfl rfl isAgg23 rfl (own_at (hR _ (List.mem_cons_self ..)) rfl) ?_
  exact W_end (OneT_end [] (Hp.le_refl _) ⟨rfl, rfl⟩)
 ·intro HX hX X Rest hR
  intro hU hUp
  refine W_move rfl rfl rfl ?_
  exact W_end (OneT_end [] (Hp.le_refl _) ⟨rfl, rfl⟩)
 ·intro HX hX X Rest hR
  rintro _ _ ⟨rfl, rfl⟩
  intro hU hUp
  refine W_nilCheck rfl rfl rfl ?_
  exact W_end (OneT_end [] (Hp.le_refl _) ⟨rfl, rfl⟩)
 ·intro HX hX X Rest hR
  rintro _ _ ⟨rfl, rfl⟩
  intro hU hUp
  refine W_field (o := 1) rfl rfl runUnderlying29 rfl sizeOf23 rfl rfl rfl ?_
  exact W_end (OneT_end [] (Hp.le_refl _) ⟨rfl, rfl⟩)
 ·intro HX hX X Rest hR
  rintro _ _ ⟨rfl, rfl⟩
  intro hU hUp
  refine W_load rfl rfl isAgg23 rfl (own_at (hR _ (List.mem_cons_self ..)) rfl) ?_
  exact W_end (OneT_end [] (Hp.le_refl _) ⟨rfl, rfl⟩)
 ·intro HX hX X Rest hR
  intro hU hUp
  refine W_makeFunc rfl rfl rfl rfl ?_
  exact W_end (OneT_end [] (Hp.le_refl _) ⟨rfl, rfl⟩)
 ·intro HX hX X Rest hR
  rintro _ _ ⟨rfl, rfl⟩
  rintro _ _ ⟨rfl, rfl⟩
  intro hU hUp
  refine W_as (M' := .row v1 70 (Rep.sz S_api_Switch) p0_n.Switches.length xs0 :: .obj b101 (.cells ([.string (name)] : List Value).toArray 9 (0, 0)) :: Rest) rfl ?_
  refine W_call call46 rfl rfl rfl (fun w ht => by obtain ⟨H0_, hl0_, ht0_, hr0_, bk0_⟩ := ht.lendRow (h1.mono hX) rfl; have h := m_slices_IndexFunc_api_Switch_api_Switch__blackstart_closeSwitch_1_c (hm := hc103) hr0_ ht0_; exact lend_back bk0_ (h)) ?_
  rintro _ _ _ ⟨rfl, ⟨_, rfl, rfl, rfl⟩⟩
  exact W_end (OneT_end [.row v1 70 (Rep.sz S_api_Switch) p0_n.Switches.length xs0, .obj b101 (.cells ([.string (name)] : List Value).toArray 9 (0, 0))] (Hp.le_refl _) ⟨rfl, rfl⟩)
 intro H104 hle105
 rintro _ _ ⟨rfl, rfl⟩
 rintro _ _ ⟨rfl, rfl⟩
 rintro _ _ ⟨rfl, rfl⟩
 rintro _ _ ⟨rfl, rfl⟩
 rintro _ _ ⟨rfl, rfl⟩
 rintro _ _ ⟨rfl, rfl⟩
 rintro _ _ ⟨rfl, rfl⟩
 rintro _ _ ⟨rfl, rfl⟩
 rintro _ _ ⟨rfl, rfl⟩
 rintro _ _ ⟨rfl, rfl⟩
 refine W_as (M' := .row v1 70 (Rep.sz S_api_Switch) p0_n.Switches.length xs0 :: .obj b101 (.cells ([.string (name)] : List Value).toArray 9 (0, 0)) :: .obj b0 (.cells [v0, v1, v2, v3, v4, v5].toArray 29 (0, 0)) :: M) rfl ?_
 obtain ⟨y106, h107, he108, hm⟩ := idx_some hm
 refine W_indexO (List.mem_cons_self ..) rfl rfl runUnderlying23 sizeOf70 rfl rfl h107 (List.getElem?_eq_some_iff.1 he108).1 ?_
 obtain ⟨_, rfl, hg109⟩ := (h1).elem he108
 refine W_field (o := 4) rfl rfl runUnderlying70 rfl sizeOf4 rfl rfl rfl ?_
 obtain ⟨hr110, he111, hg112⟩ := Rw.put (cs := [.bool (false)]) (o := 4) (c := [.string (y106.Name), .string (y106.A), .string (y106.B_), .bool (y106.Breaker), .bool (y106.Open)]) (out := [.string (y106.Name), .string (y106.A), .string (y106.B_), .bool (y106.Breaker), .bool (false)]) (e2 := (S_api_Switch.mk y106.Name y106.A y106.B_ y106.Breaker false)) (h1.mono hle105) he108 rfl hg109 rfl rfl rfl
 refine W_storeO2 (i := (r102 : Int).toNat * Rep.sz S_api_Switch + 4) (cs := [.bool (false)]) rfl sizeOf4 rfl (row_ad _ _ _) rfl rfl rfl (Rw.room (h1.mono hle105) he108 rfl) rfl (all_cons rfl all_nil) (n' := (p0_n.Switches.set ((r102 : Int).toNat) (S_api_Switch.mk y106.Name y106.A y106.B_ y106.Breaker false)).length) List.length_set ?_
 generalize over xs0 ((r102 : Int).toNat * Rep.sz S_api_Switch + 4) [.bool (false)] = xs113 at hr110 hg112 ⊢
 refine W_end (E_off ?_)
 obtain rfl := Option.some.inj hm
 refine E_drop (List.Sublist.cons_cons _ (List.Sublist.cons _ (List.Sublist.refl _))) ?_
 refine E_perm (List.Perm.swap _ _ _) ?_
 exact end0 rfl ⟨hle105, v0, v1, xs113, v2, v3, v4, v5, rfl, rfl, (h0.mono hle105), hr110, (h2.mono hle105), (h3.mono hle105), (h4.mono hle105), (h5.mono hle105)⟩
end Go.Sim
