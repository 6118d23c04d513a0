/-
  Printed by a program: each Go function computes its model.
-/
import Derived.Test.YtilchbhmaflhfaaDoorConL1
namespace Go.Sim
open Go Go.Proofs.Tryd
set_option linter.unusedVariables false
set_option linter.unusedSimpArgs false
set_option maxRecDepth 100000
theorem m_large_divWords_c {B : Nat} {w0 w : World} [Tabs B w0] {H : Hp} {M : List Res} {p0_a : (List U32)} {p1_b : (List U32)} {v0 : Value} {v1 : Value} {r : (List U32) × (List U32)} (hm : m_large_divWords p0_a p1_b = some r) (h0 : RdS H v0 p0_a) (h1 : RdS H v1 p1_b) (ht : St B w0 H (M) w) :
  Calls prog 69 [v0, v1].toArray w (Ret B w0 fun H' M' v => H.le H' ∧ ∃ qv0 : Value, ∃ qv1 : Value, M = M' ∧ .tuple #[qv0, qv1] = v ∧ RdS H' qv0 r.1 ∧ RdS H' qv1 r.2) := by
 unfold m_large_divWords at hm
 refine enter func69 rfl rfl rfl ht ?_
 refine C_seq (C_region ?_)
 refine W_assign rfl rfl rfl ?_
 refine W_assign rfl rfl rfl ?_
 refine W_end (E_then (C_seq (C_seq (C_region ?_))))
 refine W_move rfl rfl rfl ?_
 refine W_move rfl rfl rfl ?_
 obtain ⟨r101, hc102, hm⟩ := bind_some hm
 refine W_call call62 rfl rfl rfl (fun w ht => by have h := m_large_cmpWords_c (hm := hc102) h0 h1 ht; exact h) ?_
 rintro _ _ _ ⟨rfl, rfl, rfl⟩
 refine W_bin rfl rfl rfl rfl rfl ?_
 refine W_end (E_then ?_)
 refine C_cond (b := decide (r101 < 0)) rfl (fun hb103 => ?_) (fun hb103 => ?_)
 ·have hm := ite_t' hb103 hm
  refine C_seq (C_region ?_)
  refine W_move rfl rfl rfl ?_
  refine W_assign rfl rfl rfl ?_
  refine W_assign rfl rfl rfl ?_
  refine W_end (E_then (C_ret (E_ret_then ?_)))
  obtain rfl := Option.some.inj hm
  exact end2 rfl rfl rfl ⟨(Hp.le_refl _), (.slice none 0 0), v0, rfl, rfl, RdS.nil, h0⟩
 ·have hm := ite_f' hb103 hm
  refine C_skip (E_then (C_seq (C_seq (C_region ?_))))
  refine W_move rfl rfl rfl ?_
  refine W_lenR rfl rfl runUnderlying45 rfl h1 ?_
  refine W_bin rfl rfl rfl rfl rfl ?_
  refine W_end (E_then ?_)
  refine C_cond (b := decide ((p1_b.length : Int) = 1)) rfl (fun hb104 => ?_) (fun hb104 => ?_)
  ·have hm := ite_t' hb104 hm
   refine C_seq (C_region ?_)
   refine W_move rfl rfl rfl ?_
   refine W_move rfl rfl rfl ?_
   obtain ⟨y105, h106, he107, hm⟩ := idx_some hm
   obtain ⟨_, rfl, hc108⟩ := (h1).elem he107
   refine W_indexS rfl rfl runUnderlying45 sizeOf80 rfl h1 rfl h106 he107 ?_
   refine W_load rfl rfl isAgg80 rfl (HCells.one hc108 0 rfl).at ?_
   obtain ⟨r109, hc110, hm⟩ := bind_some hm
   refine W_call call64 rfl rfl rfl (fun w ht => by have h := m_large_shortDiv_c (hm := hc110) h0 ht; exact h) ?_
   rintro _ _ _ ⟨rfl, v111, xs112, rfl, rfl, h113⟩
   have h113 := h113 H
   refine W_move rfl rfl rfl ?_
   refine W_extract rfl rfl rfl rfl ?_
   refine W_extract rfl rfl rfl rfl ?_
   refine W_assign rfl rfl rfl ?_
   refine W_assign rfl rfl rfl ?_
   refine W_end (E_then (C_seq (C_region ?_)))
   refine W_move rfl rfl rfl ?_
   refine W_move rfl rfl rfl ?_
   refine W_buildSliceO (α := U32) (css := [[.int .u32 (r109.2)]]) (zs := [.int .u32 (0)]) (out := [.int .u32 (r109.2)]) (ys := ([⟨r109.2⟩] : List U32)) rfl rfl rfl ⟨rfl, trivial⟩ runUnderlying45 sizeOf80 rfl zeroValue80 (by kernel_rfl) rfl rfl rfl rfl ⟨[.int .u32 (r109.2)], [], rfl, rfl, rfl⟩ rfl ?_
   intro v114 xs115 hr116
   refine W_assign rfl rfl rfl ?_
   refine W_assign rfl rfl rfl ?_
   refine W_end (E_then (C_ret (E_ret_then ?_)))
   refine E_perm (List.Perm.swap _ _ _) ?_
   refine E_freeze (h113).rd rfl (fun H117 hle118 h119 => ?_)
   refine E_freeze ((hr116.mono hle118)).rd rfl (fun H120 hle121 h122 => ?_)
   obtain rfl := Option.some.inj hm
   exact end2 rfl rfl rfl ⟨(Hp.le_trans hle118 hle121), v111, v114, rfl, rfl, (h119.mono hle121), h122⟩
  ·have hm := ite_f' hb104 hm
   refine C_skip (E_then (C_seq (C_region ?_)))
   refine W_move rfl rfl rfl ?_
   refine W_move rfl rfl rfl ?_
   refine W_lenR rfl rfl runUnderlying45 rfl h1 ?_
   refine W_bin rfl rfl rfl rfl rfl ?_
   obtain ⟨y123, h124, he125, hm⟩ := idx_some hm
   obtain ⟨_, rfl, hc126⟩ := (h1).elem he125
   refine W_indexS rfl rfl runUnderlying45 sizeOf80 rfl h1 rfl h124 he125 ?_
   refine W_load rfl rfl isAgg80 rfl (HCells.one hc126 0 rfl).at ?_
   obtain ⟨r127, hc128, hm⟩ := bind_some hm
   refine W_call call78 rfl rfl rfl (fun w ht => by have h := m_math_bits_LeadingZeros32_c (hm := hc128)  ht; exact h) ?_
   rintro _ _ _ ⟨rfl, rfl, rfl⟩
   refine W_assign rfl rfl rfl ?_
   refine W_end (E_then (C_seq ?_))
   obtain ⟨r129, hc130, hm⟩ := bind_some hm
   obtain ⟨r134, hc135, hm⟩ := bind_some hm
   obtain ⟨hz139, hm⟩ := need_some hm
   refine C_region_tok0 10 (phiT [(fun H rs v => [] = rs ∧ v0 = v), (fun H rs v => [] = rs ∧ .int .i64 (r127) = v), (fun H rs v => ∃ v143 : Value, ∃ xs144 : List Value, [.row v143 80 (Rep.sz U32) r129.length xs144] = rs ∧ v143 = v ∧ Rw H v143 xs144 r129), (fun H rs v => [] = rs ∧ v1 = v), (fun H rs v => [] = rs ∧ .int .i64 (r127) = v), (fun H rs v => ∃ v146 : Value, ∃ xs147 : List Value, [.row v146 80 (Rep.sz U32) r134.length xs147] = rs ∧ v146 = v ∧ Rw H v146 xs147 r134), (fun H rs v => [] = rs ∧ v1 = v), (fun H rs v => [] = rs ∧ .int .i64 ((p1_b.length : Int)) = v), (fun H rs v => ∃ v149 : Value, ∃ xs150 : List Value, [.row v149 80 (Rep.sz U32) (slc r134 0 (((p1_b.length : Int) : Int).toNat)).length xs150] = rs ∧ v149 = v ∧ Rw H v149 xs150 (slc r134 0 (((p1_b.length : Int) : Int).toNat))), (fun H rs v => ∃ v143 : Value, ∃ xs144 : List Value, [.row v143 80 (Rep.sz U32) r129.length xs144] = rs ∧ v143 = v ∧ Rw H v143 xs144 r129)]) [[], [], [], [], [], [], [], [], [5], [2]] [[], [], [], [], [], [], [], [], [], []] [] [0, 1, 3, 4, 6, 7, 8, 9] Facts.mixed (by kernel_rfl) (by rfl) (by rfl) (by rfl) (by kernel_rfl) (phiT_mono ⟨eq_monoT _ _, eq_monoT _ _, (by rintro H1 H2 rs v hle ⟨v143, xs144, rfl, rfl, h145⟩; exact ⟨v143, xs144, rfl, rfl, (h145.mono hle)⟩), eq_monoT _ _, eq_monoT _ _, (by rintro H1 H2 rs v hle ⟨v146, xs147, rfl, rfl, h148⟩; exact ⟨v146, xs147, rfl, rfl, (h148.mono hle)⟩), eq_monoT _ _, eq_monoT _ _, (by rintro H1 H2 rs v hle ⟨v149, xs150, rfl, rfl, hr151⟩; exact ⟨v149, xs150, rfl, rfl, (hr151.mono hle)⟩), (by rintro H1 H2 rs v hle ⟨v143, xs144, rfl, rfl, h145⟩; exact ⟨v143, xs144, rfl, rfl, (h145.mono hle)⟩), trivial⟩) ⟨?_, ?_, ?_, ?_, ?_, ?_, ?_, ?_, ?_, ?_, trivial⟩ ?_
   ·intro HX hX X Rest hR
    intro hU hUp
    refine W_move rfl rfl rfl ?_
    exact W_end (OneT_end [] (Hp.le_refl _) ⟨rfl, rfl⟩)
   ·intro HX hX X Rest hR
    intro hU hUp
    refine W_move rfl rfl rfl ?_
    exact W_end (OneT_end [] (Hp.le_refl _) ⟨rfl, rfl⟩)
   ·intro HX hX X Rest hR
    rintro _ _ ⟨rfl, rfl⟩
    rintro _ _ ⟨rfl, rfl⟩
    intro hU hUp
    refine W_call call79 rfl rfl rfl (fun w ht => by have h := m_large_shifted_c (hm := hc130) (h0.mono hX) ht; exact h) ?_
    rintro _ _ _ ⟨rfl, v143, xs144, rfl, rfl, h145⟩
    have h145 := h145 HX
    exact W_end (OneT_end [.row v143 80 (Rep.sz U32) r129.length xs144] (Hp.le_refl _) ⟨v143, xs144, rfl, rfl, (h145)⟩)
   ·intro HX hX X Rest hR
    intro hU hUp
    refine W_move rfl rfl rfl ?_
    exact W_end (OneT_end [] (Hp.le_refl _) ⟨rfl, rfl⟩)
   ·intro HX hX X Rest hR
    intro hU hUp
    refine W_move rfl rfl rfl ?_
    exact W_end (OneT_end [] (Hp.le_refl _) ⟨rfl, rfl⟩)
   ·intro HX hX X Rest hR
    rintro _ _ ⟨rfl, rfl⟩
    rintro _ _ ⟨rfl, rfl⟩
    rintro _ _ ⟨v143, xs144, rfl, rfl, h145⟩
    intro hU hUp
    refine W_call call79 rfl rfl rfl (fun w ht => by have h := m_large_shifted_c (hm := hc135) (h1.mono hX) ht; exact h) ?_
    rintro _ _ _ ⟨rfl, v146, xs147, rfl, rfl, h148⟩
    have h148 := h148 HX
    exact W_end (OneT_end [.row v146 80 (Rep.sz U32) r134.length xs147] (Hp.le_refl _) ⟨v146, xs147, rfl, rfl, (h148)⟩)
   ·intro HX hX X Rest hR
    intro hU hUp
    refine W_move rfl rfl rfl ?_
    exact W_end (OneT_end [] (Hp.le_refl _) ⟨rfl, rfl⟩)
   ·intro HX hX X Rest hR
    rintro _ _ ⟨rfl, rfl⟩
    intro hU hUp
    refine W_lenR rfl rfl runUnderlying45 rfl (h1.mono hX) ?_
    exact W_end (OneT_end [] (Hp.le_refl _) ⟨rfl, rfl⟩)
   ·intro HX hX X Rest hR
    rintro _ _ ⟨v146, xs147, rfl, rfl, h148⟩
    rintro _ _ ⟨rfl, rfl⟩
    intro hU hUp
    refine W_as (M' := .row v146 80 (Rep.sz U32) r134.length xs147 :: Rest) rfl ?_
    refine W_sliceO (α := U32) (l := 0) (h := ((p1_b.length : Int) : Int).toNat) rfl rfl runUnderlying45 sizeOf80 rfl rfl h148 (by omega) (by omega) (fun m hmm => (.inr ⟨_, _, _, rfl, rfl, by omega, by omega, rfl⟩)) (.inl ⟨rfl, rfl⟩) ?_
    intro v149 xs150 hr151
    exact W_end (OneT_end [.row v149 80 (Rep.sz U32) (slc r134 0 (((p1_b.length : Int) : Int).toNat)).length xs150] (Hp.le_refl _) ⟨v149, xs150, rfl, rfl, (hr151)⟩)
   ·intro HX hX X Rest hR
    rintro _ _ ⟨v143, xs144, rfl, rfl, h145⟩
    rintro _ _ ⟨v146, xs147, rfl, rfl, h148⟩
    rintro _ _ ⟨rfl, rfl⟩
    rintro _ _ ⟨rfl, rfl⟩
    rintro _ _ ⟨v143, xs144, rfl, rfl, h145⟩
    intro hU hUp
    refine W_as (M' := .row v143 80 (Rep.sz U32) r129.length xs144 :: Rest) rfl ?_
    refine W_assign rfl rfl rfl ?_
    exact W_end (OneT_end [.row v143 80 (Rep.sz U32) r129.length xs144] (Hp.le_refl _) ⟨v143, xs144, rfl, rfl, (h145)⟩)
   intro H152 hle153
   rintro _ _ ⟨rfl, rfl⟩
   rintro _ _ ⟨rfl, rfl⟩
   rintro _ _ ⟨v143, xs144, rfl, rfl, h145⟩
   rintro _ _ ⟨rfl, rfl⟩
   rintro _ _ ⟨rfl, rfl⟩
   rintro _ _ ⟨v146, xs147, rfl, rfl, h148⟩
   rintro _ _ ⟨rfl, rfl⟩
   rintro _ _ ⟨rfl, rfl⟩
   rintro _ _ ⟨v149, xs150, rfl, rfl, hr151⟩
   rintro _ _ ⟨v143, xs144, rfl, rfl, h145⟩
   refine W_as (M' := .row v149 80 (Rep.sz U32) (slc r134 0 (((p1_b.length : Int) : Int).toNat)).length xs150 :: .row v143 80 (Rep.sz U32) r129.length xs144 :: M) rfl ?_
   refine W_assign rfl rfl rfl ?_
   refine W_end (E_then (C_seq (C_region ?_)))
   refine W_move rfl rfl rfl ?_
   refine W_lenR rfl rfl runUnderlying45 rfl (h1.mono hle153) ?_
   refine W_assign rfl rfl rfl ?_
   refine W_end (E_then (C_seq (C_region ?_)))
   refine W_move rfl rfl rfl ?_
   refine W_lenR rfl rfl runUnderlying45 rfl (h0.mono hle153) ?_
   refine W_move rfl rfl rfl ?_
   refine W_bin rfl rfl rfl rfl rfl ?_
   refine W_bin rfl rfl rfl rfl rfl ?_
   obtain ⟨hz154, hm⟩ := need_some hm
   refine W_makeSlice (α := U32) (zs := [.int .u32 (0)]) (ze := ⟨0⟩) rfl rfl underlying45 ⟨_, rfl, rfl, rfl, rfl⟩ rfl rfl rfl rfl rfl rfl hz154.1 hz154.2 ?_
   intro v155 xs156 hr157
   refine W_assign rfl rfl rfl ?_
   refine W_end (E_then (C_seq (C_seq (C_region ?_))))
   refine W_move rfl rfl rfl ?_
   refine W_lenR rfl rfl runUnderlying45 rfl (h0.mono hle153) ?_
   refine W_move rfl rfl rfl ?_
   refine W_bin rfl rfl rfl rfl rfl ?_
   refine W_assign rfl rfl rfl ?_
   refine W_end (E_then (C_block ?_))
   refine C_keep (L' := [(4, v155), (8, .int .i64 (r127)), (9, v143), (10, v149), (11, .int .i64 ((p1_b.length : Int))), (12, .int .i64 (IntKind.i64.wrap ((p0_a.length : Int) - (p1_b.length : Int))))]) ⟨rfl, rfl, rfl, rfl, rfl, rfl, trivial⟩ (List.Perm.cons _ (List.Perm.swap _ _ _)) ?_
   refine C_loop (fun n H' M' L' => ∃ l1218 : List U32, ∃ l1222 : List U32, ∃ n1224 : Int, ∃ xs1217 : List Value, ∃ xs1221 : List Value, loopF (fun s1227 n => m_large_divWords_b15 p1_b r127 r134 s1227.1 s1227.2.1 s1227.2.2 n) n (l1218, l1222, n1224) = some r ∧ Rw H' v155 xs1217 l1218 ∧ Rw H' v143 xs1221 l1222 ∧ H152.le H' ∧ .row v155 80 (Rep.sz U32) l1218.length xs1217 :: .row v143 80 (Rep.sz U32) l1222.length xs1221 :: .row v149 80 (Rep.sz U32) (slc r134 0 (((p1_b.length : Int) : Int).toNat)).length xs150 :: M = M' ∧ [(4, v155), (8, .int .i64 (r127)), (9, v143), (10, v149), (11, .int .i64 ((p1_b.length : Int))), (12, .int .i64 (n1224))] = L') FUEL ⟨(List.replicate (IntKind.i64.wrap ((IntKind.i64.wrap ((p0_a.length : Int) - (p1_b.length : Int))) + 1) : Int).toNat (⟨0⟩ : U32)), r129, IntKind.i64.wrap ((p0_a.length : Int) - (p1_b.length : Int)), xs156, xs144, hm, hr157, h145, (Hp.le_refl _), rfl, rfl⟩ ?_
   rintro n1230 H1225 _ _ ⟨l1218, l1222, n1224, xs1217, xs1221, hm, hr1219, hr1223, hle1226, rfl, rfl⟩
   cases n1230 with
   | zero => cases hm
   | succ n1230 =>
    have hm : m_large_divWords_b15 p1_b r127 r134 l1218 l1222 n1224 (loopF (fun s1227 n => m_large_divWords_b15 p1_b r127 r134 s1227.1 s1227.2.1 s1227.2.2 n) n1230) = some r := hm
    generalize hn1229 : loopF (fun s1227 n => m_large_divWords_b15 p1_b r127 r134 s1227.1 s1227.2.1 s1227.2.2 n) n1230 = nx1228 at hm
    unfold m_large_divWords_b15 at hm
    refine C_seq (C_seq (C_region ?_))
    refine W_move rfl rfl rfl ?_
    refine W_bin rfl rfl rfl rfl rfl ?_
    refine W_end (E_then ?_)
    refine C_cond (b := decide (0 ≤ n1224)) rfl (fun hb1236 => ?_) (fun hb1236 => ?_)
    ·have hm := ite_t' hb1236 hm
     refine C_skip (E_then (C_seq (C_block (C_seq ?_))))
     obtain ⟨y1237, h1238, he1239, hm⟩ := idx_some hm
     obtain ⟨_, rfl, hg1240⟩ := (hr1223).elem he1239
     obtain ⟨y1241, h1242, he1243, hm⟩ := idx_some hm
     obtain ⟨_, rfl, hg1244⟩ := (hr1223).elem he1243
     refine C_region_tok0 16 (phiT [(fun H rs v => [] = rs ∧ v143 = v), (fun H rs v => [] = rs ∧ .int .i64 (n1224) = v), (fun H rs v => [] = rs ∧ .int .i64 ((p1_b.length : Int)) = v), (fun H rs v => [] = rs ∧ .int .i64 (IntKind.i64.wrap (n1224 + (p1_b.length : Int))) = v), (fun H rs v => [] = rs ∧ .pointer (some ((Value.base (v143)).add ((IntKind.i64.wrap (n1224 + (p1_b.length : Int)) : Int).toNat * Rep.sz U32))) = v), (fun H rs v => [] = rs ∧ .int .u32 (y1237.n) = v), (fun H rs v => [] = rs ∧ .int .u64 (IntKind.u64.wrap (y1237.n)) = v), (fun H rs v => [] = rs ∧ .int .u64 (shlV .u64 (IntKind.u64.wrap (y1237.n)) 32) = v), (fun H rs v => [] = rs ∧ v143 = v), (fun H rs v => [] = rs ∧ .int .i64 (n1224) = v), (fun H rs v => [] = rs ∧ .int .i64 ((p1_b.length : Int)) = v), (fun H rs v => [] = rs ∧ .int .i64 (IntKind.i64.wrap (n1224 + (p1_b.length : Int))) = v), (fun H rs v => [] = rs ∧ .int .i64 (IntKind.i64.wrap ((IntKind.i64.wrap (n1224 + (p1_b.length : Int))) - 1)) = v), (fun H rs v => [] = rs ∧ .pointer (some ((Value.base (v143)).add ((IntKind.i64.wrap ((IntKind.i64.wrap (n1224 + (p1_b.length : Int))) - 1) : Int).toNat * Rep.sz U32))) = v), (fun H rs v => [] = rs ∧ .int .u32 (y1241.n) = v), (fun H rs v => [] = rs ∧ .int .u64 (IntKind.u64.wrap (y1241.n)) = v)]) [[], [], [], [], [], [], [], [], [], [], [], [], [], [], [], []] [[], [], [], [], [], [], [], [], [], [], [], [], [], [], [], []] [] [0, 1, 2, 3, 4, 5, 6, 7, 8, 9, 10, 11, 12, 13, 14, 15] Facts.mixed (by kernel_rfl) (by rfl) (by rfl) (by rfl) (by kernel_rfl) (phiT_mono ⟨eq_monoT _ _, eq_monoT _ _, eq_monoT _ _, eq_monoT _ _, eq_monoT _ _, eq_monoT _ _, eq_monoT _ _, eq_monoT _ _, eq_monoT _ _, eq_monoT _ _, eq_monoT _ _, eq_monoT _ _, eq_monoT _ _, eq_monoT _ _, eq_monoT _ _, eq_monoT _ _, trivial⟩) ⟨?_, ?_, ?_, ?_, ?_, ?_, ?_, ?_, ?_, ?_, ?_, ?_, ?_, ?_, ?_, ?_, trivial⟩ ?_
     ·intro HX hX X Rest hR
      intro hU hUp
      refine W_move rfl rfl rfl ?_
      exact W_end (OneT_end [] (Hp.le_refl _) ⟨rfl, rfl⟩)
     ·intro HX hX X Rest hR
      intro hU hUp
      refine W_move rfl rfl rfl ?_
      exact W_end (OneT_end [] (Hp.le_refl _) ⟨rfl, rfl⟩)
     ·intro HX hX X Rest hR
      intro hU hUp
      refine W_move rfl rfl rfl ?_
      exact W_end (OneT_end [] (Hp.le_refl _) ⟨rfl, rfl⟩)
     ·intro HX hX X Rest hR
      rintro _ _ ⟨rfl, rfl⟩
      rintro _ _ ⟨rfl, rfl⟩
      intro hU hUp
      refine W_bin rfl rfl rfl rfl rfl ?_
      exact W_end (OneT_end [] (Hp.le_refl _) ⟨rfl, rfl⟩)
     ·intro HX hX X Rest hR
      rintro _ _ ⟨rfl, rfl⟩
      rintro _ _ ⟨rfl, rfl⟩
      intro hU hUp
      refine W_indexO (hR _ (List.mem_cons_of_mem _ (List.mem_cons_self ..))) rfl rfl runUnderlying45 sizeOf80 rfl rfl h1238 (List.getElem?_eq_some_iff.1 he1239).1 ?_
      exact W_end (OneT_end [] (Hp.le_refl _) ⟨rfl, rfl⟩)
     ·intro HX hX X Rest hR
      rintro _ _ ⟨rfl, rfl⟩
      intro hU hUp
      refine W_load rfl rfl isAgg80 rfl (row_one0 (hR _ (List.mem_cons_of_mem _ (List.mem_cons_self ..))) hg1240 rfl) ?_
      exact W_end (OneT_end [] (Hp.le_refl _) ⟨rfl, rfl⟩)
     ·intro HX hX X Rest hR
      rintro _ _ ⟨rfl, rfl⟩
      intro hU hUp
      refine W_convInt rfl rfl runUnderlying80 runUnderlying84 rfl ?_
      exact W_end (OneT_end [] (Hp.le_refl _) ⟨rfl, rfl⟩)
     ·intro HX hX X Rest hR
      rintro _ _ ⟨rfl, rfl⟩
      intro hU hUp
      refine W_shl rfl rfl rfl rfl (by decide) ?_
      exact W_end (OneT_end [] (Hp.le_refl _) ⟨rfl, rfl⟩)
     ·intro HX hX X Rest hR
      intro hU hUp
      refine W_move rfl rfl rfl ?_
      exact W_end (OneT_end [] (Hp.le_refl _) ⟨rfl, rfl⟩)
     ·intro HX hX X Rest hR
      intro hU hUp
      refine W_move rfl rfl rfl ?_
      exact W_end (OneT_end [] (Hp.le_refl _) ⟨rfl, rfl⟩)
     ·intro HX hX X Rest hR
      intro hU hUp
      refine W_move rfl rfl rfl ?_
      exact W_end (OneT_end [] (Hp.le_refl _) ⟨rfl, rfl⟩)
     ·intro HX hX X Rest hR
      rintro _ _ ⟨rfl, rfl⟩
      rintro _ _ ⟨rfl, rfl⟩
      intro hU hUp
      refine W_bin rfl rfl rfl rfl rfl ?_
      exact W_end (OneT_end [] (Hp.le_refl _) ⟨rfl, rfl⟩)
     ·intro HX hX X Rest hR
      rintro _ _ ⟨rfl, rfl⟩
      intro hU hUp
      refine W_bin rfl rfl rfl rfl rfl ?_
      exact W_end (OneT_end [] (Hp.le_refl _) ⟨rfl, rfl⟩)
     ·intro HX hX X Rest hR
      rintro _ _ ⟨rfl, rfl⟩
      rintro _ _ ⟨rfl, rfl⟩
      intro hU hUp
      refine W_indexO (hR _ (List.mem_cons_of_mem _ (List.mem_cons_self ..))) rfl rfl runUnderlying45 sizeOf80 rfl rfl h1242 (List.getElem?_eq_some_iff.1 he1243).1 ?_
      exact W_end (OneT_end [] (Hp.le_refl _) ⟨rfl, rfl⟩)
     ·intro HX hX X Rest hR
      rintro _ _ ⟨rfl, rfl⟩
      intro hU hUp
      refine W_load rfl rfl isAgg80 rfl (row_one0 (hR _ (List.mem_cons_of_mem _ (List.mem_cons_self ..))) hg1244 rfl) ?_
      exact W_end (OneT_end [] (Hp.le_refl _) ⟨rfl, rfl⟩)
     ·intro HX hX X Rest hR
      rintro _ _ ⟨rfl, rfl⟩
      intro hU hUp
      refine W_convInt rfl rfl runUnderlying80 runUnderlying84 rfl ?_
      exact W_end (OneT_end [] (Hp.le_refl _) ⟨rfl, rfl⟩)
     intro H1245 hle1246
     rintro _ _ ⟨rfl, rfl⟩
     rintro _ _ ⟨rfl, rfl⟩
     rintro _ _ ⟨rfl, rfl⟩
     rintro _ _ ⟨rfl, rfl⟩
     rintro _ _ ⟨rfl, rfl⟩
     rintro _ _ ⟨rfl, rfl⟩
     rintro _ _ ⟨rfl, rfl⟩
     rintro _ _ ⟨rfl, rfl⟩
     rintro _ _ ⟨rfl, rfl⟩
     rintro _ _ ⟨rfl, rfl⟩
     rintro _ _ ⟨rfl, rfl⟩
     rintro _ _ ⟨rfl, rfl⟩
     rintro _ _ ⟨rfl, rfl⟩
     rintro _ _ ⟨rfl, rfl⟩
     rintro _ _ ⟨rfl, rfl⟩
     rintro _ _ ⟨rfl, rfl⟩
     refine W_bin rfl rfl rfl rfl rfl ?_
     refine W_assign rfl rfl rfl ?_
     refine W_end (E_then (C_seq ?_))
     obtain ⟨y1247, h1248, he1249, hm⟩ := idx_some hm
     obtain ⟨_, rfl, hg1250⟩ := (hr151).elem he1249
     obtain ⟨hq1251, hm⟩ := need_some hm
     obtain ⟨y1252, h1253, he1254, hm⟩ := idx_some hm
     obtain ⟨_, rfl, hg1255⟩ := (hr151).elem he1254
     obtain ⟨hq1256, hm⟩ := need_some hm
     refine C_region_tok0 17 (phiT [(fun H rs v => [] = rs ∧ .int .u64 (IntKind.u64.wrap ((BitVec.ofInt (IntKind.u64).bits (shlV .u64 (IntKind.u64.wrap (y1237.n)) 32) ||| BitVec.ofInt (IntKind.u64).bits (IntKind.u64.wrap (y1241.n))).toNat)) = v), (fun H rs v => [] = rs ∧ v149 = v), (fun H rs v => [] = rs ∧ .int .i64 ((p1_b.length : Int)) = v), (fun H rs v => [] = rs ∧ .int .i64 (IntKind.i64.wrap ((p1_b.length : Int) - 1)) = v), (fun H rs v => [] = rs ∧ .pointer (some ((Value.base (v149)).add ((IntKind.i64.wrap ((p1_b.length : Int) - 1) : Int).toNat * Rep.sz U32))) = v), (fun H rs v => [] = rs ∧ .int .u32 (y1247.n) = v), (fun H rs v => [] = rs ∧ .int .u64 (IntKind.u64.wrap (y1247.n)) = v), (fun H rs v => [] = rs ∧ .int .u64 (IntKind.u64.wrap (Int.tdiv (IntKind.u64.wrap ((BitVec.ofInt (IntKind.u64).bits (shlV .u64 (IntKind.u64.wrap (y1237.n)) 32) ||| BitVec.ofInt (IntKind.u64).bits (IntKind.u64.wrap (y1241.n))).toNat)) (IntKind.u64.wrap (y1247.n)))) = v), (fun H rs v => [] = rs ∧ .int .u64 (IntKind.u64.wrap ((BitVec.ofInt (IntKind.u64).bits (shlV .u64 (IntKind.u64.wrap (y1237.n)) 32) ||| BitVec.ofInt (IntKind.u64).bits (IntKind.u64.wrap (y1241.n))).toNat)) = v), (fun H rs v => [] = rs ∧ v149 = v), (fun H rs v => [] = rs ∧ .int .i64 ((p1_b.length : Int)) = v), (fun H rs v => [] = rs ∧ .int .i64 (IntKind.i64.wrap ((p1_b.length : Int) - 1)) = v), (fun H rs v => [] = rs ∧ .pointer (some ((Value.base (v149)).add ((IntKind.i64.wrap ((p1_b.length : Int) - 1) : Int).toNat * Rep.sz U32))) = v), (fun H rs v => [] = rs ∧ .int .u32 (y1252.n) = v), (fun H rs v => [] = rs ∧ .int .u64 (IntKind.u64.wrap (y1252.n)) = v), (fun H rs v => [] = rs ∧ .int .u64 (Int.tmod (IntKind.u64.wrap ((BitVec.ofInt (IntKind.u64).bits (shlV .u64 (IntKind.u64.wrap (y1237.n)) 32) ||| BitVec.ofInt (IntKind.u64).bits (IntKind.u64.wrap (y1241.n))).toNat)) (IntKind.u64.wrap (y1252.n))) = v), (fun H rs v => [] = rs ∧ .int .u64 (IntKind.u64.wrap (Int.tdiv (IntKind.u64.wrap ((BitVec.ofInt (IntKind.u64).bits (shlV .u64 (IntKind.u64.wrap (y1237.n)) 32) ||| BitVec.ofInt (IntKind.u64).bits (IntKind.u64.wrap (y1241.n))).toNat)) (IntKind.u64.wrap (y1247.n)))) = v)]) [[], [], [], [], [], [], [], [], [], [], [], [], [], [], [], [], []] [[], [], [], [], [], [], [], [], [], [], [], [], [], [], [], [], []] [] [0, 1, 2, 3, 4, 5, 6, 7, 8, 9, 10, 11, 12, 13, 14, 15, 16] Facts.mixed (by kernel_rfl) (by rfl) (by rfl) (by rfl) (by kernel_rfl) (phiT_mono ⟨eq_monoT _ _, eq_monoT _ _, eq_monoT _ _, eq_monoT _ _, eq_monoT _ _, eq_monoT _ _, eq_monoT _ _, eq_monoT _ _, eq_monoT _ _, eq_monoT _ _, eq_monoT _ _, eq_monoT _ _, eq_monoT _ _, eq_monoT _ _, eq_monoT _ _, eq_monoT _ _, eq_monoT _ _, trivial⟩) ⟨?_, ?_, ?_, ?_, ?_, ?_, ?_, ?_, ?_, ?_, ?_, ?_, ?_, ?_, ?_, ?_, ?_, trivial⟩ ?_
     ·intro HX hX X Rest hR
      intro hU hUp
      refine W_move rfl rfl rfl ?_
      exact W_end (OneT_end [] (Hp.le_refl _) ⟨rfl, rfl⟩)
     ·intro HX hX X Rest hR
      intro hU hUp
      refine W_move rfl rfl rfl ?_
      exact W_end (OneT_end [] (Hp.le_refl _) ⟨rfl, rfl⟩)
     ·intro HX hX X Rest hR
      intro hU hUp
      refine W_move rfl rfl rfl ?_
      exact W_end (OneT_end [] (Hp.le_refl _) ⟨rfl, rfl⟩)
     ·intro HX hX X Rest hR
      rintro _ _ ⟨rfl, rfl⟩
      intro hU hUp
      refine W_bin rfl rfl rfl rfl rfl ?_
      exact W_end (OneT_end [] (Hp.le_refl _) ⟨rfl, rfl⟩)
     ·intro HX hX X Rest hR
      rintro _ _ ⟨rfl, rfl⟩
      rintro _ _ ⟨rfl, rfl⟩
      intro hU hUp
      refine W_indexO (hR _ (List.mem_cons_of_mem _ (List.mem_cons_of_mem _ (List.mem_cons_self ..)))) rfl rfl runUnderlying45 sizeOf80 rfl rfl h1248 (List.getElem?_eq_some_iff.1 he1249).1 ?_
      exact W_end (OneT_end [] (Hp.le_refl _) ⟨rfl, rfl⟩)
     ·intro HX hX X Rest hR
      rintro _ _ ⟨rfl, rfl⟩
      intro hU hUp
      refine W_load rfl rfl isAgg80 rfl (row_one0 (hR _ (List.mem_cons_of_mem _ (List.mem_cons_of_mem _ (List.mem_cons_self ..)))) hg1250 rfl) ?_
      exact W_end (OneT_end [] (Hp.le_refl _) ⟨rfl, rfl⟩)
     ·intro HX hX X Rest hR
      rintro _ _ ⟨rfl, rfl⟩
      intro hU hUp
      refine W_convInt rfl rfl runUnderlying80 runUnderlying84 rfl ?_
      exact W_end (OneT_end [] (Hp.le_refl _) ⟨rfl, rfl⟩)
     ·intro HX hX X Rest hR
      rintro _ _ ⟨rfl, rfl⟩
      rintro _ _ ⟨rfl, rfl⟩
      intro hU hUp
      refine W_quo rfl rfl rfl rfl hq1251 ?_
      exact W_end (OneT_end [] (Hp.le_refl _) ⟨rfl, rfl⟩)
     ·intro HX hX X Rest hR
      intro hU hUp
      refine W_move rfl rfl rfl ?_
      exact W_end (OneT_end [] (Hp.le_refl _) ⟨rfl, rfl⟩)
     ·intro HX hX X Rest hR
      intro hU hUp
      refine W_move rfl rfl rfl ?_
      exact W_end (OneT_end [] (Hp.le_refl _) ⟨rfl, rfl⟩)
     ·intro HX hX X Rest hR
      intro hU hUp
      refine W_move rfl rfl rfl ?_
      exact W_end (OneT_end [] (Hp.le_refl _) ⟨rfl, rfl⟩)
     ·intro HX hX X Rest hR
      rintro _ _ ⟨rfl, rfl⟩
      intro hU hUp
      refine W_bin rfl rfl rfl rfl rfl ?_
      exact W_end (OneT_end [] (Hp.le_refl _) ⟨rfl, rfl⟩)
     ·intro HX hX X Rest hR
      rintro _ _ ⟨rfl, rfl⟩
      rintro _ _ ⟨rfl, rfl⟩
      intro hU hUp
      refine W_indexO (hR _ (List.mem_cons_of_mem _ (List.mem_cons_of_mem _ (List.mem_cons_self ..)))) rfl rfl runUnderlying45 sizeOf80 rfl rfl h1253 (List.getElem?_eq_some_iff.1 he1254).1 ?_
      exact W_end (OneT_end [] (Hp.le_refl _) ⟨rfl, rfl⟩)
     ·intro HX hX X Rest hR
      rintro _ _ ⟨rfl, rfl⟩
      intro hU hUp
      refine W_load rfl rfl isAgg80 rfl (row_one0 (hR _ (List.mem_cons_of_mem _ (List.mem_cons_of_mem _ (List.mem_cons_self ..)))) hg1255 rfl) ?_
      exact W_end (OneT_end [] (Hp.le_refl _) ⟨rfl, rfl⟩)
     ·intro HX hX X Rest hR
      rintro _ _ ⟨rfl, rfl⟩
      intro hU hUp
      refine W_convInt rfl rfl runUnderlying80 runUnderlying84 rfl ?_
      exact W_end (OneT_end [] (Hp.le_refl _) ⟨rfl, rfl⟩)
     ·intro HX hX X Rest hR
      rintro _ _ ⟨rfl, rfl⟩
      rintro _ _ ⟨rfl, rfl⟩
      intro hU hUp
      refine W_rem rfl rfl rfl rfl hq1256 ?_
      exact W_end (OneT_end [] (Hp.le_refl _) ⟨rfl, rfl⟩)
     ·intro HX hX X Rest hR
      rintro _ _ ⟨rfl, rfl⟩
      rintro _ _ ⟨rfl, rfl⟩
      rintro _ _ ⟨rfl, rfl⟩
      rintro _ _ ⟨rfl, rfl⟩
      rintro _ _ ⟨rfl, rfl⟩
      rintro _ _ ⟨rfl, rfl⟩
      rintro _ _ ⟨rfl, rfl⟩
      rintro _ _ ⟨rfl, rfl⟩
      rintro _ _ ⟨rfl, rfl⟩
      intro hU hUp
      refine W_assign rfl rfl rfl ?_
      exact W_end (OneT_end [] (Hp.le_refl _) ⟨rfl, rfl⟩)
     intro H1257 hle1258
     rintro _ _ ⟨rfl, rfl⟩
     rintro _ _ ⟨rfl, rfl⟩
     rintro _ _ ⟨rfl, rfl⟩
     rintro _ _ ⟨rfl, rfl⟩
     rintro _ _ ⟨rfl, rfl⟩
     rintro _ _ ⟨rfl, rfl⟩
     rintro _ _ ⟨rfl, rfl⟩
     rintro _ _ ⟨rfl, rfl⟩
     rintro _ _ ⟨rfl, rfl⟩
     rintro _ _ ⟨rfl, rfl⟩
     rintro _ _ ⟨rfl, rfl⟩
     rintro _ _ ⟨rfl, rfl⟩
     rintro _ _ ⟨rfl, rfl⟩
     rintro _ _ ⟨rfl, rfl⟩
     rintro _ _ ⟨rfl, rfl⟩
     rintro _ _ ⟨rfl, rfl⟩
     rintro _ _ ⟨rfl, rfl⟩
     refine W_assign rfl rfl rfl ?_
     refine W_end (E_then ?_)
     refine C_seq_join (fun H' M' L' => ∃ n1352 : Int, m_large_divWords_b21 p1_b r134 l1218 l1222 n1224 nx1228 n1352 = some r ∧ H1257.le H' ∧ .row v155 80 (Rep.sz U32) l1218.length xs1217 :: .row v143 80 (Rep.sz U32) l1222.length xs1221 :: .row v149 80 (Rep.sz U32) (slc r134 0 (((p1_b.length : Int) : Int).toNat)).length xs150 :: M = M' ∧ [(4, v155), (8, .int .i64 (r127)), (9, v143), (10, v149), (11, .int .i64 ((p1_b.length : Int))), (12, .int .i64 (n1224)), (14, .int .u64 (n1352))] = L') ?_ (fun J1355 => ?_)
     ·rintro H1353 _ _ ⟨n1352, hm, hle1354, rfl, rfl⟩
      unfold m_large_divWords_b21 at hm
      refine C_seq (C_region ?_)
      refine W_assign rfl rfl rfl ?_
      refine W_assign rfl rfl rfl ?_
      refine W_end (E_then (C_seq (C_seq (C_region ?_))))
      refine W_move rfl rfl rfl ?_
      refine W_move rfl rfl rfl ?_
      refine W_end (E_then (C_block ?_))
      refine C_keep (L' := [(4, v155), (8, .int .i64 (r127)), (9, v143), (10, v149), (11, .int .i64 ((p1_b.length : Int))), (12, .int .i64 (n1224)), (14, .int .u64 (n1352)), (16, .int .i64 (0)), (17, .int .u64 (0)), (142, .int .i64 ((p1_b.length : Int))), (143, .int .i64 (((0 : Nat) : Int)))]) ⟨rfl, rfl, rfl, rfl, rfl, rfl, rfl, rfl, rfl, rfl, rfl, trivial⟩ (List.Perm.swap _ _ _) ?_
      refine C_loop (fun n H' M' L' => ∃ (k1356 : Nat) (zs1414' : Nat), ∃ l1403 : List U32, ∃ n1405 : Int, ∃ n1406 : Int, ∃ xs1402 : List Value, k1356 + zs1414' = ((p1_b.length : Int) : Int).toNat ∧ zs1414' = n ∧ forN (fun k s1409 n => m_large_divWords_b17 p1_b r134 n1224 n1352 k s1409.1 s1409.2.1 s1409.2.2 n) (fun s1409 => idx s1409.1 (IntKind.i64.wrap (n1224 + (p1_b.length : Int))) fun y1435 => idx s1409.1 (IntKind.i64.wrap (n1224 + (p1_b.length : Int))) fun y1439 => if decide ((IntKind.i64.wrap (s1409.2.1 + (IntKind.i64.wrap ((IntKind.i64.wrap (y1435.n)) - (IntKind.i64.wrap (s1409.2.2)))))) < 0) then (forN (fun k s1621 n => m_large_divWords_b20 p1_b r134 n1224 k s1621.1 s1621.2 n) (fun s1621 => idx s1621.1 (IntKind.i64.wrap (n1224 + (p1_b.length : Int))) fun y1649 => idx s1621.1 (IntKind.i64.wrap (n1224 + (p1_b.length : Int))) fun y1653 => m_large_divWords_b19 l1218 n1224 nx1228 (s1621.1.set ((IntKind.i64.wrap (n1224 + (p1_b.length : Int)) : Int).toNat) ⟨IntKind.u32.wrap (y1649.n + (IntKind.u32.wrap (s1621.2)))⟩) (IntKind.u64.wrap (n1352 - 1))) ((p1_b.length : Int) : Int).toNat 0 ((s1409.1.set ((IntKind.i64.wrap (n1224 + (p1_b.length : Int)) : Int).toNat) ⟨IntKind.u32.wrap (IntKind.i64.wrap (s1409.2.1 + (IntKind.i64.wrap ((IntKind.i64.wrap (y1435.n)) - (IntKind.i64.wrap (s1409.2.2))))))⟩), 0)) else (m_large_divWords_b19 l1218 n1224 nx1228 (s1409.1.set ((IntKind.i64.wrap (n1224 + (p1_b.length : Int)) : Int).toNat) ⟨IntKind.u32.wrap (IntKind.i64.wrap (s1409.2.1 + (IntKind.i64.wrap ((IntKind.i64.wrap (y1435.n)) - (IntKind.i64.wrap (s1409.2.2))))))⟩) n1352)) zs1414' k1356 (l1403, n1405, n1406) = some r ∧ Rw H' v143 xs1402 l1403 ∧ H1353.le H' ∧ .row v143 80 (Rep.sz U32) l1403.length xs1402 :: .row v155 80 (Rep.sz U32) l1218.length xs1217 :: .row v149 80 (Rep.sz U32) (slc r134 0 (((p1_b.length : Int) : Int).toNat)).length xs150 :: M = M' ∧ [(4, v155), (8, .int .i64 (r127)), (9, v143), (10, v149), (11, .int .i64 ((p1_b.length : Int))), (12, .int .i64 (n1224)), (14, .int .u64 (n1352)), (16, .int .i64 (n1405)), (17, .int .u64 (n1406)), (142, .int .i64 ((p1_b.length : Int))), (143, .int .i64 ((k1356 : Int)))] = L') _ ⟨0, _, l1222, 0, 0, xs1221, Nat.zero_add _, rfl, hm, (((hr1223.mono hle1246).mono hle1258).mono hle1354), (Hp.le_refl _), rfl, rfl⟩ ?_
      rintro _ H1407 _ _ ⟨k1356, zs1414', l1403, n1405, n1406, xs1402, hd1416, rfl, hm, hr1404, hle1408, rfl, rfl⟩
      refine C_seq (C_region ?_)
      refine W_bin rfl rfl rfl rfl rfl ?_
      refine W_end (E_then (C_seq ?_))
      refine C_cond (b := decide ((k1356 : Int) < (p1_b.length : Int))) rfl (fun hb1418 => ?_) (fun hb1418 => ?_)
      ·obtain ⟨zs1414, rfl, hd1417, hy1415⟩ := rngN_t hd1416 hb1418
       have hm : m_large_divWords_b17 p1_b r134 n1224 n1352 k1356 l1403 n1405 n1406 (forN (fun k s1409 n => m_large_divWords_b17 p1_b r134 n1224 n1352 k s1409.1 s1409.2.1 s1409.2.2 n) (fun s1409 => idx s1409.1 (IntKind.i64.wrap (n1224 + (p1_b.length : Int))) fun y1435 => idx s1409.1 (IntKind.i64.wrap (n1224 + (p1_b.length : Int))) fun y1439 => if decide ((IntKind.i64.wrap (s1409.2.1 + (IntKind.i64.wrap ((IntKind.i64.wrap (y1435.n)) - (IntKind.i64.wrap (s1409.2.2)))))) < 0) then (forN (fun k s1621 n => m_large_divWords_b20 p1_b r134 n1224 k s1621.1 s1621.2 n) (fun s1621 => idx s1621.1 (IntKind.i64.wrap (n1224 + (p1_b.length : Int))) fun y1649 => idx s1621.1 (IntKind.i64.wrap (n1224 + (p1_b.length : Int))) fun y1653 => m_large_divWords_b19 l1218 n1224 nx1228 (s1621.1.set ((IntKind.i64.wrap (n1224 + (p1_b.length : Int)) : Int).toNat) ⟨IntKind.u32.wrap (y1649.n + (IntKind.u32.wrap (s1621.2)))⟩) (IntKind.u64.wrap (n1352 - 1))) ((p1_b.length : Int) : Int).toNat 0 ((s1409.1.set ((IntKind.i64.wrap (n1224 + (p1_b.length : Int)) : Int).toNat) ⟨IntKind.u32.wrap (IntKind.i64.wrap (s1409.2.1 + (IntKind.i64.wrap ((IntKind.i64.wrap (y1435.n)) - (IntKind.i64.wrap (s1409.2.2))))))⟩), 0)) else (m_large_divWords_b19 l1218 n1224 nx1228 (s1409.1.set ((IntKind.i64.wrap (n1224 + (p1_b.length : Int)) : Int).toNat) ⟨IntKind.u32.wrap (IntKind.i64.wrap (s1409.2.1 + (IntKind.i64.wrap ((IntKind.i64.wrap (y1435.n)) - (IntKind.i64.wrap (s1409.2.2))))))⟩) n1352)) zs1414 (k1356 + 1)) = some r := hm
       generalize hn1411 : forN (fun k s1409 n => m_large_divWords_b17 p1_b r134 n1224 n1352 k s1409.1 s1409.2.1 s1409.2.2 n) (fun s1409 => idx s1409.1 (IntKind.i64.wrap (n1224 + (p1_b.length : Int))) fun y1435 => idx s1409.1 (IntKind.i64.wrap (n1224 + (p1_b.length : Int))) fun y1439 => if decide ((IntKind.i64.wrap (s1409.2.1 + (IntKind.i64.wrap ((IntKind.i64.wrap (y1435.n)) - (IntKind.i64.wrap (s1409.2.2)))))) < 0) then (forN (fun k s1621 n => m_large_divWords_b20 p1_b r134 n1224 k s1621.1 s1621.2 n) (fun s1621 => idx s1621.1 (IntKind.i64.wrap (n1224 + (p1_b.length : Int))) fun y1649 => idx s1621.1 (IntKind.i64.wrap (n1224 + (p1_b.length : Int))) fun y1653 => m_large_divWords_b19 l1218 n1224 nx1228 (s1621.1.set ((IntKind.i64.wrap (n1224 + (p1_b.length : Int)) : Int).toNat) ⟨IntKind.u32.wrap (y1649.n + (IntKind.u32.wrap (s1621.2)))⟩) (IntKind.u64.wrap (n1352 - 1))) ((p1_b.length : Int) : Int).toNat 0 ((s1409.1.set ((IntKind.i64.wrap (n1224 + (p1_b.length : Int)) : Int).toNat) ⟨IntKind.u32.wrap (IntKind.i64.wrap (s1409.2.1 + (IntKind.i64.wrap ((IntKind.i64.wrap (y1435.n)) - (IntKind.i64.wrap (s1409.2.2))))))⟩), 0)) else (m_large_divWords_b19 l1218 n1224 nx1228 (s1409.1.set ((IntKind.i64.wrap (n1224 + (p1_b.length : Int)) : Int).toNat) ⟨IntKind.u32.wrap (IntKind.i64.wrap (s1409.2.1 + (IntKind.i64.wrap ((IntKind.i64.wrap (y1435.n)) - (IntKind.i64.wrap (s1409.2.2))))))⟩) n1352)) zs1414 (k1356 + 1) = nx1410 at hm
       unfold m_large_divWords_b17 at hm
       refine C_skip (E_then (C_seq (C_block (C_seq (C_region ?_)))))
       refine W_move rfl rfl rfl ?_
       refine W_assign rfl rfl rfl ?_
       refine W_end (E_then (C_seq (C_region ?_)))
       refine W_move rfl rfl rfl ?_
       refine W_move rfl rfl rfl ?_
       refine W_move rfl rfl rfl ?_
       refine W_move rfl rfl rfl ?_
       obtain ⟨y1419, h1420, he1421, hm⟩ := idx_some hm
       refine W_indexO (List.mem_cons_of_mem _ (List.mem_cons_of_mem _ (List.mem_cons_self ..))) rfl rfl runUnderlying45 sizeOf80 rfl rfl h1420 (List.getElem?_eq_some_iff.1 he1421).1 ?_
       obtain ⟨_, rfl, hg1422⟩ := (hr151).elem he1421
       refine W_load rfl rfl isAgg80 rfl (row_one0 (List.mem_cons_of_mem _ (List.mem_cons_of_mem _ (List.mem_cons_self ..))) hg1422 rfl) ?_
       refine W_convInt rfl rfl runUnderlying80 runUnderlying84 rfl ?_
       refine W_bin rfl rfl rfl rfl rfl ?_
       refine W_bin rfl rfl rfl rfl rfl ?_
       refine W_assign rfl rfl rfl ?_
       refine W_end (E_then (C_seq (C_region ?_)))
       refine W_move rfl rfl rfl ?_
       refine W_move rfl rfl rfl ?_
       refine W_move rfl rfl rfl ?_
       refine W_move rfl rfl rfl ?_
       refine W_bin rfl rfl rfl rfl rfl ?_
       obtain ⟨y1423, h1424, he1425, hm⟩ := idx_some hm
       refine W_indexO (List.mem_cons_self ..) rfl rfl runUnderlying45 sizeOf80 rfl rfl h1424 (List.getElem?_eq_some_iff.1 he1425).1 ?_
       obtain ⟨_, rfl, hg1426⟩ := (hr1404).elem he1425
       refine W_load rfl rfl isAgg80 rfl (row_one0 (List.mem_cons_self ..) hg1426 rfl) ?_
       refine W_convInt rfl rfl runUnderlying80 runUnderlying2 rfl ?_
       refine W_move rfl rfl rfl ?_
       refine W_bin rfl rfl rfl rfl rfl ?_
       refine W_convInt rfl rfl runUnderlying84 runUnderlying2 rfl ?_
       refine W_bin rfl rfl rfl rfl rfl ?_
       refine W_bin rfl rfl rfl rfl rfl ?_
       refine W_assign rfl rfl rfl ?_
       refine W_end (E_then (C_seq (C_region ?_)))
       refine W_move rfl rfl rfl ?_
       refine W_move rfl rfl rfl ?_
       refine W_move rfl rfl rfl ?_
       refine W_bin rfl rfl rfl rfl rfl ?_
       refine W_move rfl rfl rfl ?_
       refine W_convInt rfl rfl runUnderlying2 runUnderlying80 rfl ?_
       obtain ⟨y1427, h1428, he1429, hm⟩ := idx_some hm
       refine W_indexO (List.mem_cons_self ..) rfl rfl runUnderlying45 sizeOf80 rfl rfl h1428 (List.getElem?_eq_some_iff.1 he1429).1 ?_
       obtain ⟨_, rfl, hg1430⟩ := (hr1404).elem he1429
       obtain ⟨hr1431, he1432, hg1433⟩ := Rw.put (cs := [.int .u32 (IntKind.u32.wrap (IntKind.i64.wrap (n1405 + (IntKind.i64.wrap ((IntKind.i64.wrap (y1423.n)) - (IntKind.i64.wrap (IntKind.u64.wrap ((BitVec.ofInt (IntKind.u64).bits (IntKind.u64.wrap (n1406 + (IntKind.u64.wrap (n1352 * (IntKind.u64.wrap (y1419.n)))))) &&& BitVec.ofInt (IntKind.u64).bits 4294967295).toNat))))))))]) (o := 0) (c := [.int .u32 (y1427.n)]) (out := [.int .u32 (IntKind.u32.wrap (IntKind.i64.wrap (n1405 + (IntKind.i64.wrap ((IntKind.i64.wrap (y1423.n)) - (IntKind.i64.wrap (IntKind.u64.wrap ((BitVec.ofInt (IntKind.u64).bits (IntKind.u64.wrap (n1406 + (IntKind.u64.wrap (n1352 * (IntKind.u64.wrap (y1419.n)))))) &&& BitVec.ofInt (IntKind.u64).bits 4294967295).toNat))))))))]) (e2 := ⟨IntKind.u32.wrap (IntKind.i64.wrap (n1405 + (IntKind.i64.wrap ((IntKind.i64.wrap (y1423.n)) - (IntKind.i64.wrap (IntKind.u64.wrap ((BitVec.ofInt (IntKind.u64).bits (IntKind.u64.wrap (n1406 + (IntKind.u64.wrap (n1352 * (IntKind.u64.wrap (y1419.n)))))) &&& BitVec.ofInt (IntKind.u64).bits 4294967295).toNat)))))))⟩) hr1404 he1429 rfl hg1430 rfl rfl rfl
       refine W_storeO2 (i := (IntKind.i64.wrap ((k1356 : Int) + n1224) : Int).toNat * Rep.sz U32 + 0) (cs := [.int .u32 (IntKind.u32.wrap (IntKind.i64.wrap (n1405 + (IntKind.i64.wrap ((IntKind.i64.wrap (y1423.n)) - (IntKind.i64.wrap (IntKind.u64.wrap ((BitVec.ofInt (IntKind.u64).bits (IntKind.u64.wrap (n1406 + (IntKind.u64.wrap (n1352 * (IntKind.u64.wrap (y1419.n)))))) &&& BitVec.ofInt (IntKind.u64).bits 4294967295).toNat))))))))]) rfl sizeOf80 rfl (row_ad0 _ _) rfl rfl rfl (Rw.room hr1404 he1429 rfl) rfl (all_cons rfl all_nil) (n' := (l1403.set ((IntKind.i64.wrap ((k1356 : Int) + n1224) : Int).toNat) ⟨IntKind.u32.wrap (IntKind.i64.wrap (n1405 + (IntKind.i64.wrap ((IntKind.i64.wrap (y1423.n)) - (IntKind.i64.wrap (IntKind.u64.wrap ((BitVec.ofInt (IntKind.u64).bits (IntKind.u64.wrap (n1406 + (IntKind.u64.wrap (n1352 * (IntKind.u64.wrap (y1419.n)))))) &&& BitVec.ofInt (IntKind.u64).bits 4294967295).toNat)))))))⟩).length) List.length_set ?_
       generalize over xs1402 ((IntKind.i64.wrap ((k1356 : Int) + n1224) : Int).toNat * Rep.sz U32 + 0) [.int .u32 (IntKind.u32.wrap (IntKind.i64.wrap (n1405 + (IntKind.i64.wrap ((IntKind.i64.wrap (y1423.n)) - (IntKind.i64.wrap (IntKind.u64.wrap ((BitVec.ofInt (IntKind.u64).bits (IntKind.u64.wrap (n1406 + (IntKind.u64.wrap (n1352 * (IntKind.u64.wrap (y1419.n)))))) &&& BitVec.ofInt (IntKind.u64).bits 4294967295).toNat))))))))] = xs1434 at hr1431 hg1433 ⊢
       refine W_end (E_then (C_seq (C_region ?_)))
       refine W_move rfl rfl rfl ?_
       refine W_shr rfl rfl rfl rfl (by decide) ?_
       refine W_assign rfl rfl rfl ?_
       refine W_end (E_then (C_region ?_))
       refine W_move rfl rfl rfl ?_
       refine W_shr rfl rfl rfl rfl (by decide) ?_
       refine W_assign rfl rfl rfl ?_
       refine W_end (E_normal_block (E_then (C_region ?_)))
       refine W_bin rfl rfl rfl rfl rfl ?_
       refine W_move rfl rfl rfl ?_
       refine W_end ?_
       exact E_keepJ (E_back (Nat.lt_succ_self _) ⟨k1356 + 1, zs1414, (l1403.set ((IntKind.i64.wrap ((k1356 : Int) + n1224) : Int).toNat) ⟨IntKind.u32.wrap (IntKind.i64.wrap (n1405 + (IntKind.i64.wrap ((IntKind.i64.wrap (y1423.n)) - (IntKind.i64.wrap (IntKind.u64.wrap ((BitVec.ofInt (IntKind.u64).bits (IntKind.u64.wrap (n1406 + (IntKind.u64.wrap (n1352 * (IntKind.u64.wrap (y1419.n)))))) &&& BitVec.ofInt (IntKind.u64).bits 4294967295).toNat)))))))⟩), shrV .i64 (IntKind.i64.wrap (n1405 + (IntKind.i64.wrap ((IntKind.i64.wrap (y1423.n)) - (IntKind.i64.wrap (IntKind.u64.wrap ((BitVec.ofInt (IntKind.u64).bits (IntKind.u64.wrap (n1406 + (IntKind.u64.wrap (n1352 * (IntKind.u64.wrap (y1419.n)))))) &&& BitVec.ofInt (IntKind.u64).bits 4294967295).toNat))))))) 32, shrV .u64 (IntKind.u64.wrap (n1406 + (IntKind.u64.wrap (n1352 * (IntKind.u64.wrap (y1419.n)))))) 32, xs1434, hd1417, rfl, (by rw [hn1411]; exact hm), hr1431, hle1408, rfl, rfl⟩) (List.Perm.refl _) ⟨rfl, rfl, rfl, rfl, rfl, rfl, rfl, rfl, rfl, rfl, (congrArg (fun z => some (Value.int .i64 z)) (i64_succN hy1415 (toNat_max (len_max ((((((h1.mono hle153).mono hle1226).mono hle1246).mono hle1258).mono hle1354)).lenMax)))), trivial⟩
      ·obtain rfl := rngN_f hd1416 hb1418
       have hm : (idx l1403 (IntKind.i64.wrap (n1224 + (p1_b.length : Int))) fun y1435 => idx l1403 (IntKind.i64.wrap (n1224 + (p1_b.length : Int))) fun y1439 => if decide ((IntKind.i64.wrap (n1405 + (IntKind.i64.wrap ((IntKind.i64.wrap (y1435.n)) - (IntKind.i64.wrap (n1406)))))) < 0) then (forN (fun k s1621 n => m_large_divWords_b20 p1_b r134 n1224 k s1621.1 s1621.2 n) (fun s1621 => idx s1621.1 (IntKind.i64.wrap (n1224 + (p1_b.length : Int))) fun y1649 => idx s1621.1 (IntKind.i64.wrap (n1224 + (p1_b.length : Int))) fun y1653 => m_large_divWords_b19 l1218 n1224 nx1228 (s1621.1.set ((IntKind.i64.wrap (n1224 + (p1_b.length : Int)) : Int).toNat) ⟨IntKind.u32.wrap (y1649.n + (IntKind.u32.wrap (s1621.2)))⟩) (IntKind.u64.wrap (n1352 - 1))) ((p1_b.length : Int) : Int).toNat 0 ((l1403.set ((IntKind.i64.wrap (n1224 + (p1_b.length : Int)) : Int).toNat) ⟨IntKind.u32.wrap (IntKind.i64.wrap (n1405 + (IntKind.i64.wrap ((IntKind.i64.wrap (y1435.n)) - (IntKind.i64.wrap (n1406))))))⟩), 0)) else (m_large_divWords_b19 l1218 n1224 nx1228 (l1403.set ((IntKind.i64.wrap (n1224 + (p1_b.length : Int)) : Int).toNat) ⟨IntKind.u32.wrap (IntKind.i64.wrap (n1405 + (IntKind.i64.wrap ((IntKind.i64.wrap (y1435.n)) - (IntKind.i64.wrap (n1406))))))⟩) n1352)) = some r := hm
       refine C_exit (E_exit_then (E_exit_then (E_exit_hit (E_then (C_seq (C_region ?_))))))
       refine W_move rfl rfl rfl ?_
       refine W_move rfl rfl rfl ?_
       refine W_move rfl rfl rfl ?_
       refine W_move rfl rfl rfl ?_
       refine W_bin rfl rfl rfl rfl rfl ?_
       obtain ⟨y1435, h1436, he1437, hm⟩ := idx_some hm
       refine W_indexO (List.mem_cons_self ..) rfl rfl runUnderlying45 sizeOf80 rfl rfl h1436 (List.getElem?_eq_some_iff.1 he1437).1 ?_
       obtain ⟨_, rfl, hg1438⟩ := (hr1404).elem he1437
       refine W_load rfl rfl isAgg80 rfl (row_one0 (List.mem_cons_self ..) hg1438 rfl) ?_
       refine W_convInt rfl rfl runUnderlying80 runUnderlying2 rfl ?_
       refine W_move rfl rfl rfl ?_
       refine W_convInt rfl rfl runUnderlying84 runUnderlying2 rfl ?_
       refine W_bin rfl rfl rfl rfl rfl ?_
       refine W_bin rfl rfl rfl rfl rfl ?_
       refine W_assign rfl rfl rfl ?_
       refine W_end (E_then (C_seq (C_region ?_)))
       refine W_move rfl rfl rfl ?_
       refine W_move rfl rfl rfl ?_
       refine W_move rfl rfl rfl ?_
       refine W_bin rfl rfl rfl rfl rfl ?_
       refine W_move rfl rfl rfl ?_
       refine W_convInt rfl rfl runUnderlying2 runUnderlying80 rfl ?_
       obtain ⟨y1439, h1440, he1441, hm⟩ := idx_some hm
       refine W_indexO (List.mem_cons_self ..) rfl rfl runUnderlying45 sizeOf80 rfl rfl h1440 (List.getElem?_eq_some_iff.1 he1441).1 ?_
       obtain ⟨_, rfl, hg1442⟩ := (hr1404).elem he1441
       obtain ⟨hr1443, he1444, hg1445⟩ := Rw.put (cs := [.int .u32 (IntKind.u32.wrap (IntKind.i64.wrap (n1405 + (IntKind.i64.wrap ((IntKind.i64.wrap (y1435.n)) - (IntKind.i64.wrap (n1406)))))))]) (o := 0) (c := [.int .u32 (y1439.n)]) (out := [.int .u32 (IntKind.u32.wrap (IntKind.i64.wrap (n1405 + (IntKind.i64.wrap ((IntKind.i64.wrap (y1435.n)) - (IntKind.i64.wrap (n1406)))))))]) (e2 := ⟨IntKind.u32.wrap (IntKind.i64.wrap (n1405 + (IntKind.i64.wrap ((IntKind.i64.wrap (y1435.n)) - (IntKind.i64.wrap (n1406))))))⟩) hr1404 he1441 rfl hg1442 rfl rfl rfl
       refine W_storeO2 (i := (IntKind.i64.wrap (n1224 + (p1_b.length : Int)) : Int).toNat * Rep.sz U32 + 0) (cs := [.int .u32 (IntKind.u32.wrap (IntKind.i64.wrap (n1405 + (IntKind.i64.wrap ((IntKind.i64.wrap (y1435.n)) - (IntKind.i64.wrap (n1406)))))))]) rfl sizeOf80 rfl (row_ad0 _ _) rfl rfl rfl (Rw.room hr1404 he1441 rfl) rfl (all_cons rfl all_nil) (n' := (l1403.set ((IntKind.i64.wrap (n1224 + (p1_b.length : Int)) : Int).toNat) ⟨IntKind.u32.wrap (IntKind.i64.wrap (n1405 + (IntKind.i64.wrap ((IntKind.i64.wrap (y1435.n)) - (IntKind.i64.wrap (n1406))))))⟩).length) List.length_set ?_
       generalize over xs1402 ((IntKind.i64.wrap (n1224 + (p1_b.length : Int)) : Int).toNat * Rep.sz U32 + 0) [.int .u32 (IntKind.u32.wrap (IntKind.i64.wrap (n1405 + (IntKind.i64.wrap ((IntKind.i64.wrap (y1435.n)) - (IntKind.i64.wrap (n1406)))))))] = xs1446 at hr1443 hg1445 ⊢
       refine W_end (E_then ?_)
       refine C_seq_join (fun H' M' L' => ∃ l1548 : List U32, ∃ n1550 : Int, ∃ xs1547 : List Value, m_large_divWords_b19 l1218 n1224 nx1228 l1548 n1550 = some r ∧ Rw H' v143 xs1547 l1548 ∧ H1407.le H' ∧ .row v143 80 (Rep.sz U32) l1548.length xs1547 :: .row v155 80 (Rep.sz U32) l1218.length xs1217 :: .row v149 80 (Rep.sz U32) (slc r134 0 (((p1_b.length : Int) : Int).toNat)).length xs150 :: M = M' ∧ [(4, v155), (8, .int .i64 (r127)), (9, v143), (10, v149), (11, .int .i64 ((p1_b.length : Int))), (12, .int .i64 (n1224)), (14, .int .u64 (n1550))] = L') ?_ (fun J1553 => ?_)
       ·rintro H1551 _ _ ⟨l1548, n1550, xs1547, hm, hr1549, hle1552, rfl, rfl⟩
        unfold m_large_divWords_b19 at hm
        refine C_region ?_
        refine W_move rfl rfl rfl ?_
        refine W_move rfl rfl rfl ?_
        refine W_move rfl rfl rfl ?_
        refine W_convInt rfl rfl runUnderlying84 runUnderlying80 rfl ?_
        obtain ⟨y1554, h1555, he1556, hm⟩ := idx_some hm
        refine W_indexO (List.mem_cons_of_mem _ (List.mem_cons_self ..)) rfl rfl runUnderlying45 sizeOf80 rfl rfl h1555 (List.getElem?_eq_some_iff.1 he1556).1 ?_
        obtain ⟨_, rfl, hg1557⟩ := (hr1219).elem he1556
        refine W_perm (List.Perm.swap _ _ _) ?_
        obtain ⟨hr1558, he1559, hg1560⟩ := Rw.put (cs := [.int .u32 (IntKind.u32.wrap (n1550))]) (o := 0) (c := [.int .u32 (y1554.n)]) (out := [.int .u32 (IntKind.u32.wrap (n1550))]) (e2 := ⟨IntKind.u32.wrap (n1550)⟩) (((((hr1219.mono hle1246).mono hle1258).mono hle1354).mono hle1408).mono hle1552) he1556 rfl hg1557 rfl rfl rfl
        refine W_storeO2 (i := (n1224 : Int).toNat * Rep.sz U32 + 0) (cs := [.int .u32 (IntKind.u32.wrap (n1550))]) rfl sizeOf80 rfl (row_ad0 _ _) rfl rfl rfl (Rw.room (((((hr1219.mono hle1246).mono hle1258).mono hle1354).mono hle1408).mono hle1552) he1556 rfl) rfl (all_cons rfl all_nil) (n' := (l1218.set ((n1224 : Int).toNat) ⟨IntKind.u32.wrap (n1550)⟩).length) List.length_set ?_
        generalize over xs1217 ((n1224 : Int).toNat * Rep.sz U32 + 0) [.int .u32 (IntKind.u32.wrap (n1550))] = xs1561 at hr1558 hg1560 ⊢
        refine W_end (E_normal_block (E_then (C_region ?_)))
        refine W_move rfl rfl rfl ?_
        refine W_bin rfl rfl rfl rfl rfl ?_
        refine W_assign rfl rfl rfl ?_
        refine W_end ?_
        exact E_keepJ (E_back (Nat.lt_succ_self _) ⟨(l1218.set ((n1224 : Int).toNat) ⟨IntKind.u32.wrap (n1550)⟩), l1548, IntKind.i64.wrap (n1224 - 1), xs1561, xs1547, (by rw [hn1229]; exact hm), hr1558, hr1549, (Hp.le_trans (Hp.le_trans (Hp.le_trans (Hp.le_trans (Hp.le_trans hle1226 hle1246) hle1258) hle1354) hle1408) hle1552), rfl, rfl⟩) (List.Perm.refl _) ⟨rfl, rfl, rfl, rfl, rfl, rfl, trivial⟩
       ·refine C_seq (C_region ?_)
        refine W_move rfl rfl rfl ?_
        refine W_bin rfl rfl rfl rfl rfl ?_
        refine W_end (E_then ?_)
        refine C_cond (b := decide ((IntKind.i64.wrap (n1405 + (IntKind.i64.wrap ((IntKind.i64.wrap (y1435.n)) - (IntKind.i64.wrap (n1406)))))) < 0)) rfl (fun hb1562 => ?_) (fun hb1562 => ?_)
        ·have hm := ite_t' hb1562 hm
         refine C_seq (C_region ?_)
         refine W_move rfl rfl rfl ?_
         refine W_bin rfl rfl rfl rfl rfl ?_
         refine W_assign rfl rfl rfl ?_
         refine W_end (E_then (C_seq (C_region ?_)))
         refine W_assign rfl rfl rfl ?_
         refine W_end (E_then (C_seq (C_seq (C_region ?_))))
         refine W_move rfl rfl rfl ?_
         refine W_move rfl rfl rfl ?_
         refine W_end (E_then (C_block ?_))
         refine C_keep (L' := [(4, v155), (8, .int .i64 (r127)), (9, v143), (10, v149), (11, .int .i64 ((p1_b.length : Int))), (12, .int .i64 (n1224)), (14, .int .u64 (IntKind.u64.wrap (n1352 - 1))), (19, .int .u64 (0)), (203, .int .i64 ((p1_b.length : Int))), (204, .int .i64 (((0 : Nat) : Int)))]) ⟨rfl, rfl, rfl, rfl, rfl, rfl, rfl, rfl, rfl, rfl, trivial⟩ (List.Perm.refl _) ?_
         refine C_loop (fun n H' M' L' => ∃ (k1563 : Nat) (zs1626' : Nat), ∃ l1616 : List U32, ∃ n1618 : Int, ∃ xs1615 : List Value, k1563 + zs1626' = ((p1_b.length : Int) : Int).toNat ∧ zs1626' = n ∧ forN (fun k s1621 n => m_large_divWords_b20 p1_b r134 n1224 k s1621.1 s1621.2 n) (fun s1621 => idx s1621.1 (IntKind.i64.wrap (n1224 + (p1_b.length : Int))) fun y1649 => idx s1621.1 (IntKind.i64.wrap (n1224 + (p1_b.length : Int))) fun y1653 => m_large_divWords_b19 l1218 n1224 nx1228 (s1621.1.set ((IntKind.i64.wrap (n1224 + (p1_b.length : Int)) : Int).toNat) ⟨IntKind.u32.wrap (y1649.n + (IntKind.u32.wrap (s1621.2)))⟩) (IntKind.u64.wrap (n1352 - 1))) zs1626' k1563 (l1616, n1618) = some r ∧ Rw H' v143 xs1615 l1616 ∧ H1407.le H' ∧ .row v143 80 (Rep.sz U32) l1616.length xs1615 :: .row v155 80 (Rep.sz U32) l1218.length xs1217 :: .row v149 80 (Rep.sz U32) (slc r134 0 (((p1_b.length : Int) : Int).toNat)).length xs150 :: M = M' ∧ [(4, v155), (8, .int .i64 (r127)), (9, v143), (10, v149), (11, .int .i64 ((p1_b.length : Int))), (12, .int .i64 (n1224)), (14, .int .u64 (IntKind.u64.wrap (n1352 - 1))), (19, .int .u64 (n1618)), (203, .int .i64 ((p1_b.length : Int))), (204, .int .i64 ((k1563 : Int)))] = L') _ ⟨0, _, (l1403.set ((IntKind.i64.wrap (n1224 + (p1_b.length : Int)) : Int).toNat) ⟨IntKind.u32.wrap (IntKind.i64.wrap (n1405 + (IntKind.i64.wrap ((IntKind.i64.wrap (y1435.n)) - (IntKind.i64.wrap (n1406))))))⟩), 0, xs1446, Nat.zero_add _, rfl, hm, hr1443, (Hp.le_refl _), rfl, rfl⟩ ?_
         rintro _ H1619 _ _ ⟨k1563, zs1626', l1616, n1618, xs1615, hd1628, rfl, hm, hr1617, hle1620, rfl, rfl⟩
         refine C_seq (C_region ?_)
         refine W_bin rfl rfl rfl rfl rfl ?_
         refine W_end (E_then (C_seq ?_))
         refine C_cond (b := decide ((k1563 : Int) < (p1_b.length : Int))) rfl (fun hb1630 => ?_) (fun hb1630 => ?_)
         ·obtain ⟨zs1626, rfl, hd1629, hy1627⟩ := rngN_t hd1628 hb1630
          have hm : m_large_divWords_b20 p1_b r134 n1224 k1563 l1616 n1618 (forN (fun k s1621 n => m_large_divWords_b20 p1_b r134 n1224 k s1621.1 s1621.2 n) (fun s1621 => idx s1621.1 (IntKind.i64.wrap (n1224 + (p1_b.length : Int))) fun y1649 => idx s1621.1 (IntKind.i64.wrap (n1224 + (p1_b.length : Int))) fun y1653 => m_large_divWords_b19 l1218 n1224 nx1228 (s1621.1.set ((IntKind.i64.wrap (n1224 + (p1_b.length : Int)) : Int).toNat) ⟨IntKind.u32.wrap (y1649.n + (IntKind.u32.wrap (s1621.2)))⟩) (IntKind.u64.wrap (n1352 - 1))) zs1626 (k1563 + 1)) = some r := hm
          generalize hn1623 : forN (fun k s1621 n => m_large_divWords_b20 p1_b r134 n1224 k s1621.1 s1621.2 n) (fun s1621 => idx s1621.1 (IntKind.i64.wrap (n1224 + (p1_b.length : Int))) fun y1649 => idx s1621.1 (IntKind.i64.wrap (n1224 + (p1_b.length : Int))) fun y1653 => m_large_divWords_b19 l1218 n1224 nx1228 (s1621.1.set ((IntKind.i64.wrap (n1224 + (p1_b.length : Int)) : Int).toNat) ⟨IntKind.u32.wrap (y1649.n + (IntKind.u32.wrap (s1621.2)))⟩) (IntKind.u64.wrap (n1352 - 1))) zs1626 (k1563 + 1) = nx1622 at hm
          unfold m_large_divWords_b20 at hm
          refine C_skip (E_then (C_seq (C_block (C_seq (C_region ?_)))))
          refine W_move rfl rfl rfl ?_
          refine W_assign rfl rfl rfl ?_
          refine W_end (E_then (C_seq ?_))
          obtain ⟨y1631, h1632, he1633, hm⟩ := idx_some hm
          obtain ⟨_, rfl, hg1634⟩ := (hr1617).elem he1633
          obtain ⟨y1635, h1636, he1637, hm⟩ := idx_some hm
          obtain ⟨_, rfl, hg1638⟩ := (hr151).elem he1637
          refine C_region_tok0 14 (phiT [(fun H rs v => [] = rs ∧ .int .u64 (n1618) = v), (fun H rs v => [] = rs ∧ v143 = v), (fun H rs v => [] = rs ∧ .int .i64 ((k1563 : Int)) = v), (fun H rs v => [] = rs ∧ .int .i64 (n1224) = v), (fun H rs v => [] = rs ∧ .int .i64 (IntKind.i64.wrap ((k1563 : Int) + n1224)) = v), (fun H rs v => [] = rs ∧ .pointer (some ((Value.base (v143)).add ((IntKind.i64.wrap ((k1563 : Int) + n1224) : Int).toNat * Rep.sz U32))) = v), (fun H rs v => [] = rs ∧ .int .u32 (y1631.n) = v), (fun H rs v => [] = rs ∧ .int .u64 (IntKind.u64.wrap (y1631.n)) = v), (fun H rs v => [] = rs ∧ v149 = v), (fun H rs v => [] = rs ∧ .int .i64 ((k1563 : Int)) = v), (fun H rs v => [] = rs ∧ .pointer (some ((Value.base (v149)).add (((k1563 : Int) : Int).toNat * Rep.sz U32))) = v), (fun H rs v => [] = rs ∧ .int .u32 (y1635.n) = v), (fun H rs v => [] = rs ∧ .int .u64 (IntKind.u64.wrap (y1635.n)) = v), (fun H rs v => [] = rs ∧ .int .u64 (IntKind.u64.wrap ((IntKind.u64.wrap (y1631.n)) + (IntKind.u64.wrap (y1635.n)))) = v)]) [[], [], [], [], [], [], [], [], [], [], [], [], [], []] [[], [], [], [], [], [], [], [], [], [], [], [], [], []] [] [0, 1, 2, 3, 4, 5, 6, 7, 8, 9, 10, 11, 12, 13] Facts.mixed (by kernel_rfl) (by rfl) (by rfl) (by rfl) (by kernel_rfl) (phiT_mono ⟨eq_monoT _ _, eq_monoT _ _, eq_monoT _ _, eq_monoT _ _, eq_monoT _ _, eq_monoT _ _, eq_monoT _ _, eq_monoT _ _, eq_monoT _ _, eq_monoT _ _, eq_monoT _ _, eq_monoT _ _, eq_monoT _ _, eq_monoT _ _, trivial⟩) ⟨?_, ?_, ?_, ?_, ?_, ?_, ?_, ?_, ?_, ?_, ?_, ?_, ?_, ?_, trivial⟩ ?_
          ·intro HX hX X Rest hR
           intro hU hUp
           refine W_move rfl rfl rfl ?_
           exact W_end (OneT_end [] (Hp.le_refl _) ⟨rfl, rfl⟩)
          ·intro HX hX X Rest hR
           intro hU hUp
           refine W_move rfl rfl rfl ?_
           exact W_end (OneT_end [] (Hp.le_refl _) ⟨rfl, rfl⟩)
          ·intro HX hX X Rest hR
           intro hU hUp
           refine W_move rfl rfl rfl ?_
           exact W_end (OneT_end [] (Hp.le_refl _) ⟨rfl, rfl⟩)
          ·intro HX hX X Rest hR
           intro hU hUp
           refine W_move rfl rfl rfl ?_
           exact W_end (OneT_end [] (Hp.le_refl _) ⟨rfl, rfl⟩)
          ·intro HX hX X Rest hR
           rintro _ _ ⟨rfl, rfl⟩
           rintro _ _ ⟨rfl, rfl⟩
           intro hU hUp
           refine W_bin rfl rfl rfl rfl rfl ?_
           exact W_end (OneT_end [] (Hp.le_refl _) ⟨rfl, rfl⟩)
          ·intro HX hX X Rest hR
           rintro _ _ ⟨rfl, rfl⟩
           rintro _ _ ⟨rfl, rfl⟩
           intro hU hUp
           refine W_indexO (hR _ (List.mem_cons_self ..)) rfl rfl runUnderlying45 sizeOf80 rfl rfl h1632 (List.getElem?_eq_some_iff.1 he1633).1 ?_
           exact W_end (OneT_end [] (Hp.le_refl _) ⟨rfl, rfl⟩)
          ·intro HX hX X Rest hR
           rintro _ _ ⟨rfl, rfl⟩
           intro hU hUp
           refine W_load rfl rfl isAgg80 rfl (row_one0 (hR _ (List.mem_cons_self ..)) hg1634 rfl) ?_
           exact W_end (OneT_end [] (Hp.le_refl _) ⟨rfl, rfl⟩)
          ·intro HX hX X Rest hR
           rintro _ _ ⟨rfl, rfl⟩
           intro hU hUp
           refine W_convInt rfl rfl runUnderlying80 runUnderlying84 rfl ?_
           exact W_end (OneT_end [] (Hp.le_refl _) ⟨rfl, rfl⟩)
          ·intro HX hX X Rest hR
           intro hU hUp
           refine W_move rfl rfl rfl ?_
           exact W_end (OneT_end [] (Hp.le_refl _) ⟨rfl, rfl⟩)
          ·intro HX hX X Rest hR
           intro hU hUp
           refine W_move rfl rfl rfl ?_
           exact W_end (OneT_end [] (Hp.le_refl _) ⟨rfl, rfl⟩)
          ·intro HX hX X Rest hR
           rintro _ _ ⟨rfl, rfl⟩
           rintro _ _ ⟨rfl, rfl⟩
           intro hU hUp
           refine W_indexO (hR _ (List.mem_cons_of_mem _ (List.mem_cons_of_mem _ (List.mem_cons_self ..)))) rfl rfl runUnderlying45 sizeOf80 rfl rfl h1636 (List.getElem?_eq_some_iff.1 he1637).1 ?_
           exact W_end (OneT_end [] (Hp.le_refl _) ⟨rfl, rfl⟩)
          ·intro HX hX X Rest hR
           rintro _ _ ⟨rfl, rfl⟩
           intro hU hUp
           refine W_load rfl rfl isAgg80 rfl (row_one0 (hR _ (List.mem_cons_of_mem _ (List.mem_cons_of_mem _ (List.mem_cons_self ..)))) hg1638 rfl) ?_
           exact W_end (OneT_end [] (Hp.le_refl _) ⟨rfl, rfl⟩)
          ·intro HX hX X Rest hR
           rintro _ _ ⟨rfl, rfl⟩
           intro hU hUp
           refine W_convInt rfl rfl runUnderlying80 runUnderlying84 rfl ?_
           exact W_end (OneT_end [] (Hp.le_refl _) ⟨rfl, rfl⟩)
          ·intro HX hX X Rest hR
           rintro _ _ ⟨rfl, rfl⟩
           rintro _ _ ⟨rfl, rfl⟩
           intro hU hUp
           refine W_bin rfl rfl rfl rfl rfl ?_
           exact W_end (OneT_end [] (Hp.le_refl _) ⟨rfl, rfl⟩)
          intro H1639 hle1640
          rintro _ _ ⟨rfl, rfl⟩
          rintro _ _ ⟨rfl, rfl⟩
          rintro _ _ ⟨rfl, rfl⟩
          rintro _ _ ⟨rfl, rfl⟩
          rintro _ _ ⟨rfl, rfl⟩
          rintro _ _ ⟨rfl, rfl⟩
          rintro _ _ ⟨rfl, rfl⟩
          rintro _ _ ⟨rfl, rfl⟩
          rintro _ _ ⟨rfl, rfl⟩
          rintro _ _ ⟨rfl, rfl⟩
          rintro _ _ ⟨rfl, rfl⟩
          rintro _ _ ⟨rfl, rfl⟩
          rintro _ _ ⟨rfl, rfl⟩
          rintro _ _ ⟨rfl, rfl⟩
          refine W_bin rfl rfl rfl rfl rfl ?_
          refine W_assign rfl rfl rfl ?_
          refine W_end (E_then (C_seq (C_region ?_)))
          refine W_move rfl rfl rfl ?_
          refine W_move rfl rfl rfl ?_
          refine W_move rfl rfl rfl ?_
          refine W_bin rfl rfl rfl rfl rfl ?_
          refine W_move rfl rfl rfl ?_
          refine W_convInt rfl rfl runUnderlying84 runUnderlying80 rfl ?_
          obtain ⟨y1641, h1642, he1643, hm⟩ := idx_some hm
          refine W_indexO (List.mem_cons_self ..) rfl rfl runUnderlying45 sizeOf80 rfl rfl h1642 (List.getElem?_eq_some_iff.1 he1643).1 ?_
          obtain ⟨_, rfl, hg1644⟩ := (hr1617).elem he1643
          obtain ⟨hr1645, he1646, hg1647⟩ := Rw.put (cs := [.int .u32 (IntKind.u32.wrap (IntKind.u64.wrap (n1618 + (IntKind.u64.wrap ((IntKind.u64.wrap (y1631.n)) + (IntKind.u64.wrap (y1635.n)))))))]) (o := 0) (c := [.int .u32 (y1641.n)]) (out := [.int .u32 (IntKind.u32.wrap (IntKind.u64.wrap (n1618 + (IntKind.u64.wrap ((IntKind.u64.wrap (y1631.n)) + (IntKind.u64.wrap (y1635.n)))))))]) (e2 := ⟨IntKind.u32.wrap (IntKind.u64.wrap (n1618 + (IntKind.u64.wrap ((IntKind.u64.wrap (y1631.n)) + (IntKind.u64.wrap (y1635.n))))))⟩) (hr1617.mono hle1640) he1643 rfl hg1644 rfl rfl rfl
          refine W_storeO2 (i := (IntKind.i64.wrap ((k1563 : Int) + n1224) : Int).toNat * Rep.sz U32 + 0) (cs := [.int .u32 (IntKind.u32.wrap (IntKind.u64.wrap (n1618 + (IntKind.u64.wrap ((IntKind.u64.wrap (y1631.n)) + (IntKind.u64.wrap (y1635.n)))))))]) rfl sizeOf80 rfl (row_ad0 _ _) rfl rfl rfl (Rw.room (hr1617.mono hle1640) he1643 rfl) rfl (all_cons rfl all_nil) (n' := (l1616.set ((IntKind.i64.wrap ((k1563 : Int) + n1224) : Int).toNat) ⟨IntKind.u32.wrap (IntKind.u64.wrap (n1618 + (IntKind.u64.wrap ((IntKind.u64.wrap (y1631.n)) + (IntKind.u64.wrap (y1635.n))))))⟩).length) List.length_set ?_
          generalize over xs1615 ((IntKind.i64.wrap ((k1563 : Int) + n1224) : Int).toNat * Rep.sz U32 + 0) [.int .u32 (IntKind.u32.wrap (IntKind.u64.wrap (n1618 + (IntKind.u64.wrap ((IntKind.u64.wrap (y1631.n)) + (IntKind.u64.wrap (y1635.n)))))))] = xs1648 at hr1645 hg1647 ⊢
          refine W_end (E_then (C_region ?_))
          refine W_move rfl rfl rfl ?_
          refine W_shr rfl rfl rfl rfl (by decide) ?_
          refine W_assign rfl rfl rfl ?_
          refine W_end (E_normal_block (E_then (C_region ?_)))
          refine W_bin rfl rfl rfl rfl rfl ?_
          refine W_move rfl rfl rfl ?_
          refine W_end ?_
          exact E_keepJ (E_back (Nat.lt_succ_self _) ⟨k1563 + 1, zs1626, (l1616.set ((IntKind.i64.wrap ((k1563 : Int) + n1224) : Int).toNat) ⟨IntKind.u32.wrap (IntKind.u64.wrap (n1618 + (IntKind.u64.wrap ((IntKind.u64.wrap (y1631.n)) + (IntKind.u64.wrap (y1635.n))))))⟩), shrV .u64 (IntKind.u64.wrap (n1618 + (IntKind.u64.wrap ((IntKind.u64.wrap (y1631.n)) + (IntKind.u64.wrap (y1635.n)))))) 32, xs1648, hd1629, rfl, (by rw [hn1623]; exact hm), hr1645, (Hp.le_trans hle1620 hle1640), rfl, rfl⟩) (List.Perm.refl _) ⟨rfl, rfl, rfl, rfl, rfl, rfl, rfl, rfl, rfl, (congrArg (fun z => some (Value.int .i64 z)) (i64_succN hy1627 (toNat_max (len_max (((((((h1.mono hle153).mono hle1226).mono hle1246).mono hle1258).mono hle1354).mono hle1408)).lenMax)))), trivial⟩
         ·obtain rfl := rngN_f hd1628 hb1630
          have hm : (idx l1616 (IntKind.i64.wrap (n1224 + (p1_b.length : Int))) fun y1649 => idx l1616 (IntKind.i64.wrap (n1224 + (p1_b.length : Int))) fun y1653 => m_large_divWords_b19 l1218 n1224 nx1228 (l1616.set ((IntKind.i64.wrap (n1224 + (p1_b.length : Int)) : Int).toNat) ⟨IntKind.u32.wrap (y1649.n + (IntKind.u32.wrap (n1618)))⟩) (IntKind.u64.wrap (n1352 - 1))) = some r := hm
          refine C_exit (E_exit_then (E_exit_then (E_exit_hit (E_then (C_region ?_)))))
          refine W_move rfl rfl rfl ?_
          refine W_move rfl rfl rfl ?_
          refine W_move rfl rfl rfl ?_
          refine W_bin rfl rfl rfl rfl rfl ?_
          obtain ⟨y1649, h1650, he1651, hm⟩ := idx_some hm
          refine W_indexO (List.mem_cons_self ..) rfl rfl runUnderlying45 sizeOf80 rfl rfl h1650 (List.getElem?_eq_some_iff.1 he1651).1 ?_
          obtain ⟨_, rfl, hg1652⟩ := (hr1617).elem he1651
          refine W_load rfl rfl isAgg80 rfl (row_one0 (List.mem_cons_self ..) hg1652 rfl) ?_
          refine W_move rfl rfl rfl ?_
          refine W_convInt rfl rfl runUnderlying84 runUnderlying80 rfl ?_
          refine W_bin rfl rfl rfl rfl rfl ?_
          obtain ⟨y1653, h1654, he1655, hm⟩ := idx_some hm
          refine W_indexO (List.mem_cons_self ..) rfl rfl runUnderlying45 sizeOf80 rfl rfl h1654 (List.getElem?_eq_some_iff.1 he1655).1 ?_
          obtain ⟨_, rfl, hg1656⟩ := (hr1617).elem he1655
          obtain ⟨hr1657, he1658, hg1659⟩ := Rw.put (cs := [.int .u32 (IntKind.u32.wrap (y1649.n + (IntKind.u32.wrap (n1618))))]) (o := 0) (c := [.int .u32 (y1653.n)]) (out := [.int .u32 (IntKind.u32.wrap (y1649.n + (IntKind.u32.wrap (n1618))))]) (e2 := ⟨IntKind.u32.wrap (y1649.n + (IntKind.u32.wrap (n1618)))⟩) hr1617 he1655 rfl hg1656 rfl rfl rfl
          refine W_storeO2 (i := (IntKind.i64.wrap (n1224 + (p1_b.length : Int)) : Int).toNat * Rep.sz U32 + 0) (cs := [.int .u32 (IntKind.u32.wrap (y1649.n + (IntKind.u32.wrap (n1618))))]) rfl sizeOf80 rfl (row_ad0 _ _) rfl rfl rfl (Rw.room hr1617 he1655 rfl) rfl (all_cons rfl all_nil) (n' := (l1616.set ((IntKind.i64.wrap (n1224 + (p1_b.length : Int)) : Int).toNat) ⟨IntKind.u32.wrap (y1649.n + (IntKind.u32.wrap (n1618)))⟩).length) List.length_set ?_
          generalize over xs1615 ((IntKind.i64.wrap (n1224 + (p1_b.length : Int)) : Int).toNat * Rep.sz U32 + 0) [.int .u32 (IntKind.u32.wrap (y1649.n + (IntKind.u32.wrap (n1618))))] = xs1660 at hr1657 hg1659 ⊢
          refine W_end ?_
          exact E_keepJ (J1553 _ _ _ ⟨(l1616.set ((IntKind.i64.wrap (n1224 + (p1_b.length : Int)) : Int).toNat) ⟨IntKind.u32.wrap (y1649.n + (IntKind.u32.wrap (n1618)))⟩), IntKind.u64.wrap (n1352 - 1), xs1660, hm, hr1657, hle1620, rfl, rfl⟩) (List.Perm.refl _) ⟨rfl, rfl, rfl, rfl, rfl, rfl, rfl, trivial⟩
        ·have hm := ite_f' hb1562 hm
         refine C_skip ?_
         exact E_keepJ (J1553 _ _ _ ⟨(l1403.set ((IntKind.i64.wrap (n1224 + (p1_b.length : Int)) : Int).toNat) ⟨IntKind.u32.wrap (IntKind.i64.wrap (n1405 + (IntKind.i64.wrap ((IntKind.i64.wrap (y1435.n)) - (IntKind.i64.wrap (n1406))))))⟩), n1352, xs1446, hm, hr1443, (Hp.le_refl _), rfl, rfl⟩) (List.Perm.refl _) ⟨rfl, rfl, rfl, rfl, rfl, rfl, rfl, trivial⟩
     ·refine C_block ?_
      refine C_keep (L' := [(4, v155), (8, .int .i64 (r127)), (9, v143), (10, v149), (11, .int .i64 ((p1_b.length : Int))), (12, .int .i64 (n1224)), (14, .int .u64 (IntKind.u64.wrap (Int.tdiv (IntKind.u64.wrap ((BitVec.ofInt (IntKind.u64).bits (shlV .u64 (IntKind.u64.wrap (y1237.n)) 32) ||| BitVec.ofInt (IntKind.u64).bits (IntKind.u64.wrap (y1241.n))).toNat)) (IntKind.u64.wrap (y1247.n))))), (15, .int .u64 (Int.tmod (IntKind.u64.wrap ((BitVec.ofInt (IntKind.u64).bits (shlV .u64 (IntKind.u64.wrap (y1237.n)) 32) ||| BitVec.ofInt (IntKind.u64).bits (IntKind.u64.wrap (y1241.n))).toNat)) (IntKind.u64.wrap (y1252.n))))]) ⟨rfl, rfl, rfl, rfl, rfl, rfl, rfl, rfl, trivial⟩ (List.Perm.refl _) ?_
      refine C_loop (fun n H' M' L' => ∃ n1717 : Int, ∃ n1718 : Int, loopF (fun s1721 n => m_large_divWords_b22 p1_b r134 l1218 l1222 n1224 nx1228 s1721.1 s1721.2 n) n (n1717, n1718) = some r ∧ H1257.le H' ∧ .row v155 80 (Rep.sz U32) l1218.length xs1217 :: .row v143 80 (Rep.sz U32) l1222.length xs1221 :: .row v149 80 (Rep.sz U32) (slc r134 0 (((p1_b.length : Int) : Int).toNat)).length xs150 :: M = M' ∧ [(4, v155), (8, .int .i64 (r127)), (9, v143), (10, v149), (11, .int .i64 ((p1_b.length : Int))), (12, .int .i64 (n1224)), (14, .int .u64 (n1717)), (15, .int .u64 (n1718))] = L') FUEL ⟨IntKind.u64.wrap (Int.tdiv (IntKind.u64.wrap ((BitVec.ofInt (IntKind.u64).bits (shlV .u64 (IntKind.u64.wrap (y1237.n)) 32) ||| BitVec.ofInt (IntKind.u64).bits (IntKind.u64.wrap (y1241.n))).toNat)) (IntKind.u64.wrap (y1247.n))), Int.tmod (IntKind.u64.wrap ((BitVec.ofInt (IntKind.u64).bits (shlV .u64 (IntKind.u64.wrap (y1237.n)) 32) ||| BitVec.ofInt (IntKind.u64).bits (IntKind.u64.wrap (y1241.n))).toNat)) (IntKind.u64.wrap (y1252.n)), hm, (Hp.le_refl _), rfl, rfl⟩ ?_
      rintro n1724 H1719 _ _ ⟨n1717, n1718, hm, hle1720, rfl, rfl⟩
      cases n1724 with
      | zero => cases hm
      | succ n1724 =>
       have hm : m_large_divWords_b22 p1_b r134 l1218 l1222 n1224 nx1228 n1717 n1718 (loopF (fun s1721 n => m_large_divWords_b22 p1_b r134 l1218 l1222 n1224 nx1228 s1721.1 s1721.2 n) n1724) = some r := hm
       generalize hn1723 : loopF (fun s1721 n => m_large_divWords_b22 p1_b r134 l1218 l1222 n1224 nx1228 s1721.1 s1721.2 n) n1724 = nx1722 at hm
       unfold m_large_divWords_b22 at hm
       refine C_seq (C_seq ?_)
       cases hb1730 : (decide (4294967296 ≤ n1717))
       ·have hm := ite_f' hb1730 hm
        obtain ⟨y1731, h1732, he1733, hm⟩ := idx_some hm
        obtain ⟨_, rfl, hg1734⟩ := (hr151).elem he1733
        obtain ⟨y1735, h1736, he1737, hm⟩ := idx_some hm
        obtain ⟨_, rfl, hg1738⟩ := (hr1223).elem he1737
        refine C_region_tok0 22 (phiT [(fun H rs v => [] = rs ∧ .int .u64 (n1717) = v), (fun H rs v => [] = rs ∧ .bool (false) = v), (fun H rs v => [] = rs ∧ .bool (false) = v), (fun H rs v => [] = rs ∧ .int .u64 (n1717) = v), (fun H rs v => [] = rs ∧ v149 = v), (fun H rs v => [] = rs ∧ .int .i64 ((p1_b.length : Int)) = v), (fun H rs v => [] = rs ∧ .int .i64 (IntKind.i64.wrap ((p1_b.length : Int) - 2)) = v), (fun H rs v => [] = rs ∧ .pointer (some ((Value.base (v149)).add ((IntKind.i64.wrap ((p1_b.length : Int) - 2) : Int).toNat * Rep.sz U32))) = v), (fun H rs v => [] = rs ∧ .int .u32 (y1731.n) = v), (fun H rs v => [] = rs ∧ .int .u64 (IntKind.u64.wrap (y1731.n)) = v), (fun H rs v => [] = rs ∧ .int .u64 (IntKind.u64.wrap (n1717 * (IntKind.u64.wrap (y1731.n)))) = v), (fun H rs v => [] = rs ∧ .int .u64 (n1718) = v), (fun H rs v => [] = rs ∧ .int .u64 (shlV .u64 n1718 32) = v), (fun H rs v => [] = rs ∧ v143 = v), (fun H rs v => [] = rs ∧ .int .i64 (n1224) = v), (fun H rs v => [] = rs ∧ .int .i64 ((p1_b.length : Int)) = v), (fun H rs v => [] = rs ∧ .int .i64 (IntKind.i64.wrap (n1224 + (p1_b.length : Int))) = v), (fun H rs v => [] = rs ∧ .int .i64 (IntKind.i64.wrap ((IntKind.i64.wrap (n1224 + (p1_b.length : Int))) - 2)) = v), (fun H rs v => [] = rs ∧ .pointer (some ((Value.base (v143)).add ((IntKind.i64.wrap ((IntKind.i64.wrap (n1224 + (p1_b.length : Int))) - 2) : Int).toNat * Rep.sz U32))) = v), (fun H rs v => [] = rs ∧ .int .u32 (y1735.n) = v), (fun H rs v => [] = rs ∧ .int .u64 (IntKind.u64.wrap (y1735.n)) = v), (fun H rs v => [] = rs ∧ .int .u64 (IntKind.u64.wrap ((BitVec.ofInt (IntKind.u64).bits (shlV .u64 n1718 32) ||| BitVec.ofInt (IntKind.u64).bits (IntKind.u64.wrap (y1735.n))).toNat)) = v)]) [[], [], [], [], [], [], [], [], [], [], [], [], [], [], [], [], [], [], [], [], [], []] [[], [], [], [], [], [], [], [], [], [], [], [], [], [], [], [], [], [], [], [], [], []] [] [0, 1, 2, 3, 4, 5, 6, 7, 8, 9, 10, 11, 12, 13, 14, 15, 16, 17, 18, 19, 20, 21] Facts.mixed (by kernel_rfl) (by rfl) (by rfl) (by rfl) (by kernel_rfl) (phiT_mono ⟨eq_monoT _ _, eq_monoT _ _, eq_monoT _ _, eq_monoT _ _, eq_monoT _ _, eq_monoT _ _, eq_monoT _ _, eq_monoT _ _, eq_monoT _ _, eq_monoT _ _, eq_monoT _ _, eq_monoT _ _, eq_monoT _ _, eq_monoT _ _, eq_monoT _ _, eq_monoT _ _, eq_monoT _ _, eq_monoT _ _, eq_monoT _ _, eq_monoT _ _, eq_monoT _ _, eq_monoT _ _, trivial⟩) ⟨?_, ?_, ?_, ?_, ?_, ?_, ?_, ?_, ?_, ?_, ?_, ?_, ?_, ?_, ?_, ?_, ?_, ?_, ?_, ?_, ?_, ?_, trivial⟩ ?_
        ·intro HX hX X Rest hR
         intro hU hUp
         refine W_move rfl rfl rfl ?_
         exact W_end (OneT_end [] (Hp.le_refl _) ⟨rfl, rfl⟩)
        ·intro HX hX X Rest hR
         rintro _ _ ⟨rfl, rfl⟩
         intro hU hUp
         refine W_bin rfl rfl rfl rfl rfl ?_
         exact W_end (OneT_end [] (Hp.le_refl _) ⟨rfl, (by first | rfl | (rw [hb1730]; try rfl))⟩)
        ·intro HX hX X Rest hR
         rintro _ _ ⟨rfl, rfl⟩
         intro hU hUp
         refine W_move rfl rfl rfl ?_
         exact W_end (OneT_end [] (Hp.le_refl _) ⟨rfl, rfl⟩)
        ·intro HX hX X Rest hR
         rintro _ _ ⟨rfl, rfl⟩
         intro hU hUp
         refine W_move rfl rfl rfl ?_
         exact W_end (OneT_end [] (Hp.le_refl _) ⟨rfl, rfl⟩)
        ·intro HX hX X Rest hR
         rintro _ _ ⟨rfl, rfl⟩
         intro hU hUp
         refine W_move rfl rfl rfl ?_
         exact W_end (OneT_end [] (Hp.le_refl _) ⟨rfl, rfl⟩)
        ·intro HX hX X Rest hR
         rintro _ _ ⟨rfl, rfl⟩
         intro hU hUp
         refine W_move rfl rfl rfl ?_
         exact W_end (OneT_end [] (Hp.le_refl _) ⟨rfl, rfl⟩)
        ·intro HX hX X Rest hR
         rintro _ _ ⟨rfl, rfl⟩
         rintro _ _ ⟨rfl, rfl⟩
         intro hU hUp
         refine W_bin rfl rfl rfl rfl rfl ?_
         exact W_end (OneT_end [] (Hp.le_refl _) ⟨rfl, rfl⟩)
        ·intro HX hX X Rest hR
         rintro _ _ ⟨rfl, rfl⟩
         rintro _ _ ⟨rfl, rfl⟩
         rintro _ _ ⟨rfl, rfl⟩
         intro hU hUp
         refine W_indexO (hR _ (List.mem_cons_of_mem _ (List.mem_cons_of_mem _ (List.mem_cons_self ..)))) rfl rfl runUnderlying45 sizeOf80 rfl rfl h1732 (List.getElem?_eq_some_iff.1 he1733).1 ?_
         exact W_end (OneT_end [] (Hp.le_refl _) ⟨rfl, rfl⟩)
        ·intro HX hX X Rest hR
         rintro _ _ ⟨rfl, rfl⟩
         rintro _ _ ⟨rfl, rfl⟩
         intro hU hUp
         refine W_load rfl rfl isAgg80 rfl (row_one0 (hR _ (List.mem_cons_of_mem _ (List.mem_cons_of_mem _ (List.mem_cons_self ..)))) hg1734 rfl) ?_
         exact W_end (OneT_end [] (Hp.le_refl _) ⟨rfl, rfl⟩)
        ·intro HX hX X Rest hR
         rintro _ _ ⟨rfl, rfl⟩
         rintro _ _ ⟨rfl, rfl⟩
         intro hU hUp
         refine W_convInt rfl rfl runUnderlying80 runUnderlying84 rfl ?_
         exact W_end (OneT_end [] (Hp.le_refl _) ⟨rfl, rfl⟩)
        ·intro HX hX X Rest hR
         rintro _ _ ⟨rfl, rfl⟩
         rintro _ _ ⟨rfl, rfl⟩
         rintro _ _ ⟨rfl, rfl⟩
         intro hU hUp
         refine W_bin rfl rfl rfl rfl rfl ?_
         exact W_end (OneT_end [] (Hp.le_refl _) ⟨rfl, rfl⟩)
        ·intro HX hX X Rest hR
         rintro _ _ ⟨rfl, rfl⟩
         intro hU hUp
         refine W_move rfl rfl rfl ?_
         exact W_end (OneT_end [] (Hp.le_refl _) ⟨rfl, rfl⟩)
        ·intro HX hX X Rest hR
         rintro _ _ ⟨rfl, rfl⟩
         rintro _ _ ⟨rfl, rfl⟩
         intro hU hUp
         refine W_shl rfl rfl rfl rfl (by decide) ?_
         exact W_end (OneT_end [] (Hp.le_refl _) ⟨rfl, rfl⟩)
        ·intro HX hX X Rest hR
         rintro _ _ ⟨rfl, rfl⟩
         intro hU hUp
         refine W_move rfl rfl rfl ?_
         exact W_end (OneT_end [] (Hp.le_refl _) ⟨rfl, rfl⟩)
        ·intro HX hX X Rest hR
         rintro _ _ ⟨rfl, rfl⟩
         intro hU hUp
         refine W_move rfl rfl rfl ?_
         exact W_end (OneT_end [] (Hp.le_refl _) ⟨rfl, rfl⟩)
        ·intro HX hX X Rest hR
         rintro _ _ ⟨rfl, rfl⟩
         intro hU hUp
         refine W_move rfl rfl rfl ?_
         exact W_end (OneT_end [] (Hp.le_refl _) ⟨rfl, rfl⟩)
        ·intro HX hX X Rest hR
         rintro _ _ ⟨rfl, rfl⟩
         rintro _ _ ⟨rfl, rfl⟩
         rintro _ _ ⟨rfl, rfl⟩
         intro hU hUp
         refine W_bin rfl rfl rfl rfl rfl ?_
         exact W_end (OneT_end [] (Hp.le_refl _) ⟨rfl, rfl⟩)
        ·intro HX hX X Rest hR
         rintro _ _ ⟨rfl, rfl⟩
         rintro _ _ ⟨rfl, rfl⟩
         intro hU hUp
         refine W_bin rfl rfl rfl rfl rfl ?_
         exact W_end (OneT_end [] (Hp.le_refl _) ⟨rfl, rfl⟩)
        ·intro HX hX X Rest hR
         rintro _ _ ⟨rfl, rfl⟩
         rintro _ _ ⟨rfl, rfl⟩
         rintro _ _ ⟨rfl, rfl⟩
         intro hU hUp
         refine W_indexO (hR _ (List.mem_cons_of_mem _ (List.mem_cons_self ..))) rfl rfl runUnderlying45 sizeOf80 rfl rfl h1736 (List.getElem?_eq_some_iff.1 he1737).1 ?_
         exact W_end (OneT_end [] (Hp.le_refl _) ⟨rfl, rfl⟩)
        ·intro HX hX X Rest hR
         rintro _ _ ⟨rfl, rfl⟩
         rintro _ _ ⟨rfl, rfl⟩
         intro hU hUp
         refine W_load rfl rfl isAgg80 rfl (row_one0 (hR _ (List.mem_cons_of_mem _ (List.mem_cons_self ..))) hg1738 rfl) ?_
         exact W_end (OneT_end [] (Hp.le_refl _) ⟨rfl, rfl⟩)
        ·intro HX hX X Rest hR
         rintro _ _ ⟨rfl, rfl⟩
         rintro _ _ ⟨rfl, rfl⟩
         intro hU hUp
         refine W_convInt rfl rfl runUnderlying80 runUnderlying84 rfl ?_
         exact W_end (OneT_end [] (Hp.le_refl _) ⟨rfl, rfl⟩)
        ·intro HX hX X Rest hR
         rintro _ _ ⟨rfl, rfl⟩
         rintro _ _ ⟨rfl, rfl⟩
         rintro _ _ ⟨rfl, rfl⟩
         intro hU hUp
         refine W_bin rfl rfl rfl rfl rfl ?_
         exact W_end (OneT_end [] (Hp.le_refl _) ⟨rfl, rfl⟩)
        intro H1739 hle1740
        rintro _ _ ⟨rfl, rfl⟩
        rintro _ _ ⟨rfl, rfl⟩
        rintro _ _ ⟨rfl, rfl⟩
        rintro _ _ ⟨rfl, rfl⟩
        rintro _ _ ⟨rfl, rfl⟩
        rintro _ _ ⟨rfl, rfl⟩
        rintro _ _ ⟨rfl, rfl⟩
        rintro _ _ ⟨rfl, rfl⟩
        rintro _ _ ⟨rfl, rfl⟩
        rintro _ _ ⟨rfl, rfl⟩
        rintro _ _ ⟨rfl, rfl⟩
        rintro _ _ ⟨rfl, rfl⟩
        rintro _ _ ⟨rfl, rfl⟩
        rintro _ _ ⟨rfl, rfl⟩
        rintro _ _ ⟨rfl, rfl⟩
        rintro _ _ ⟨rfl, rfl⟩
        rintro _ _ ⟨rfl, rfl⟩
        rintro _ _ ⟨rfl, rfl⟩
        rintro _ _ ⟨rfl, rfl⟩
        rintro _ _ ⟨rfl, rfl⟩
        rintro _ _ ⟨rfl, rfl⟩
        rintro _ _ ⟨rfl, rfl⟩
        refine W_bin rfl rfl rfl rfl rfl ?_
        refine W_pick rfl rfl rfl rfl ?_
        refine W_end (E_then ?_)
        refine C_cond (b := decide ((IntKind.u64.wrap ((BitVec.ofInt (IntKind.u64).bits (shlV .u64 n1718 32) ||| BitVec.ofInt (IntKind.u64).bits (IntKind.u64.wrap (y1735.n))).toNat)) < (IntKind.u64.wrap (n1717 * (IntKind.u64.wrap (y1731.n)))))) rfl (fun hb1741 => ?_) (fun hb1741 => ?_)
        ·have hm := ite_t' hb1741 hm
         refine C_skip (E_then (C_block (C_seq (C_region ?_))))
         refine W_move rfl rfl rfl ?_
         refine W_bin rfl rfl rfl rfl rfl ?_
         refine W_assign rfl rfl rfl ?_
         refine W_end (E_then (C_seq (C_region ?_)))
         refine W_move rfl rfl rfl ?_
         refine W_move rfl rfl rfl ?_
         refine W_move rfl rfl rfl ?_
         refine W_bin rfl rfl rfl rfl rfl ?_
         obtain ⟨y1742, h1743, he1744, hm⟩ := idx_some hm
         refine W_indexO (List.mem_cons_of_mem _ (List.mem_cons_of_mem _ (List.mem_cons_self ..))) rfl rfl runUnderlying45 sizeOf80 rfl rfl h1743 (List.getElem?_eq_some_iff.1 he1744).1 ?_
         obtain ⟨_, rfl, hg1745⟩ := (hr151).elem he1744
         refine W_load rfl rfl isAgg80 rfl (row_one0 (List.mem_cons_of_mem _ (List.mem_cons_of_mem _ (List.mem_cons_self ..))) hg1745 rfl) ?_
         refine W_convInt rfl rfl runUnderlying80 runUnderlying84 rfl ?_
         refine W_bin rfl rfl rfl rfl rfl ?_
         refine W_assign rfl rfl rfl ?_
         refine W_end (E_then (C_seq (C_region ?_)))
         refine W_move rfl rfl rfl ?_
         refine W_bin rfl rfl rfl rfl rfl ?_
         refine W_end (E_then ?_)
         refine C_cond (b := decide (4294967296 ≤ (IntKind.u64.wrap (n1718 + (IntKind.u64.wrap (y1742.n)))))) rfl (fun hb1746 => ?_) (fun hb1746 => ?_)
         ·have hm := ite_t' hb1746 hm
          refine C_exit ?_
          refine E_exit_miss rfl ?_
          refine E_exit_then (E_exit_hit ?_)
          exact E_keepJ (J1355 _ _ _ ⟨IntKind.u64.wrap (n1717 - 1), hm, (Hp.le_trans hle1720 hle1740), rfl, rfl⟩) (List.Perm.refl _) ⟨rfl, rfl, rfl, rfl, rfl, rfl, rfl, trivial⟩
         ·have hm := ite_f' hb1746 hm
          refine C_skip (E_normal_block ?_)
          exact E_keepJ (E_back (Nat.lt_succ_self _) ⟨IntKind.u64.wrap (n1717 - 1), IntKind.u64.wrap (n1718 + (IntKind.u64.wrap (y1742.n))), (by rw [hn1723]; exact hm), (Hp.le_trans hle1720 hle1740), rfl, rfl⟩) (List.Perm.refl _) ⟨rfl, rfl, rfl, rfl, rfl, rfl, rfl, rfl, trivial⟩
        ·have hm := ite_f' hb1741 hm
         refine C_exit (E_exit_then (E_exit_then (E_exit_hit ?_)))
         exact E_keepJ (J1355 _ _ _ ⟨n1717, hm, (Hp.le_trans hle1720 hle1740), rfl, rfl⟩) (List.Perm.refl _) ⟨rfl, rfl, rfl, rfl, rfl, rfl, rfl, trivial⟩
       ·have hm := ite_t' hb1730 hm
        refine C_region_tok0 22 (phiT [(fun H rs v => [] = rs ∧ .int .u64 (n1717) = v), (fun H rs v => [] = rs ∧ .bool (true) = v), (fun H rs v => [] = rs ∧ .bool (true) = v), (fun H rs v => [] = rs ∧ undef = v), (fun H rs v => [] = rs ∧ undef = v), (fun H rs v => [] = rs ∧ undef = v), (fun H rs v => [] = rs ∧ undef = v), (fun H rs v => [] = rs ∧ undef = v), (fun H rs v => [] = rs ∧ undef = v), (fun H rs v => [] = rs ∧ undef = v), (fun H rs v => [] = rs ∧ undef = v), (fun H rs v => [] = rs ∧ undef = v), (fun H rs v => [] = rs ∧ undef = v), (fun H rs v => [] = rs ∧ undef = v), (fun H rs v => [] = rs ∧ undef = v), (fun H rs v => [] = rs ∧ undef = v), (fun H rs v => [] = rs ∧ undef = v), (fun H rs v => [] = rs ∧ undef = v), (fun H rs v => [] = rs ∧ undef = v), (fun H rs v => [] = rs ∧ undef = v), (fun H rs v => [] = rs ∧ undef = v), (fun H rs v => [] = rs ∧ undef = v)]) [[], [], [], [], [], [], [], [], [], [], [], [], [], [], [], [], [], [], [], [], [], []] [[], [], [], [], [], [], [], [], [], [], [], [], [], [], [], [], [], [], [], [], [], []] [] [0, 1, 2, 3, 4, 5, 6, 7, 8, 9, 10, 11, 12, 13, 14, 15, 16, 17, 18, 19, 20, 21] Facts.mixed (by kernel_rfl) (by rfl) (by rfl) (by rfl) (by kernel_rfl) (phiT_mono ⟨eq_monoT _ _, eq_monoT _ _, eq_monoT _ _, eq_monoT _ _, eq_monoT _ _, eq_monoT _ _, eq_monoT _ _, eq_monoT _ _, eq_monoT _ _, eq_monoT _ _, eq_monoT _ _, eq_monoT _ _, eq_monoT _ _, eq_monoT _ _, eq_monoT _ _, eq_monoT _ _, eq_monoT _ _, eq_monoT _ _, eq_monoT _ _, eq_monoT _ _, eq_monoT _ _, eq_monoT _ _, trivial⟩) ⟨?_, ?_, ?_, ?_, ?_, ?_, ?_, ?_, ?_, ?_, ?_, ?_, ?_, ?_, ?_, ?_, ?_, ?_, ?_, ?_, ?_, ?_, trivial⟩ ?_
        ·intro HX hX X Rest hR
         intro hU hUp
         refine W_move rfl rfl rfl ?_
         exact W_end (OneT_end [] (Hp.le_refl _) ⟨rfl, rfl⟩)
        ·intro HX hX X Rest hR
         rintro _ _ ⟨rfl, rfl⟩
         intro hU hUp
         refine W_bin rfl rfl rfl rfl rfl ?_
         exact W_end (OneT_end [] (Hp.le_refl _) ⟨rfl, (by first | rfl | (rw [hb1730]; try rfl))⟩)
        ·intro HX hX X Rest hR
         rintro _ _ ⟨rfl, rfl⟩
         intro hU hUp
         refine W_move rfl rfl rfl ?_
         exact W_end (OneT_end [] (Hp.le_refl _) ⟨rfl, rfl⟩)
        ·intro HX hX X Rest hR
         rintro _ _ ⟨rfl, rfl⟩
         intro hU hUp
         refine W_no rfl rfl rfl ?_
         exact W_end (OneT_end [] (Hp.le_refl _) ⟨rfl, rfl⟩)
        ·intro HX hX X Rest hR
         rintro _ _ ⟨rfl, rfl⟩
         intro hU hUp
         refine W_no rfl rfl rfl ?_
         exact W_end (OneT_end [] (Hp.le_refl _) ⟨rfl, rfl⟩)
        ·intro HX hX X Rest hR
         rintro _ _ ⟨rfl, rfl⟩
         intro hU hUp
         refine W_no rfl rfl rfl ?_
         exact W_end (OneT_end [] (Hp.le_refl _) ⟨rfl, rfl⟩)
        ·intro HX hX X Rest hR
         rintro _ _ ⟨rfl, rfl⟩
         rintro _ _ ⟨rfl, rfl⟩
         intro hU hUp
         refine W_no rfl rfl rfl ?_
         exact W_end (OneT_end [] (Hp.le_refl _) ⟨rfl, rfl⟩)
        ·intro HX hX X Rest hR
         rintro _ _ ⟨rfl, rfl⟩
         rintro _ _ ⟨rfl, rfl⟩
         rintro _ _ ⟨rfl, rfl⟩
         intro hU hUp
         refine W_no rfl rfl rfl ?_
         exact W_end (OneT_end [] (Hp.le_refl _) ⟨rfl, rfl⟩)
        ·intro HX hX X Rest hR
         rintro _ _ ⟨rfl, rfl⟩
         rintro _ _ ⟨rfl, rfl⟩
         intro hU hUp
         refine W_no rfl rfl rfl ?_
         exact W_end (OneT_end [] (Hp.le_refl _) ⟨rfl, rfl⟩)
        ·intro HX hX X Rest hR
         rintro _ _ ⟨rfl, rfl⟩
         rintro _ _ ⟨rfl, rfl⟩
         intro hU hUp
         refine W_no rfl rfl rfl ?_
         exact W_end (OneT_end [] (Hp.le_refl _) ⟨rfl, rfl⟩)
        ·intro HX hX X Rest hR
         rintro _ _ ⟨rfl, rfl⟩
         rintro _ _ ⟨rfl, rfl⟩
         rintro _ _ ⟨rfl, rfl⟩
         intro hU hUp
         refine W_no rfl rfl rfl ?_
         exact W_end (OneT_end [] (Hp.le_refl _) ⟨rfl, rfl⟩)
        ·intro HX hX X Rest hR
         rintro _ _ ⟨rfl, rfl⟩
         intro hU hUp
         refine W_no rfl rfl rfl ?_
         exact W_end (OneT_end [] (Hp.le_refl _) ⟨rfl, rfl⟩)
        ·intro HX hX X Rest hR
         rintro _ _ ⟨rfl, rfl⟩
         rintro _ _ ⟨rfl, rfl⟩
         intro hU hUp
         refine W_no rfl rfl rfl ?_
         exact W_end (OneT_end [] (Hp.le_refl _) ⟨rfl, rfl⟩)
        ·intro HX hX X Rest hR
         rintro _ _ ⟨rfl, rfl⟩
         intro hU hUp
         refine W_no rfl rfl rfl ?_
         exact W_end (OneT_end [] (Hp.le_refl _) ⟨rfl, rfl⟩)
        ·intro HX hX X Rest hR
         rintro _ _ ⟨rfl, rfl⟩
         intro hU hUp
         refine W_no rfl rfl rfl ?_
         exact W_end (OneT_end [] (Hp.le_refl _) ⟨rfl, rfl⟩)
        ·intro HX hX X Rest hR
         rintro _ _ ⟨rfl, rfl⟩
         intro hU hUp
         refine W_no rfl rfl rfl ?_
         exact W_end (OneT_end [] (Hp.le_refl _) ⟨rfl, rfl⟩)
        ·intro HX hX X Rest hR
         rintro _ _ ⟨rfl, rfl⟩
         rintro _ _ ⟨rfl, rfl⟩
         rintro _ _ ⟨rfl, rfl⟩
         intro hU hUp
         refine W_no rfl rfl rfl ?_
         exact W_end (OneT_end [] (Hp.le_refl _) ⟨rfl, rfl⟩)
        ·intro HX hX X Rest hR
         rintro _ _ ⟨rfl, rfl⟩
         rintro _ _ ⟨rfl, rfl⟩
         intro hU hUp
         refine W_no rfl rfl rfl ?_
         exact W_end (OneT_end [] (Hp.le_refl _) ⟨rfl, rfl⟩)
        ·intro HX hX X Rest hR
         rintro _ _ ⟨rfl, rfl⟩
         rintro _ _ ⟨rfl, rfl⟩
         rintro _ _ ⟨rfl, rfl⟩
         intro hU hUp
         refine W_no rfl rfl rfl ?_
         exact W_end (OneT_end [] (Hp.le_refl _) ⟨rfl, rfl⟩)
        ·intro HX hX X Rest hR
         rintro _ _ ⟨rfl, rfl⟩
         rintro _ _ ⟨rfl, rfl⟩
         intro hU hUp
         refine W_no rfl rfl rfl ?_
         exact W_end (OneT_end [] (Hp.le_refl _) ⟨rfl, rfl⟩)
        ·intro HX hX X Rest hR
         rintro _ _ ⟨rfl, rfl⟩
         rintro _ _ ⟨rfl, rfl⟩
         intro hU hUp
         refine W_no rfl rfl rfl ?_
         exact W_end (OneT_end [] (Hp.le_refl _) ⟨rfl, rfl⟩)
        ·intro HX hX X Rest hR
         rintro _ _ ⟨rfl, rfl⟩
         rintro _ _ ⟨rfl, rfl⟩
         rintro _ _ ⟨rfl, rfl⟩
         intro hU hUp
         refine W_no rfl rfl rfl ?_
         exact W_end (OneT_end [] (Hp.le_refl _) ⟨rfl, rfl⟩)
        intro H1747 hle1748
        rintro _ _ ⟨rfl, rfl⟩
        rintro _ _ ⟨rfl, rfl⟩
        rintro _ _ ⟨rfl, rfl⟩
        rintro _ _ ⟨rfl, rfl⟩
        rintro _ _ ⟨rfl, rfl⟩
        rintro _ _ ⟨rfl, rfl⟩
        rintro _ _ ⟨rfl, rfl⟩
        rintro _ _ ⟨rfl, rfl⟩
        rintro _ _ ⟨rfl, rfl⟩
        rintro _ _ ⟨rfl, rfl⟩
        rintro _ _ ⟨rfl, rfl⟩
        rintro _ _ ⟨rfl, rfl⟩
        rintro _ _ ⟨rfl, rfl⟩
        rintro _ _ ⟨rfl, rfl⟩
        rintro _ _ ⟨rfl, rfl⟩
        rintro _ _ ⟨rfl, rfl⟩
        rintro _ _ ⟨rfl, rfl⟩
        rintro _ _ ⟨rfl, rfl⟩
        rintro _ _ ⟨rfl, rfl⟩
        rintro _ _ ⟨rfl, rfl⟩
        rintro _ _ ⟨rfl, rfl⟩
        rintro _ _ ⟨rfl, rfl⟩
        refine W_no rfl rfl rfl ?_
        refine W_pick rfl rfl rfl rfl ?_
        refine W_end (E_then ?_)
        refine C_cond (b := true) rfl (fun _ => ?_) (fun hb => Bool.noConfusion hb)
        refine C_skip (E_then (C_block (C_seq (C_region ?_))))
        refine W_move rfl rfl rfl ?_
        refine W_bin rfl rfl rfl rfl rfl ?_
        refine W_assign rfl rfl rfl ?_
        refine W_end (E_then (C_seq (C_region ?_)))
        refine W_move rfl rfl rfl ?_
        refine W_move rfl rfl rfl ?_
        refine W_move rfl rfl rfl ?_
        refine W_bin rfl rfl rfl rfl rfl ?_
        obtain ⟨y1749, h1750, he1751, hm⟩ := idx_some hm
        refine W_indexO (List.mem_cons_of_mem _ (List.mem_cons_of_mem _ (List.mem_cons_self ..))) rfl rfl runUnderlying45 sizeOf80 rfl rfl h1750 (List.getElem?_eq_some_iff.1 he1751).1 ?_
        obtain ⟨_, rfl, hg1752⟩ := (hr151).elem he1751
        refine W_load rfl rfl isAgg80 rfl (row_one0 (List.mem_cons_of_mem _ (List.mem_cons_of_mem _ (List.mem_cons_self ..))) hg1752 rfl) ?_
        refine W_convInt rfl rfl runUnderlying80 runUnderlying84 rfl ?_
        refine W_bin rfl rfl rfl rfl rfl ?_
        refine W_assign rfl rfl rfl ?_
        refine W_end (E_then (C_seq (C_region ?_)))
        refine W_move rfl rfl rfl ?_
        refine W_bin rfl rfl rfl rfl rfl ?_
        refine W_end (E_then ?_)
        refine C_cond (b := decide (4294967296 ≤ (IntKind.u64.wrap (n1718 + (IntKind.u64.wrap (y1749.n)))))) rfl (fun hb1753 => ?_) (fun hb1753 => ?_)
        ·have hm := ite_t' hb1753 hm
         refine C_exit ?_
         refine E_exit_miss rfl ?_
         refine E_exit_then (E_exit_hit ?_)
         exact E_keepJ (J1355 _ _ _ ⟨IntKind.u64.wrap (n1717 - 1), hm, (Hp.le_trans hle1720 hle1748), rfl, rfl⟩) (List.Perm.refl _) ⟨rfl, rfl, rfl, rfl, rfl, rfl, rfl, trivial⟩
        ·have hm := ite_f' hb1753 hm
         refine C_skip (E_normal_block ?_)
         exact E_keepJ (E_back (Nat.lt_succ_self _) ⟨IntKind.u64.wrap (n1717 - 1), IntKind.u64.wrap (n1718 + (IntKind.u64.wrap (y1749.n))), (by rw [hn1723]; exact hm), (Hp.le_trans hle1720 hle1748), rfl, rfl⟩) (List.Perm.refl _) ⟨rfl, rfl, rfl, rfl, rfl, rfl, rfl, rfl, trivial⟩
    ·have hm := ite_f' hb1236 hm
     refine C_exit (E_exit_then (E_exit_then (E_exit_hit (E_then (C_seq (C_region ?_))))))
     refine W_move rfl rfl rfl ?_
     obtain ⟨hz1754, hm⟩ := need_some hm
     refine W_makeSlice (α := U32) (zs := [.int .u32 (0)]) (ze := ⟨0⟩) rfl rfl underlying45 ⟨_, rfl, rfl, rfl, rfl⟩ rfl rfl rfl rfl rfl rfl hz1754.1 hz1754.2 ?_
     intro v1755 xs1756 hr1757
     refine W_assign rfl rfl rfl ?_
     refine W_end (E_then (C_seq (C_seq (C_region ?_))))
     refine W_move rfl rfl rfl ?_
     refine W_move rfl rfl rfl ?_
     refine W_end (E_then (C_block ?_))
     refine C_drop (List.Sublist.cons_cons _ (List.Sublist.cons_cons _ (List.Sublist.cons_cons _ (List.Sublist.cons _ (List.Sublist.refl _))))) ?_
     refine C_keep (L' := [(4, v155), (5, v1755), (8, .int .i64 (r127)), (9, v143), (249, .int .i64 ((p1_b.length : Int))), (250, .int .i64 (((0 : Nat) : Int)))]) ⟨rfl, rfl, rfl, rfl, rfl, rfl, trivial⟩ (List.Perm.refl _) ?_
     refine C_loop (fun n H' M' L' => ∃ (k1758 : Nat) (zs1820' : Nat), ∃ l1811 : List U32, ∃ xs1810 : List Value, k1758 + zs1820' = ((p1_b.length : Int) : Int).toNat ∧ zs1820' = n ∧ forN (fun k s1815 n => m_large_divWords_b23 r127 l1222 k s1815 n) (fun s1815 => some (l1218, s1815)) zs1820' k1758 l1811 = some r ∧ Rw H' v1755 xs1810 l1811 ∧ H1225.le H' ∧ .row v1755 80 (Rep.sz U32) l1811.length xs1810 :: .row v155 80 (Rep.sz U32) l1218.length xs1217 :: .row v143 80 (Rep.sz U32) l1222.length xs1221 :: M = M' ∧ [(4, v155), (5, v1755), (8, .int .i64 (r127)), (9, v143), (249, .int .i64 ((p1_b.length : Int))), (250, .int .i64 ((k1758 : Int)))] = L') _ ⟨0, _, (List.replicate ((p1_b.length : Int) : Int).toNat (⟨0⟩ : U32)), xs1756, Nat.zero_add _, rfl, hm, hr1757, (Hp.le_refl _), rfl, rfl⟩ ?_
     rintro _ H1813 _ _ ⟨k1758, zs1820', l1811, xs1810, hd1822, rfl, hm, hr1812, hle1814, rfl, rfl⟩
     refine C_seq (C_region ?_)
     refine W_bin rfl rfl rfl rfl rfl ?_
     refine W_end (E_then (C_seq ?_))
     refine C_cond (b := decide ((k1758 : Int) < (p1_b.length : Int))) rfl (fun hb1824 => ?_) (fun hb1824 => ?_)
     ·obtain ⟨zs1820, rfl, hd1823, hy1821⟩ := rngN_t hd1822 hb1824
      have hm : m_large_divWords_b23 r127 l1222 k1758 l1811 (forN (fun k s1815 n => m_large_divWords_b23 r127 l1222 k s1815 n) (fun s1815 => some (l1218, s1815)) zs1820 (k1758 + 1)) = some r := hm
      generalize hn1817 : forN (fun k s1815 n => m_large_divWords_b23 r127 l1222 k s1815 n) (fun s1815 => some (l1218, s1815)) zs1820 (k1758 + 1) = nx1816 at hm
      unfold m_large_divWords_b23 at hm
      refine C_skip (E_then (C_seq (C_block (C_seq (C_region ?_)))))
      refine W_move rfl rfl rfl ?_
      refine W_assign rfl rfl rfl ?_
      refine W_end (E_then ?_)
      obtain ⟨y1825, h1826, he1827, hm⟩ := idx_some hm
      obtain ⟨_, rfl, hg1828⟩ := (hr1223).elem he1827
      obtain ⟨y1829, h1830, he1831, hm⟩ := idx_some hm
      obtain ⟨_, rfl, hg1832⟩ := (hr1223).elem he1831
      obtain ⟨hq1833, hm⟩ := need_some hm
      refine C_region_tok0 18 (phiT [(fun H rs v => [] = rs ∧ v1755 = v), (fun H rs v => [] = rs ∧ .int .i64 ((k1758 : Int)) = v), (fun H rs v => [] = rs ∧ v143 = v), (fun H rs v => [] = rs ∧ .int .i64 ((k1758 : Int)) = v), (fun H rs v => [] = rs ∧ .int .i64 (IntKind.i64.wrap ((k1758 : Int) + 1)) = v), (fun H rs v => [] = rs ∧ .pointer (some ((Value.base (v143)).add ((IntKind.i64.wrap ((k1758 : Int) + 1) : Int).toNat * Rep.sz U32))) = v), (fun H rs v => [] = rs ∧ .int .u32 (y1825.n) = v), (fun H rs v => [] = rs ∧ .int .u64 (IntKind.u64.wrap (y1825.n)) = v), (fun H rs v => [] = rs ∧ .int .u64 (shlV .u64 (IntKind.u64.wrap (y1825.n)) 32) = v), (fun H rs v => [] = rs ∧ v143 = v), (fun H rs v => [] = rs ∧ .int .i64 ((k1758 : Int)) = v), (fun H rs v => [] = rs ∧ .pointer (some ((Value.base (v143)).add (((k1758 : Int) : Int).toNat * Rep.sz U32))) = v), (fun H rs v => [] = rs ∧ .int .u32 (y1829.n) = v), (fun H rs v => [] = rs ∧ .int .u64 (IntKind.u64.wrap (y1829.n)) = v), (fun H rs v => [] = rs ∧ .int .u64 (IntKind.u64.wrap ((BitVec.ofInt (IntKind.u64).bits (shlV .u64 (IntKind.u64.wrap (y1825.n)) 32) ||| BitVec.ofInt (IntKind.u64).bits (IntKind.u64.wrap (y1829.n))).toNat)) = v), (fun H rs v => [] = rs ∧ .int .i64 (r127) = v), (fun H rs v => [] = rs ∧ .int .u64 (shrV .u64 (IntKind.u64.wrap ((BitVec.ofInt (IntKind.u64).bits (shlV .u64 (IntKind.u64.wrap (y1825.n)) 32) ||| BitVec.ofInt (IntKind.u64).bits (IntKind.u64.wrap (y1829.n))).toNat)) r127) = v), (fun H rs v => [] = rs ∧ .int .u32 (IntKind.u32.wrap (shrV .u64 (IntKind.u64.wrap ((BitVec.ofInt (IntKind.u64).bits (shlV .u64 (IntKind.u64.wrap (y1825.n)) 32) ||| BitVec.ofInt (IntKind.u64).bits (IntKind.u64.wrap (y1829.n))).toNat)) r127)) = v)]) [[], [], [], [], [], [], [], [], [], [], [], [], [], [], [], [], [], []] [[], [], [], [], [], [], [], [], [], [], [], [], [], [], [], [], [], []] [] [0, 1, 2, 3, 4, 5, 6, 7, 8, 9, 10, 11, 12, 13, 14, 15, 16, 17] Facts.mixed (by kernel_rfl) (by rfl) (by rfl) (by rfl) (by kernel_rfl) (phiT_mono ⟨eq_monoT _ _, eq_monoT _ _, eq_monoT _ _, eq_monoT _ _, eq_monoT _ _, eq_monoT _ _, eq_monoT _ _, eq_monoT _ _, eq_monoT _ _, eq_monoT _ _, eq_monoT _ _, eq_monoT _ _, eq_monoT _ _, eq_monoT _ _, eq_monoT _ _, eq_monoT _ _, eq_monoT _ _, eq_monoT _ _, trivial⟩) ⟨?_, ?_, ?_, ?_, ?_, ?_, ?_, ?_, ?_, ?_, ?_, ?_, ?_, ?_, ?_, ?_, ?_, ?_, trivial⟩ ?_
      ·intro HX hX X Rest hR
       intro hU hUp
       refine W_move rfl rfl rfl ?_
       exact W_end (OneT_end [] (Hp.le_refl _) ⟨rfl, rfl⟩)
      ·intro HX hX X Rest hR
       intro hU hUp
       refine W_move rfl rfl rfl ?_
       exact W_end (OneT_end [] (Hp.le_refl _) ⟨rfl, rfl⟩)
      ·intro HX hX X Rest hR
       intro hU hUp
       refine W_move rfl rfl rfl ?_
       exact W_end (OneT_end [] (Hp.le_refl _) ⟨rfl, rfl⟩)
      ·intro HX hX X Rest hR
       intro hU hUp
       refine W_move rfl rfl rfl ?_
       exact W_end (OneT_end [] (Hp.le_refl _) ⟨rfl, rfl⟩)
      ·intro HX hX X Rest hR
       rintro _ _ ⟨rfl, rfl⟩
       intro hU hUp
       refine W_bin rfl rfl rfl rfl rfl ?_
       exact W_end (OneT_end [] (Hp.le_refl _) ⟨rfl, rfl⟩)
      ·intro HX hX X Rest hR
       rintro _ _ ⟨rfl, rfl⟩
       rintro _ _ ⟨rfl, rfl⟩
       intro hU hUp
       refine W_indexO (hR _ (List.mem_cons_of_mem _ (List.mem_cons_of_mem _ (List.mem_cons_self ..)))) rfl rfl runUnderlying45 sizeOf80 rfl rfl h1826 (List.getElem?_eq_some_iff.1 he1827).1 ?_
       exact W_end (OneT_end [] (Hp.le_refl _) ⟨rfl, rfl⟩)
      ·intro HX hX X Rest hR
       rintro _ _ ⟨rfl, rfl⟩
       intro hU hUp
       refine W_load rfl rfl isAgg80 rfl (row_one0 (hR _ (List.mem_cons_of_mem _ (List.mem_cons_of_mem _ (List.mem_cons_self ..)))) hg1828 rfl) ?_
       exact W_end (OneT_end [] (Hp.le_refl _) ⟨rfl, rfl⟩)
      ·intro HX hX X Rest hR
       rintro _ _ ⟨rfl, rfl⟩
       intro hU hUp
       refine W_convInt rfl rfl runUnderlying80 runUnderlying84 rfl ?_
       exact W_end (OneT_end [] (Hp.le_refl _) ⟨rfl, rfl⟩)
      ·intro HX hX X Rest hR
       rintro _ _ ⟨rfl, rfl⟩
       intro hU hUp
       refine W_shl rfl rfl rfl rfl (by decide) ?_
       exact W_end (OneT_end [] (Hp.le_refl _) ⟨rfl, rfl⟩)
      ·intro HX hX X Rest hR
       intro hU hUp
       refine W_move rfl rfl rfl ?_
       exact W_end (OneT_end [] (Hp.le_refl _) ⟨rfl, rfl⟩)
      ·intro HX hX X Rest hR
       intro hU hUp
       refine W_move rfl rfl rfl ?_
       exact W_end (OneT_end [] (Hp.le_refl _) ⟨rfl, rfl⟩)
      ·intro HX hX X Rest hR
       rintro _ _ ⟨rfl, rfl⟩
       rintro _ _ ⟨rfl, rfl⟩
       intro hU hUp
       refine W_indexO (hR _ (List.mem_cons_of_mem _ (List.mem_cons_of_mem _ (List.mem_cons_self ..)))) rfl rfl runUnderlying45 sizeOf80 rfl rfl h1830 (List.getElem?_eq_some_iff.1 he1831).1 ?_
       exact W_end (OneT_end [] (Hp.le_refl _) ⟨rfl, rfl⟩)
      ·intro HX hX X Rest hR
       rintro _ _ ⟨rfl, rfl⟩
       intro hU hUp
       refine W_load rfl rfl isAgg80 rfl (row_one0 (hR _ (List.mem_cons_of_mem _ (List.mem_cons_of_mem _ (List.mem_cons_self ..)))) hg1832 rfl) ?_
       exact W_end (OneT_end [] (Hp.le_refl _) ⟨rfl, rfl⟩)
      ·intro HX hX X Rest hR
       rintro _ _ ⟨rfl, rfl⟩
       intro hU hUp
       refine W_convInt rfl rfl runUnderlying80 runUnderlying84 rfl ?_
       exact W_end (OneT_end [] (Hp.le_refl _) ⟨rfl, rfl⟩)
      ·intro HX hX X Rest hR
       rintro _ _ ⟨rfl, rfl⟩
       rintro _ _ ⟨rfl, rfl⟩
       intro hU hUp
       refine W_bin rfl rfl rfl rfl rfl ?_
       exact W_end (OneT_end [] (Hp.le_refl _) ⟨rfl, rfl⟩)
      ·intro HX hX X Rest hR
       intro hU hUp
       refine W_move rfl rfl rfl ?_
       exact W_end (OneT_end [] (Hp.le_refl _) ⟨rfl, rfl⟩)
      ·intro HX hX X Rest hR
       rintro _ _ ⟨rfl, rfl⟩
       rintro _ _ ⟨rfl, rfl⟩
       intro hU hUp
       refine W_shr rfl rfl rfl rfl hq1833 ?_
       exact W_end (OneT_end [] (Hp.le_refl _) ⟨rfl, rfl⟩)
      ·intro HX hX X Rest hR
       rintro _ _ ⟨rfl, rfl⟩
       intro hU hUp
       refine W_convInt rfl rfl runUnderlying84 runUnderlying80 rfl ?_
       exact W_end (OneT_end [] (Hp.le_refl _) ⟨rfl, rfl⟩)
      intro H1834 hle1835
      rintro _ _ ⟨rfl, rfl⟩
      rintro _ _ ⟨rfl, rfl⟩
      rintro _ _ ⟨rfl, rfl⟩
      rintro _ _ ⟨rfl, rfl⟩
      rintro _ _ ⟨rfl, rfl⟩
      rintro _ _ ⟨rfl, rfl⟩
      rintro _ _ ⟨rfl, rfl⟩
      rintro _ _ ⟨rfl, rfl⟩
      rintro _ _ ⟨rfl, rfl⟩
      rintro _ _ ⟨rfl, rfl⟩
      rintro _ _ ⟨rfl, rfl⟩
      rintro _ _ ⟨rfl, rfl⟩
      rintro _ _ ⟨rfl, rfl⟩
      rintro _ _ ⟨rfl, rfl⟩
      rintro _ _ ⟨rfl, rfl⟩
      rintro _ _ ⟨rfl, rfl⟩
      rintro _ _ ⟨rfl, rfl⟩
      rintro _ _ ⟨rfl, rfl⟩
      obtain ⟨y1836, h1837, he1838, hm⟩ := idx_some hm
      refine W_indexO (List.mem_cons_self ..) rfl rfl runUnderlying45 sizeOf80 rfl rfl h1837 (List.getElem?_eq_some_iff.1 he1838).1 ?_
      obtain ⟨_, rfl, hg1839⟩ := (hr1812).elem he1838
      obtain ⟨hr1840, he1841, hg1842⟩ := Rw.put (cs := [.int .u32 (IntKind.u32.wrap (shrV .u64 (IntKind.u64.wrap ((BitVec.ofInt (IntKind.u64).bits (shlV .u64 (IntKind.u64.wrap (y1825.n)) 32) ||| BitVec.ofInt (IntKind.u64).bits (IntKind.u64.wrap (y1829.n))).toNat)) r127))]) (o := 0) (c := [.int .u32 (y1836.n)]) (out := [.int .u32 (IntKind.u32.wrap (shrV .u64 (IntKind.u64.wrap ((BitVec.ofInt (IntKind.u64).bits (shlV .u64 (IntKind.u64.wrap (y1825.n)) 32) ||| BitVec.ofInt (IntKind.u64).bits (IntKind.u64.wrap (y1829.n))).toNat)) r127))]) (e2 := ⟨IntKind.u32.wrap (shrV .u64 (IntKind.u64.wrap ((BitVec.ofInt (IntKind.u64).bits (shlV .u64 (IntKind.u64.wrap (y1825.n)) 32) ||| BitVec.ofInt (IntKind.u64).bits (IntKind.u64.wrap (y1829.n))).toNat)) r127)⟩) (hr1812.mono hle1835) he1838 rfl hg1839 rfl rfl rfl
      refine W_storeO2 (i := ((k1758 : Int) : Int).toNat * Rep.sz U32 + 0) (cs := [.int .u32 (IntKind.u32.wrap (shrV .u64 (IntKind.u64.wrap ((BitVec.ofInt (IntKind.u64).bits (shlV .u64 (IntKind.u64.wrap (y1825.n)) 32) ||| BitVec.ofInt (IntKind.u64).bits (IntKind.u64.wrap (y1829.n))).toNat)) r127))]) rfl sizeOf80 rfl (row_ad0 _ _) rfl rfl rfl (Rw.room (hr1812.mono hle1835) he1838 rfl) rfl (all_cons rfl all_nil) (n' := (l1811.set (((k1758 : Int) : Int).toNat) ⟨IntKind.u32.wrap (shrV .u64 (IntKind.u64.wrap ((BitVec.ofInt (IntKind.u64).bits (shlV .u64 (IntKind.u64.wrap (y1825.n)) 32) ||| BitVec.ofInt (IntKind.u64).bits (IntKind.u64.wrap (y1829.n))).toNat)) r127)⟩).length) List.length_set ?_
      generalize over xs1810 (((k1758 : Int) : Int).toNat * Rep.sz U32 + 0) [.int .u32 (IntKind.u32.wrap (shrV .u64 (IntKind.u64.wrap ((BitVec.ofInt (IntKind.u64).bits (shlV .u64 (IntKind.u64.wrap (y1825.n)) 32) ||| BitVec.ofInt (IntKind.u64).bits (IntKind.u64.wrap (y1829.n))).toNat)) r127))] = xs1843 at hr1840 hg1842 ⊢
      refine W_end (E_normal_block (E_then (C_region ?_)))
      refine W_bin rfl rfl rfl rfl rfl ?_
      refine W_move rfl rfl rfl ?_
      refine W_end ?_
      exact E_keepJ (E_back (Nat.lt_succ_self _) ⟨k1758 + 1, zs1820, (l1811.set (((k1758 : Int) : Int).toNat) ⟨IntKind.u32.wrap (shrV .u64 (IntKind.u64.wrap ((BitVec.ofInt (IntKind.u64).bits (shlV .u64 (IntKind.u64.wrap (y1825.n)) 32) ||| BitVec.ofInt (IntKind.u64).bits (IntKind.u64.wrap (y1829.n))).toNat)) r127)⟩), xs1843, hd1823, rfl, (by rw [hn1817]; exact hm), hr1840, (Hp.le_trans hle1814 hle1835), rfl, rfl⟩) (List.Perm.refl _) ⟨rfl, rfl, rfl, rfl, rfl, (congrArg (fun z => some (Value.int .i64 z)) (i64_succN hy1821 (toNat_max (len_max (((h1.mono hle153).mono hle1226)).lenMax)))), trivial⟩
     ·obtain rfl := rngN_f hd1822 hb1824
      have hm : (some (l1218, l1811)) = some r := hm
      refine C_exit (E_exit_then (E_exit_then (E_exit_hit (E_then (C_seq (C_region ?_))))))
      refine W_move rfl rfl rfl ?_
      refine W_move rfl rfl rfl ?_
      refine W_assign rfl rfl rfl ?_
      refine W_assign rfl rfl rfl ?_
      refine W_end (E_then (C_ret ?_))
      refine E_perm (List.Perm.swap _ _ _) ?_
      refine E_freeze ((hr1219.mono hle1814)).rd rfl (fun H1844 hle1845 h1846 => ?_)
      refine E_freeze ((hr1812.mono hle1845)).rd rfl (fun H1847 hle1848 h1849 => ?_)
      obtain rfl := Option.some.inj hm
      refine E_drop (List.Sublist.cons _ (List.Sublist.refl _)) ?_
      exact end2 rfl rfl rfl ⟨(Hp.le_trans (Hp.le_trans (Hp.le_trans (Hp.le_trans hle153 hle1226) hle1814) hle1845) hle1848), v155, v1755, rfl, rfl, (h1846.mono hle1848), h1849⟩

theorem clone70_c {B : Nat} {w0 w : World} {H : Hp} {M : List Res} {s : List U32} {v0 : Value} (h0 : RdS H v0 s) (hz : s.length * 4 ≤ 140737488355328) (ht : St B w0 H M w) :
  Calls prog 70 [v0].toArray w (Ret B w0 fun H' M' v => H = H' ∧ ∃ (v' : Value) (xs' : List Value), .row v' 80 (Rep.sz U32) s.length xs' :: M = M' ∧ v' = v ∧ RwF v' xs' s) := by
 refine enter func70 rfl rfl rfl ht ?_
 obtain ⟨o, n, c, rfl⟩ := h0.shape
 refine C_seq (C_region ?_)
 refine W_assign rfl rfl rfl ?_
 refine W_end (E_then (C_seq (C_seq (C_region ?_))))
 refine W_move rfl rfl rfl ?_
 refine W_eqNil rfl rfl runUnderlying45 rfl rfl ?_
 refine W_end (E_then ?_)
 cases o with
 | none =>
  refine C_cond (b := true) rfl (fun _ => ?_) (fun hb => Bool.noConfusion hb)
  obtain rfl := h0.isNil
  refine C_seq (C_region ?_)
  refine W_assign rfl rfl rfl ?_
  refine W_end (E_then ?_)
  refine C_ret (E_ret_then ?_)
  refine E_nilRow 80 (Rep.sz U32) ?_
  exact end1 rfl rfl ⟨rfl, .slice none 0 0, [], rfl, rfl, (Rw.nil (H := H)).toF⟩
 | some a =>
  refine C_cond (b := false) rfl (fun hb => Bool.noConfusion hb) (fun _ => ?_)
  refine C_skip (E_then (C_seq (C_region ?_)))
  refine W_build0 U32 rfl rfl runUnderlying45 sizeOf80 ?_
  intro v1 xs1 h1
  refine W_move rfl rfl rfl ?_
  refine W_appendO (α := U32) (l := []) (ys := s) (bytes := 4) rfl rfl underlying45 ⟨_, rfl, rfl, rfl, rfl⟩ rfl rfl rfl rfl rfl h1 h0 (by simpa using hz) ?_
  intro v2 xs2 h2
  refine W_assign rfl rfl rfl ?_
  refine W_end (E_then (C_ret ?_))
  exact end1 rfl rfl ⟨rfl, v2, xs2, rfl, rfl, h2.toF⟩

theorem m_large_Gcd_c {B : Nat} {w0 w : World} [Tabs B w0] {H : Hp} {M : List Res} {p0_a : S_large_Int} {p1_b : S_large_Int} {v0 : Value} {v1 : Value} {r : S_large_Int} (hm : m_large_Gcd p0_a p1_b = some r) (h0 : RdS H v0 p0_a.words) (h1 : RdS H v1 p1_b.words) (ht : St B w0 H (M) w) :
  Calls prog 52 [.agg [.bool (p0_a.minus), v0].toArray, .agg [.bool (p1_b.minus), v1].toArray].toArray w (Ret B w0 fun H' M' v => H.le H' ∧ ∃ qv0 : Value, M = M' ∧ .agg [.bool (r.minus), qv0].toArray = v ∧ RdS H' qv0 r.words) := by
 unfold m_large_Gcd at hm
 refine enter func52 rfl rfl rfl ht ?_
 refine C_seq (C_region ?_)
 refine W_box (cs := [.bool (p0_a.minus), v0]) rfl rfl rfl rfl (fun b101 => ?_)
 refine W_box (cs := [.bool (p1_b.minus), v1]) rfl rfl rfl rfl (fun b102 => ?_)
 refine W_alloc (cs := [.bool (false), .slice none 0 0]) rfl rfl zeroValue47 rfl (fun b103 => ?_)
 refine W_end (E_then (C_seq (C_region ?_)))
 refine W_field (o := 0) rfl rfl runUnderlying47 rfl sizeOf4 rfl rfl rfl ?_
 refine W_perm (List.Perm.trans (List.Perm.cons _ (List.Perm.swap _ _ _)) (List.Perm.swap _ _ _)) ?_
 refine W_store (cs := [.bool (false)]) (out := [.bool (false), v0]) rfl sizeOf4 rfl rfl rfl rfl rfl (all_cons rfl all_nil) rfl ?_
 refine W_field (o := 0) rfl rfl runUnderlying47 rfl sizeOf4 rfl rfl rfl ?_
 refine W_perm (List.Perm.trans (List.Perm.cons _ (List.Perm.swap _ _ _)) (List.Perm.swap _ _ _)) ?_
 refine W_store (cs := [.bool (false)]) (out := [.bool (false), v1]) rfl sizeOf4 rfl rfl rfl rfl rfl (all_cons rfl all_nil) rfl ?_
 refine W_end (E_then ?_)
 refine C_seq_join (fun H' M' L' => ∃ c288 : Bool, ∃ l290 : (List U32), ∃ v289 : Value, m_large_Gcd_b2 c288 l290 = some r ∧ RdS H' v289 l290 ∧ H.le H' ∧ .obj b101 (.cells [.bool (c288), v289].toArray 47 (0, 0)) :: .obj b103 (.cells ([.bool (false), .slice none 0 0] : List Value).toArray 47 (0, 0)) :: M = M' ∧ [(2, .pointer (some ⟨b101, 0, none⟩)), (4, .pointer (some ⟨b103, 0, none⟩))] = L') ?_ (fun J294 => ?_)
 ·rintro H292 _ _ ⟨c288, l290, v289, hm, h291, hle293, rfl, rfl⟩
  unfold m_large_Gcd_b2 at hm
  refine C_seq (C_region ?_)
  refine W_loadAgg rfl rfl isAgg47 sizeOf47 rfl (own_all (List.mem_cons_self ..)) rfl ?_
  refine W_perm (List.Perm.swap _ _ _) ?_
  refine W_store (cs := [.bool (c288), v289]) (out := [.bool (c288), v289]) rfl sizeOf47 rfl rfl rfl rfl rfl (all_cons rfl (all_cons (RdS.one1 h291) all_nil)) (over_all rfl) ?_
  refine W_end (E_then (C_ret ?_))
  obtain rfl := Option.some.inj hm
  exact endC1 (Hp.le_refl _) rfl (ResV.agg rfl isAgg47 sizeOf47 (List.mem_cons_self ..) rfl) (List.Sublist.cons _ (List.Sublist.cons _ (List.Sublist.refl _))) (List.Perm.refl _) ⟨hle293, v289, rfl, rfl, h291⟩
 ·refine C_block ?_
  refine C_keep (L' := [(2, .pointer (some ⟨b101, 0, none⟩)), (3, .pointer (some ⟨b102, 0, none⟩)), (4, .pointer (some ⟨b103, 0, none⟩))]) ⟨rfl, rfl, rfl, trivial⟩ (List.Perm.refl _) ?_
  refine C_loop (fun n H' M' L' => ∃ c426 : Bool, ∃ l428 : (List U32), ∃ c430 : Bool, ∃ l432 : (List U32), ∃ v427 : Value, ∃ v431 : Value, loopF (fun s436 n => m_large_Gcd_b3 s436.1 s436.2.1 s436.2.2.1 s436.2.2.2 n) n (c426, l428, c430, l432) = some r ∧ RdS H' v427 l428 ∧ RdS H' v431 l432 ∧ H.le H' ∧ .obj b102 (.cells [.bool (c426), v427].toArray 47 (0, 0)) :: .obj b101 (.cells [.bool (c430), v431].toArray 47 (0, 0)) :: .obj b103 (.cells ([.bool (false), .slice none 0 0] : List Value).toArray 47 (0, 0)) :: M = M' ∧ [(2, .pointer (some ⟨b101, 0, none⟩)), (3, .pointer (some ⟨b102, 0, none⟩)), (4, .pointer (some ⟨b103, 0, none⟩))] = L') FUEL ⟨false, p1_b.words, false, p0_a.words, v1, v0, hm, h1, h0, (Hp.le_refl _), rfl, rfl⟩ ?_
  rintro n439 H434 _ _ ⟨c426, l428, c430, l432, v427, v431, hm, h429, h433, hle435, rfl, rfl⟩
  cases n439 with
  | zero => cases hm
  | succ n439 =>
   have hm : m_large_Gcd_b3 c426 l428 c430 l432 (loopF (fun s436 n => m_large_Gcd_b3 s436.1 s436.2.1 s436.2.2.1 s436.2.2.2 n) n439) = some r := hm
   generalize hn438 : loopF (fun s436 n => m_large_Gcd_b3 s436.1 s436.2.1 s436.2.2.1 s436.2.2.2 n) n439 = nx437 at hm
   unfold m_large_Gcd_b3 at hm
   refine C_seq (C_seq (C_region ?_))
   refine W_loadAgg rfl rfl isAgg47 sizeOf47 rfl (own_all (List.mem_cons_self ..)) rfl ?_
   refine W_call call68 rfl rfl rfl (fun w ht => by have h := m_large_Int_Sign_c (hm := (rfl : m_large_Int_Sign (S_large_Int.mk c426 l428) = _)) h429 ht; exact h) ?_
   rintro _ _ _ ⟨rfl, rfl, rfl⟩
   refine W_bin rfl rfl rfl rfl rfl ?_
   refine W_end (E_then ?_)
   refine C_cond (b := !decide ((m_large_Int_Sign (S_large_Int.mk c426 l428)) = 0)) rfl (fun hb445 => ?_) (fun hb445 => ?_)
   ·have hm := ite_t' hb445 hm
    refine C_skip (E_then (C_block (C_seq (C_region ?_))))
    refine W_field (o := 1) rfl rfl runUnderlying47 rfl sizeOf45 rfl rfl rfl ?_
    refine W_load rfl rfl isAgg45 rfl (own_at (List.mem_cons_of_mem _ (List.mem_cons_self ..)) rfl) ?_
    refine W_field (o := 1) rfl rfl runUnderlying47 rfl sizeOf45 rfl rfl rfl ?_
    refine W_load rfl rfl isAgg45 rfl (own_at (List.mem_cons_self ..) rfl) ?_
    obtain ⟨r446, hc447, hm⟩ := bind_some hm
    refine W_call call69 rfl rfl rfl (fun w ht => by have h := m_large_divWords_c (hm := hc447) h433 h429 ht; exact h) ?_
    rintro _ H452 _ ⟨hle453, v448, v450, rfl, rfl, h449, h451⟩
    refine W_move rfl rfl rfl ?_
    refine W_extract rfl rfl rfl rfl ?_
    refine W_extract rfl rfl rfl rfl ?_
    refine W_assign rfl rfl rfl ?_
    refine W_assign rfl rfl rfl ?_
    refine W_end (E_then ?_)
    obtain ⟨hz454, hm⟩ := need_some hm
    obtain ⟨r461, hc462, hm⟩ := bind_some hm
    refine C_region_tok0 4 (phiT [(fun H rs v => [] = rs ∧ .agg [.bool (c426), v427].toArray = v), (fun H rs v => [] = rs ∧ v450 = v), (fun H rs v => ∃ v467 : Value, ∃ xs468 : List Value, [.row v467 80 (Rep.sz U32) r446.2.length xs468] = rs ∧ v467 = v ∧ Rw H v467 xs468 r446.2), (fun H rs v => ∃ v467 : Value, ∃ xs468 : List Value, ∃ v473 : Value, [] = rs ∧ .agg [.bool (r461.minus), v473].toArray = v ∧ Rw H v467 xs468 r446.2 ∧ RdS H v467 r446.2 ∧ RdS H v473 r461.words)]) [[], [], [], [2]] [[], [], [], []] [] [0, 1, 3] Facts.mixed (by kernel_rfl) (by rfl) (by rfl) (by rfl) (by kernel_rfl) (phiT_mono ⟨eq_monoT _ _, eq_monoT _ _, (by rintro H1 H2 rs v hle ⟨v467, xs468, rfl, rfl, hr469⟩; exact ⟨v467, xs468, rfl, rfl, (hr469.mono hle)⟩), (by rintro H1 H2 rs v hle ⟨v467, xs468, v473, rfl, rfl, hr469, h472, h474⟩; exact ⟨v467, xs468, v473, rfl, rfl, (hr469.mono hle), (h472.mono hle), (h474.mono hle)⟩), trivial⟩) ⟨?_, ?_, ?_, ?_, trivial⟩ ?_
    ·intro HX hX X Rest hR
     intro hU hUp
     refine W_loadAgg rfl rfl isAgg47 sizeOf47 rfl (own_all (hR _ (List.mem_cons_self ..))) rfl ?_
     exact W_end (OneT_end [] (Hp.le_refl _) ⟨rfl, rfl⟩)
    ·intro HX hX X Rest hR
     intro hU hUp
     refine W_move rfl rfl rfl ?_
     exact W_end (OneT_end [] (Hp.le_refl _) ⟨rfl, rfl⟩)
    ·intro HX hX X Rest hR
     rintro _ _ ⟨rfl, rfl⟩
     intro hU hUp
     refine W_call call70 rfl rfl rfl (fun w ht => by have h := clone70_c (s := r446.2) (h451.mono hX) hz454 ht; exact h) ?_
     rintro _ _ _ ⟨rfl, v467, xs468, rfl, rfl, hr469⟩
     have hr469 := hr469 HX
     exact W_end (OneT_end [.row v467 80 (Rep.sz U32) r446.2.length xs468] (Hp.le_refl _) ⟨v467, xs468, rfl, rfl, (hr469)⟩)
    ·intro HX hX X Rest hR
     rintro _ _ ⟨v467, xs468, rfl, rfl, hr469⟩
     rintro _ _ ⟨v467, xs468, rfl, rfl, hr469⟩
     intro hU hUp
     refine W_as (M' := .row v467 80 (Rep.sz U32) r446.2.length xs468 :: Rest) rfl ?_
     refine W_freeze (hr469).rd rfl (fun H470 hle471 h472 => ?_)
     refine W_call call54 rfl rfl rfl (fun w ht => by have h := m_large_norm_c (hm := hc462) h472 ht; exact h) ?_
     rintro _ H475 _ ⟨hle476, v473, rfl, rfl, h474⟩
     exact W_end (OneT_end [] (Hp.le_trans hle471 hle476) ⟨v467, xs468, v473, rfl, rfl, (hr469.mono (Hp.le_trans hle471 hle476)), ((h472.mono hle476)), (h474)⟩)
    intro H477 hle478
    rintro _ _ ⟨rfl, rfl⟩
    rintro _ _ ⟨rfl, rfl⟩
    rintro _ _ ⟨v467, xs468, rfl, rfl, hr469⟩
    rintro _ _ ⟨v467, xs468, v473, rfl, rfl, hr469, h472, h474⟩
    refine W_perm (List.Perm.swap _ _ _) ?_
    refine W_store (cs := [.bool (c426), v427]) (out := [.bool (c426), v427]) rfl sizeOf47 rfl rfl rfl rfl rfl (all_cons rfl (all_cons (RdS.one1 ((h429.mono hle453).mono hle478)) all_nil)) (over_all rfl) ?_
    refine W_perm (List.Perm.swap _ _ _) ?_
    refine W_store (cs := [.bool (r461.minus), v473]) (out := [.bool (r461.minus), v473]) rfl sizeOf47 rfl rfl rfl rfl rfl (all_cons rfl (all_cons (RdS.one1 h474) all_nil)) (over_all rfl) ?_
    refine W_end (E_normal_block ?_)
    exact E_keepJ (E_back (Nat.lt_succ_self _) ⟨r461.minus, r461.words, c426, l428, v473, v427, (by rw [hn438]; exact hm), h474, ((h429.mono hle453).mono hle478), (Hp.le_trans (Hp.le_trans hle435 hle453) hle478), rfl, rfl⟩) (List.Perm.refl _) ⟨rfl, rfl, rfl, trivial⟩
   ·have hm := ite_f' hb445 hm
    refine C_exit (E_exit_then (E_exit_then (E_exit_hit ?_)))
    refine E_drop (List.Sublist.cons _ (List.Sublist.refl _)) ?_
    exact E_keepJ (J294 _ _ _ ⟨c430, l432, v431, hm, h433, hle435, rfl, rfl⟩) (List.Perm.refl _) ⟨rfl, rfl, trivial⟩

set_option maxHeartbeats 6400000 in
set_option maxRecDepth 100000 in
open Go.Shelf Go.Sort Go.Lib Go.Proofs in
theorem fuintk76 (u : Nat) (hu64 : u < 18446744073709551616) (w : World) (htab : Lib.TabIs prog w "internal/strconv.uint64pow10" .u64 Lib.pow10Tab) :
  Calls prog 76 #[.int .u64 u, .int .i64 10] w fun e w' => e = .returned (.string ⟨(Lib.decDigits u).toArray⟩) ∧ ∃ k os, w' = Sort.grow (w.drewN k) os := by
 have mixed : prog.follows .mixedOrders = true := Facts.mixed
 have t0 := underlying0; have a0 := isAgg0; have z0 := sizeOf0; have v0 := zeroValue0
 have t3 := underlying3; have a3 := isAgg3; have z3 := sizeOf3; have v3 := zeroValue3
 have t4 := underlying4; have a4 := isAgg4; have z4 := sizeOf4; have v4 := zeroValue4
 have t5 := underlying5; have a5 := isAgg5; have z5 := sizeOf5; have v5 := zeroValue5
 have t9 := underlying9; have a9 := isAgg9; have z9 := sizeOf9; have v9 := zeroValue9
 have t84 := underlying84; have a84 := isAgg84; have z84 := sizeOf84; have v84 := zeroValue84
 have t87 := underlying87; have a87 := isAgg87; have z87 := sizeOf87; have v87 := zeroValue87
 have t126 := underlying126; have a126 := isAgg126; have z126 := sizeOf126; have v126 := zeroValue126
 have es : ∀ args w, (callFunc 90 args).run prog w = .ok (.enter 90 args) w := enters_of func90 (by kernel_rfl) rfl
 have en : ∀ args w, (callFunc 91 args).run prog w = .ok (.enter 91 args) w := enters_of func91 (by kernel_rfl) rfl
 have eb : ∀ args w, (callFunc 92 args).run prog w = .ok (.enter 92 args) w := enters_of func92 (by kernel_rfl) rfl
 have hn : (f76).ntmps = 32 := by kernel_rfl
 by_cases hs : u < 100
 ·go_enter func76, hn
  go_wp2_with (go_at_fn 90; refine (internal_strconv_small u hs _).mono ?_; rintro e w' ⟨rfl, rfl⟩)
  go_ret
  exact ⟨rfl, 0, #[], by simp [World.drewN_zero]⟩
 ·have hu1 : 1 ≤ u := by omega
  have hnd20 : Lib.nDigits u ≤ 20 := by have := Lib.numDigits_eq u hu1 hu64; split at this <;> omega
  have hal : prog.arrayLen 126 = 24 := by simp [Program.arrayLen, underlying126]
  have hsl1 : ∀ W, (Instr.sliceAt 126 (.pointer (some ⟨w.heap.size, 0, none⟩)) none (some (.int .i64 (Lib.nDigits u : Int))) none).run prog W = .ok (.slice (some ⟨w.heap.size, 0, none⟩) (Lib.nDigits u) 24) W := fun W => by
   rw [run_sliceAt_array_h W 126 ⟨w.heap.size, 0, none⟩ (by simp [Program.arrayLen, Program.elem, underlying126]) .i64 (Lib.nDigits u : Int) (by omega) (by rw [hal]; omega)]
   go_simp
  have hH0 := Lib.holds_zero0 w 126 (Lib.nDigits u) (by omega)
  have hfmt := internal_strconv_formatBase10 w.heap.size 0 24 u (Array.replicate (Lib.nDigits u) 0) (w.alloc (.cells Lib.zeros24 126)) hH0 (by rw [Array.size_replicate]; exact Lib.lt_pow_nDigits u) hu64 (by rw [Array.size_replicate]; omega)
  rw [Array.size_replicate] at hfmt
  have HH0 := Lib.hid hH0
  clear hH0 hal
  go_enter func76, hn
  go_wp2_with (first
   | (go_at_fn 91; refine (internal_strconv_numDigits u hu1 hu64 _ (Lib.tabIs_alloc htab _)).mono ?_; rintro e w' ⟨rfl, rfl⟩))
  go_at_fn 92
  refine hfmt.mono ?_
  rintro e w' ⟨rfl, k, v', dk, rfl, hF⟩
  have hcv : (convert 87 9 (.slice (some ⟨w.heap.size, 0, none⟩) (Lib.nDigits u) 24)).run prog ((Sort.putRow (fun (b : UInt8) => Value.int .u8 (b.toNat : Int)) (w.alloc (.cells Lib.zeros24 126)) w.heap.size 0 dk).drewN k) = .ok (.string ⟨(Lib.decDigits u).toArray⟩) ((Sort.putRow (fun (b : UInt8) => Value.int .u8 (b.toNat : Int)) (w.alloc (.cells Lib.zeros24 126)) w.heap.size 0 dk).drewN k) := by
   have h := run_convert_bytes_back (P := prog) ((Sort.putRow (fun (b : UInt8) => Value.int .u8 (b.toNat : Int)) (w.alloc (.cells Lib.zeros24 126)) w.heap.size 0 dk).drewN k) 87 9 5 ⟨w.heap.size, 0, none⟩ 24 (Lib.decDigits u) underlying87 underlying5 underlying9 (fun j hj => by
    rw [Lib.row_is_numeral hF j hj, Lib.add_plain, World.cell?_drewN]
    exact Sort.cell?_putRow (fun (b : UInt8) => Value.int .u8 (b.toNat : Int)) _ w.heap.size 0 _ dk HH0.out (by rw [hF.size, Array.size_replicate]) j (by rw [hF.size]; rw [Lib.decDigits_length] at hj; exact hj))
   rw [Lib.decDigits_length] at h
   exact h
  go_wp2
  go_ret
  obtain ⟨os, eo⟩ := Lib.fin_at w (.cells Lib.zeros24 126) dk k 0
  exact ⟨rfl, k, os, eo⟩
theorem fuint76_c {B : Nat} {w0 w : World} [Tabs B w0] {H : Hp} {M : List Res} {n : Int} (hn : 0 ≤ n ∧ n ≤ 18446744073709551615) (ht : St B w0 H M w) :
  Calls prog 76 [.int .u64 n, .int .i64 10].toArray w (Ret B w0 fun H' M' v => H = H' ∧ M = M' ∧ .string (itoaB n) = v) := by
 obtain ⟨u, rfl⟩ : ∃ u : Nat, n = u := ⟨n.toNat, by omega⟩
 have ht1 : Lib.TabIs prog w "internal/strconv.uint64pow10" .u64 Lib.pow10Tab := by
  have e : gt3 = Lib.pow10Tab := by decide +kernel
  rw [← e]; exact ht.tab (Tabs.t3 (B := B) (w0 := w0)) gn3 (Tabs.below (w0 := w0) rfl)
 refine (fuintk76 u (by omega) w ht1).mono ?_
 rintro e w' ⟨rfl, k, os, rfl⟩
 have hi : itoaB (u : Int) = ⟨(Lib.decDigits u).toArray⟩ := by unfold itoaB; rw [Lib.itoa_nonneg]
 rw [hi]
 exact ⟨H, M, ht.under (Lib.below_grow _ w (Nat.le_refl _) k os), rfl, rfl, rfl⟩

theorem fuo65_c {B : Nat} {w0 w : World} [Tabs B w0] {H : Hp} {M : List Res} {n : Int} (hn : 0 ≤ n ∧ n ≤ 18446744073709551615) (ht : St B w0 H M w) :
  Calls prog 65 [.int .u64 n, .int .i64 10].toArray w (Ret B w0 fun H' M' v => H = H' ∧ M = M' ∧ .string (itoaB n) = v) := by
 refine enter func65 rfl rfl rfl ht ?_
 refine C_seq (C_region ?_)
 refine W_assign rfl rfl rfl ?_
 refine W_end (E_then (C_seq (C_region ?_)))
 refine W_move rfl rfl rfl ?_
 refine W_move rfl rfl rfl ?_
 refine W_call call76 rfl rfl rfl (fun w ht => by have h := fuint76_c hn ht; exact h) ?_
 rintro _ _ _ ⟨rfl, rfl, rfl⟩
 refine W_assign rfl rfl rfl ?_
 refine W_end (E_then (C_ret ?_))
 exact end1 rfl rfl ⟨rfl, rfl, rfl⟩

theorem bcc77_c {B : Nat} {w0 w : World} {H : Hp} {M : List Res} {b : Nat} {p v : Value} (hb : BAd b p) (ht : St B w0 H (.obj b (.cells [p, v].toArray 102 (0, 0)) :: M) w) :
  Calls prog 77 [.pointer (some ⟨b, 0, none⟩)].toArray w (Ret B w0 fun H' M' r => H = H' ∧ .obj b (.cells [.pointer (some ⟨b, 0, none⟩), v].toArray 102 (0, 0)) :: M = M' ∧ .tuple #[] = r) := by
 refine enter func77 rfl rfl rfl ht ?_
 refine C_seq (C_region ?_)
 refine W_move rfl rfl rfl ?_
 refine W_nilCheck rfl rfl rfl ?_
 refine W_field (o := 0) rfl rfl runUnderlying102 rfl sizeOf100 rfl rfl rfl ?_
 refine W_load rfl rfl isAgg100 rfl (own_at (List.mem_cons_self ..) rfl) ?_
 rcases hb with rfl | rfl
 ·refine W_ptrNil rfl rfl runUnderlying100 rfl rfl ?_
  refine W_end (E_then ?_)
  refine C_cond (b := true) rfl (fun _ => ?_) (fun hb => Bool.noConfusion hb)
  refine C_region ?_
  refine W_move rfl rfl rfl ?_
  refine W_move rfl rfl rfl ?_
  refine W_toUnsafe (b := b) (o := 0) (List.mem_cons_self ..) rfl ⟨_, rfl, rfl⟩ rfl rfl underlying100 underlying131 rfl ?_
  refine W_extern (noesc_extern func94 (by kernel_rfl) (by kernel_rfl) (by kernel_rfl) (by kernel_rfl) _) rfl rfl rfl ?_
  refine W_fromUnsafe (b := b) (o := 0) (List.mem_cons_self ..) ⟨_, rfl⟩ (by kernel_rfl) rfl rfl underlying131 underlying100 rfl ?_
  refine W_nilCheck rfl rfl rfl ?_
  refine W_field (o := 0) rfl rfl runUnderlying102 rfl sizeOf100 rfl rfl rfl ?_
  refine W_store (cs := [.pointer (some ⟨b, 0, none⟩)]) (out := [.pointer (some ⟨b, 0, none⟩), v]) rfl sizeOf100 rfl rfl rfl rfl rfl (all_cons rfl all_nil) rfl ?_
  refine W_end (E_off ?_)
  exact end0 rfl ⟨rfl, rfl, rfl⟩
 ·refine W_ptrNil rfl rfl runUnderlying100 rfl rfl ?_
  refine W_end (E_then ?_)
  refine C_cond (b := false) rfl (fun hb => Bool.noConfusion hb) (fun _ => ?_)
  refine C_seq (C_region ?_)
  refine W_move rfl rfl rfl ?_
  refine W_nilCheck rfl rfl rfl ?_
  refine W_field (o := 0) rfl rfl runUnderlying102 rfl sizeOf100 rfl rfl rfl ?_
  refine W_load rfl rfl isAgg100 rfl (own_at (List.mem_cons_self ..) rfl) ?_
  refine W_move rfl rfl rfl ?_
  refine W_ptrNeSame ⟨_, rfl⟩ rfl rfl underlying100 rfl rfl ?_
  refine W_end (E_then ?_)
  refine C_cond (b := false) rfl (fun hb => Bool.noConfusion hb) (fun _ => ?_)
  refine C_skip (E_off ?_)
  exact end0 rfl ⟨rfl, rfl, rfl⟩
theorem bws66_c {B : Nat} {w0 w : World} {H : Hp} {M : List Res} {b : Nat} {p v : Value} {xs : List Value} {l : List U8} {s : ByteArray} (hb : BAd b p) (hx : Rw H v xs l) (hz : l.length + s.size ≤ 140737488355328)
  (ht : St B w0 H (.obj b (.cells [p, v].toArray 102 (0, 0)) :: .row v 5 (Rep.sz U8) l.length xs :: M) w) :
  Calls prog 66 [.pointer (some ⟨b, 0, none⟩), .string s].toArray w (Ret B w0 fun H' M' r => H = H' ∧ ∃ (v' : Value) (xs' : List Value), .obj b (.cells [.pointer (some ⟨b, 0, none⟩), v'].toArray 102 (0, 0)) :: .row v' 5 (Rep.sz U8) (l ++ bytesL s).length xs' :: M = M' ∧ .tuple #[.int .i64 (s.size : Int), .nilIface] = r ∧ RwF v' xs' (l ++ bytesL s)) := by
 refine enter func66 rfl rfl rfl ht ?_
 refine C_seq (C_region ?_)
 refine W_assign rfl rfl rfl ?_
 refine W_assign rfl rfl rfl ?_
 refine W_end (E_then (C_seq (C_region ?_)))
 refine W_move rfl rfl rfl ?_
 refine W_call call77 rfl rfl rfl (fun w ht => by have h := bcc77_c hb ht; exact h) ?_
 rintro _ _ _ ⟨rfl, rfl, rfl⟩
 refine W_end (E_then (C_seq (C_region ?_)))
 refine W_move rfl rfl rfl ?_
 refine W_move rfl rfl rfl ?_
 refine W_nilCheck rfl rfl rfl ?_
 refine W_field (o := 1) rfl rfl runUnderlying102 rfl sizeOf87 rfl rfl rfl ?_
 refine W_load rfl rfl isAgg87 rfl (own_at (List.mem_cons_self ..) rfl) ?_
 refine W_move rfl rfl rfl ?_
 refine W_perm (List.Perm.swap _ _ _) ?_
 refine W_appendStr rfl rfl underlying87 underlying9 ⟨_, rfl, rfl, rfl, rfl⟩ rfl rfl hx hz ?_
 intro v' xs' h'
 refine W_nilCheck rfl rfl rfl ?_
 refine W_field (o := 1) rfl rfl runUnderlying102 rfl sizeOf87 rfl rfl rfl ?_
 refine W_perm (List.Perm.swap _ _ _) ?_
 refine W_store (cs := [v']) (out := [.pointer (some ⟨b, 0, none⟩), v']) rfl sizeOf87 rfl rfl (Rw.cells h') rfl rfl (all_cons (Rw.one h') all_nil) rfl ?_
 refine W_end (E_then (C_seq (C_region ?_)))
 refine W_move rfl rfl rfl ?_
 refine W_lenStr rfl rfl runUnderlying9 rfl ?_
 refine W_assign rfl rfl rfl ?_
 refine W_assign rfl rfl rfl ?_
 refine W_end (E_then (C_ret ?_))
 exact end2 rfl rfl rfl ⟨rfl, v', xs', rfl, rfl, h'.toF⟩

theorem bst67_c {B : Nat} {w0 w : World} {H : Hp} {M : List Res} {b : Nat} {p v : Value} {xs : List Value} {l : List U8} (hx : Rw H v xs l) (hz : 0 < l.length)
  (ht : St B w0 H (.row v 5 (Rep.sz U8) l.length xs :: .obj b (.cells [p, v].toArray 102 (0, 0)) :: M) w) :
  Calls prog 67 [.pointer (some ⟨b, 0, none⟩)].toArray w (Ret B w0 fun H' M' r => H = H' ∧ M = M' ∧ .string (bstr l) = r) := by
 refine enter func67 rfl rfl rfl ht ?_
 refine C_seq (C_region ?_)
 refine W_assign rfl rfl rfl ?_
 refine W_end (E_then (C_seq ?_))
 refine C_rowSome hz (fun gb off cap hv hcap => ?_)
 subst hv
 refine C_as (M' := [[.row (.slice (some ⟨gb, off, none⟩) l.length cap) 5 (Rep.sz U8) l.length xs]].flatten ++ (.obj b (.cells [p, .slice (some ⟨gb, off, none⟩) l.length cap].toArray 102 (0, 0)) :: M)) rfl ?_
 refine C_region_tok0 11 (phiT [(fun H rs v => [] = rs ∧ .pointer (some ⟨b, 0, none⟩) = v), (fun H rs v => [] = rs ∧ .pointer (some ⟨b, 0, none⟩) = v), (fun H rs v => [] = rs ∧ .pointer (some ⟨b, 1, none⟩) = v), (fun H rs v => [] = rs ∧ .slice (some ⟨gb, off, none⟩) l.length cap = v), (fun H rs v => [] = rs ∧ .pointer (some ⟨gb, off, none⟩) = v), (fun H rs v => [] = rs ∧ .pointer (some ⟨b, 0, none⟩) = v), (fun H rs v => [] = rs ∧ .pointer (some ⟨b, 0, none⟩) = v), (fun H rs v => [] = rs ∧ .pointer (some ⟨b, 1, none⟩) = v), (fun H rs v => [] = rs ∧ .slice (some ⟨gb, off, none⟩) l.length cap = v), (fun H rs v => [] = rs ∧ .int .i64 (l.length : Int) = v), (fun H rs v => [] = rs ∧ .string (bstr l) = v)])
  [[], [], [], [], [], [], [], [], [], [], [11]] [[], [], [], [], [], [], [], [], [], [], []] [[.row (.slice (some ⟨gb, off, none⟩) l.length cap) 5 (Rep.sz U8) l.length xs]] [0, 1, 2, 3, 4, 5, 6, 7, 8, 9, 10] Facts.mixed (by kernel_rfl) (by rfl) (by rfl) (by rfl) (by kernel_rfl)
  (phiT_mono ⟨eq_monoT _ _, eq_monoT _ _, eq_monoT _ _, eq_monoT _ _, eq_monoT _ _, eq_monoT _ _, eq_monoT _ _, eq_monoT _ _, eq_monoT _ _, eq_monoT _ _, eq_monoT _ _, trivial⟩) ⟨?_, ?_, ?_, ?_, ?_, ?_, ?_, ?_, ?_, ?_, ?_, trivial⟩ ?_
 ·intro HX hX X Rest hR
  intro hU hUp
  refine W_move rfl rfl rfl ?_
  exact W_end (OneT_end [] (Hp.le_refl _) ⟨rfl, rfl⟩)
 ·intro HX hX X Rest hR
  rintro _ _ ⟨rfl, rfl⟩
  intro hU hUp
  refine W_nilCheck rfl rfl rfl ?_
  exact W_end (OneT_end [] (Hp.le_refl _) ⟨rfl, rfl⟩)
 ·intro HX hX X Rest hR
  rintro _ _ ⟨rfl, rfl⟩
  intro hU hUp
  refine W_field (o := 1) rfl rfl runUnderlying102 rfl sizeOf87 rfl rfl rfl ?_
  exact W_end (OneT_end [] (Hp.le_refl _) ⟨rfl, rfl⟩)
 ·intro HX hX X Rest hR
  rintro _ _ ⟨rfl, rfl⟩
  intro hU hUp
  refine W_load rfl rfl isAgg87 rfl (own_at (hR _ (List.mem_cons_self ..)) rfl) ?_
  exact W_end (OneT_end [] (Hp.le_refl _) ⟨rfl, rfl⟩)
 ·intro HX hX X Rest hR
  rintro _ _ ⟨rfl, rfl⟩
  intro hU hUp
  refine W_sliceData rfl rfl rfl (by omega) ?_
  exact W_end (OneT_end [] (Hp.le_refl _) ⟨rfl, rfl⟩)
 ·intro HX hX X Rest hR
  intro hU hUp
  refine W_move rfl rfl rfl ?_
  exact W_end (OneT_end [] (Hp.le_refl _) ⟨rfl, rfl⟩)
 ·intro HX hX X Rest hR
  rintro _ _ ⟨rfl, rfl⟩
  intro hU hUp
  refine W_nilCheck rfl rfl rfl ?_
  exact W_end (OneT_end [] (Hp.le_refl _) ⟨rfl, rfl⟩)
 ·intro HX hX X Rest hR
  rintro _ _ ⟨rfl, rfl⟩
  intro hU hUp
  refine W_field (o := 1) rfl rfl runUnderlying102 rfl sizeOf87 rfl rfl rfl ?_
  exact W_end (OneT_end [] (Hp.le_refl _) ⟨rfl, rfl⟩)
 ·intro HX hX X Rest hR
  rintro _ _ ⟨rfl, rfl⟩
  intro hU hUp
  refine W_load rfl rfl isAgg87 rfl (own_at (hR _ (List.mem_cons_self ..)) rfl) ?_
  exact W_end (OneT_end [] (Hp.le_refl _) ⟨rfl, rfl⟩)
 ·intro HX hX X Rest hR
  rintro _ _ ⟨rfl, rfl⟩
  intro hU hUp
  refine W_lenS rfl rfl runUnderlying87 rfl ?_
  exact W_end (OneT_end [] (Hp.le_refl _) ⟨rfl, rfl⟩)
 ·intro HX hX X Rest hR
  rintro _ _ ⟨rfl, rfl⟩
  rintro _ _ ⟨rfl, rfl⟩
  intro hU hUp
  refine W_as (M' := .row (.slice (some ⟨gb, off, none⟩) l.length cap) 5 (Rep.sz U8) l.length xs :: Rest) rfl ?_
  refine W_unsafeStr (l := l) rfl rfl underlying114 (by kernel_rfl) rfl rfl hz (hx.mono hX) ?_
  exact W_end (OneT_end [] (Hp.le_refl _) ⟨rfl, rfl⟩)
 intro H1 hle1
 rintro _ _ ⟨rfl, rfl⟩
 rintro _ _ ⟨rfl, rfl⟩
 rintro _ _ ⟨rfl, rfl⟩
 rintro _ _ ⟨rfl, rfl⟩
 rintro _ _ ⟨rfl, rfl⟩
 rintro _ _ ⟨rfl, rfl⟩
 rintro _ _ ⟨rfl, rfl⟩
 rintro _ _ ⟨rfl, rfl⟩
 rintro _ _ ⟨rfl, rfl⟩
 rintro _ _ ⟨rfl, rfl⟩
 rintro _ _ ⟨rfl, rfl⟩
 refine W_as (M' := .obj b (.cells [p, .slice (some ⟨gb, off, none⟩) l.length cap].toArray 102 (0, 0)) :: M) rfl ?_
 refine W_assign rfl rfl rfl ?_
 refine W_end (E_then (C_ret ?_))
 refine E_drop (List.Sublist.cons _ (List.Sublist.refl _)) ?_
 refine E_weak hle1 ?_
 exact end1 rfl rfl ⟨rfl, rfl, rfl⟩

theorem m_large_Int_Text_c {B : Nat} {w0 w : World} [Tabs B w0] {H : Hp} {M : List Res} {p0_a : S_large_Int} {v0 : Value} {r : ByteArray × Bool} (hm : m_large_Int_Text p0_a = some r) (h0 : RdS H v0 p0_a.words) (ht : St B w0 H (M) w) :
  Calls prog 50 [.agg [.bool (p0_a.minus), v0].toArray].toArray w (Ret B w0 fun H' M' v => H = H' ∧ M = M' ∧ .tuple #[.string (r.1), .bool (r.2)] = v) := by
 unfold m_large_Int_Text at hm
 refine enter func50 rfl rfl rfl ht ?_
 refine C_seq (C_region ?_)
 refine W_box (cs := [.bool (p0_a.minus), v0]) rfl rfl rfl rfl (fun b101 => ?_)
 refine W_assign rfl rfl rfl ?_
 refine W_assign rfl rfl rfl ?_
 refine W_end (E_then (C_seq (C_seq (C_region ?_))))
 refine W_field (o := 1) rfl rfl runUnderlying47 rfl sizeOf45 rfl rfl rfl ?_
 refine W_load rfl rfl isAgg45 rfl (own_at (List.mem_cons_self ..) rfl) ?_
 refine W_lenR rfl rfl runUnderlying45 rfl h0 ?_
 refine W_bin rfl rfl rfl rfl rfl ?_
 refine W_end (E_then ?_)
 refine C_cond (b := decide ((p0_a.words.length : Int) = 0)) rfl (fun hb102 => ?_) (fun hb102 => ?_)
 ·have hm := ite_t' hb102 hm
  refine C_seq (C_region ?_)
  refine W_assign rfl rfl rfl ?_
  refine W_assign rfl rfl rfl ?_
  refine W_end (E_then (C_ret (E_ret_then ?_)))
  obtain rfl := Option.some.inj hm
  refine E_drop (List.Sublist.cons _ (List.Sublist.refl _)) ?_
  refine E_weak (Hp.le_refl _) ?_
  exact end2 rfl rfl rfl ⟨rfl, rfl, rfl⟩
 ·have hm := ite_f' hb102 hm
  refine C_skip (E_then (C_seq (C_seq (C_region ?_))))
  refine W_field (o := 1) rfl rfl runUnderlying47 rfl sizeOf45 rfl rfl rfl ?_
  refine W_load rfl rfl isAgg45 rfl (own_at (List.mem_cons_self ..) rfl) ?_
  refine W_lenR rfl rfl runUnderlying45 rfl h0 ?_
  refine W_bin rfl rfl rfl rfl rfl ?_
  refine W_end (E_then ?_)
  refine C_cond (b := decide (210 < (p0_a.words.length : Int))) rfl (fun hb103 => ?_) (fun hb103 => ?_)
  ·have hm := ite_t' hb103 hm
   refine C_seq (C_region ?_)
   refine W_assign rfl rfl rfl ?_
   refine W_assign rfl rfl rfl ?_
   refine W_end (E_then (C_ret (E_ret_then ?_)))
   obtain rfl := Option.some.inj hm
   refine E_drop (List.Sublist.cons _ (List.Sublist.refl _)) ?_
   refine E_weak (Hp.le_refl _) ?_
   exact end2 rfl rfl rfl ⟨rfl, rfl, rfl⟩
  ·have hm := ite_f' hb103 hm
   refine C_skip (E_then (C_seq (C_region ?_)))
   refine W_assign rfl rfl rfl ?_
   refine W_end (E_then (C_seq (C_seq (C_region ?_))))
   refine W_field (o := 1) rfl rfl runUnderlying47 rfl sizeOf45 rfl rfl rfl ?_
   refine W_load rfl rfl isAgg45 rfl (own_at (List.mem_cons_self ..) rfl) ?_
   refine W_assign rfl rfl rfl ?_
   refine W_end (E_then (C_block ?_))
   refine C_nilRow 80 (Rep.sz U32) ?_
   refine C_keep (L' := [(1, .pointer (some ⟨b101, 0, none⟩)), (4, (.slice none 0 0)), (5, v0)]) ⟨rfl, rfl, rfl, trivial⟩ (List.Perm.refl _) ?_
   refine C_loop (fun n H' M' L' => ∃ l176 : List U32, ∃ l179 : (List U32), ∃ v174 : Value, ∃ xs175 : List Value, ∃ v178 : Value, loopF (fun s183 n => m_large_Int_Text_b1 p0_a s183.1 s183.2 n) n (l176, l179) = some r ∧ Rw H' v174 xs175 l176 ∧ RdS H' v178 l179 ∧ H.le H' ∧ .row v174 80 (Rep.sz U32) l176.length xs175 :: .obj b101 (.cells [.bool (p0_a.minus), v0].toArray 47 (0, 0)) :: M = M' ∧ [(1, .pointer (some ⟨b101, 0, none⟩)), (4, v174), (5, v178)] = L') FUEL ⟨([] : List U32), p0_a.words, (.slice none 0 0), ([]), v0, hm, Rw.nil, h0, (Hp.le_refl _), rfl, rfl⟩ ?_
   rintro n186 H181 _ _ ⟨l176, l179, v174, xs175, v178, hm, hr177, h180, hle182, rfl, rfl⟩
   cases n186 with
   | zero => cases hm
   | succ n186 =>
    have hm : m_large_Int_Text_b1 p0_a l176 l179 (loopF (fun s183 n => m_large_Int_Text_b1 p0_a s183.1 s183.2 n) n186) = some r := hm
    generalize hn185 : loopF (fun s183 n => m_large_Int_Text_b1 p0_a s183.1 s183.2 n) n186 = nx184 at hm
    unfold m_large_Int_Text_b1 at hm
    refine C_seq (C_seq (C_region ?_))
    refine W_move rfl rfl rfl ?_
    refine W_lenR rfl rfl runUnderlying45 rfl h180 ?_
    refine W_bin rfl rfl rfl rfl rfl ?_
    refine W_end (E_then ?_)
    refine C_cond (b := decide (0 < (l179.length : Int))) rfl (fun hb192 => ?_) (fun hb192 => ?_)
    ·have hm := ite_t' hb192 hm
     refine C_skip (E_then (C_block (C_seq (C_region ?_))))
     refine W_move rfl rfl rfl ?_
     obtain ⟨r193, hc194, hm⟩ := bind_some hm
     refine W_call call64 rfl rfl rfl (fun w ht => by have h := m_large_shortDiv_c (hm := hc194) h180 ht; exact h) ?_
     rintro _ _ _ ⟨rfl, v195, xs196, rfl, rfl, h197⟩
     have h197 := h197 H181
     refine W_move rfl rfl rfl ?_
     refine W_extract rfl rfl rfl rfl ?_
     refine W_extract rfl rfl rfl rfl ?_
     refine W_assign rfl rfl rfl ?_
     refine W_assign rfl rfl rfl ?_
     refine W_end (E_then (C_seq (C_region ?_)))
     refine W_move rfl rfl rfl ?_
     refine W_move rfl rfl rfl ?_
     refine W_buildSlice (α := U32) (css := [[.int .u32 (r193.2)]]) (zs := [.int .u32 (0)]) (out := [.int .u32 (r193.2)]) (ys := ([⟨r193.2⟩] : List U32)) rfl rfl rfl ⟨rfl, trivial⟩ runUnderlying45 sizeOf80 rfl zeroValue80 (by kernel_rfl) rfl rfl rfl rfl ⟨[.int .u32 (r193.2)], [], rfl, rfl, rfl⟩ rfl ?_
     intro b198 v199 H200 hv201 hle202 h203
     have hc204 : Value.cap' v199 = ([⟨r193.2⟩] : List U32).length := by rw [hv201]; rfl
     obtain ⟨hz205, hm⟩ := need_some hm
     refine W_perm (List.Perm.swap _ _ _) ?_
     refine W_appendO (α := U32) (l := l176) (ys := ([⟨r193.2⟩] : List U32)) rfl rfl underlying45 ⟨_, rfl, rfl, rfl, rfl⟩ rfl rfl rfl rfl rfl (hr177.mono hle202) h203 hz205 ?_
     intro v206 xs207 hr208
     refine W_assign rfl rfl rfl ?_
     refine W_end (E_then (C_region ?_))
     refine W_move rfl rfl rfl ?_
     refine W_perm (List.Perm.swap _ _ _) ?_
     refine W_freeze ((h197.mono hle202)).rd rfl (fun H209 hle210 h211 => ?_)
     obtain ⟨r212, hc213, hm⟩ := bind_some hm
     refine W_call call54 rfl rfl rfl (fun w ht => by have h := m_large_norm_c (hm := hc213) h211 ht; exact h) ?_
     rintro _ H216 _ ⟨hle217, v214, rfl, rfl, h215⟩
     refine W_fieldV rfl rfl runUnderlying47 rfl isAgg45 rfl rfl ?_
     refine W_assign rfl rfl rfl ?_
     refine W_end (E_normal_block ?_)
     exact E_keepJ (E_back (Nat.lt_succ_self _) ⟨(l176 ++ ([⟨r193.2⟩] : List U32)), r212.words, v206, xs207, v214, (by rw [hn185]; exact hm), ((hr208.mono hle210).mono hle217), h215, (Hp.le_trans (Hp.le_trans (Hp.le_trans hle182 hle202) hle210) hle217), rfl, rfl⟩) (List.Perm.refl _) ⟨rfl, rfl, rfl, trivial⟩
    ·have hm := ite_f' hb192 hm
     refine C_exit (E_exit_then (E_exit_then (E_exit_hit (E_then (C_seq (C_region ?_))))))
     refine W_alloc (cs := [.pointer none, .slice none 0 0]) rfl rfl zeroValue102 rfl (fun b218 => ?_)
     refine W_end (E_then (C_seq (C_seq (C_region ?_))))
     refine W_move rfl rfl rfl ?_
     refine W_lenO (List.mem_cons_of_mem _ (List.mem_cons_self ..)) rfl rfl runUnderlying45 rfl ?_
     refine W_bin rfl rfl rfl rfl rfl ?_
     refine W_assign rfl rfl rfl ?_
     refine W_end (E_then (C_block ?_))
     refine C_nilRow 5 (Rep.sz U8) ?_
     refine C_keep (L' := [(1, .pointer (some ⟨b101, 0, none⟩)), (4, v174), (8, .pointer (some ⟨b218, 0, none⟩)), (9, .int .i64 (IntKind.i64.wrap ((l176.length : Int) - 1)))]) ⟨rfl, rfl, rfl, rfl, trivial⟩ (List.Perm.refl _) ?_
     refine C_loop (fun n H' M' L' => ∃ n291 : Int, ∃ l296 : List U8, ∃ v292 : Value, ∃ v294 : Value, ∃ xs295 : List Value, loopF (fun s300 n => m_large_Int_Text_b4 p0_a l176 s300.1 s300.2 n) n (n291, l296) = some r ∧ BAd b218 v292 ∧ Rw H' v294 xs295 l296 ∧ H181.le H' ∧ .row v294 5 (Rep.sz U8) l296.length xs295 :: .obj b218 (.cells [v292, v294].toArray 102 (0, 0)) :: .row v174 80 (Rep.sz U32) l176.length xs175 :: .obj b101 (.cells [.bool (p0_a.minus), v0].toArray 47 (0, 0)) :: M = M' ∧ [(1, .pointer (some ⟨b101, 0, none⟩)), (4, v174), (8, .pointer (some ⟨b218, 0, none⟩)), (9, .int .i64 (n291))] = L') FUEL ⟨IntKind.i64.wrap ((l176.length : Int) - 1), ([] : List U8), (.pointer none), (.slice none 0 0), ([]), hm, (.inl rfl), Rw.nil, (Hp.le_refl _), rfl, rfl⟩ ?_
     rintro n303 H298 _ _ ⟨n291, l296, v292, v294, xs295, hm, hb293, hr297, hle299, rfl, rfl⟩
     cases n303 with
     | zero => cases hm
     | succ n303 =>
      have hm : m_large_Int_Text_b4 p0_a l176 n291 l296 (loopF (fun s300 n => m_large_Int_Text_b4 p0_a l176 s300.1 s300.2 n) n303) = some r := hm
      generalize hn302 : loopF (fun s300 n => m_large_Int_Text_b4 p0_a l176 s300.1 s300.2 n) n303 = nx301 at hm
      unfold m_large_Int_Text_b4 at hm
      refine C_seq (C_seq (C_region ?_))
      refine W_move rfl rfl rfl ?_
      refine W_bin rfl rfl rfl rfl rfl ?_
      refine W_end (E_then ?_)
      refine C_cond (b := decide (0 ≤ n291)) rfl (fun hb309 => ?_) (fun hb309 => ?_)
      ·have hm := ite_t' hb309 hm
       refine C_skip (E_then (C_seq (C_block (C_seq (C_region ?_)))))
       refine W_move rfl rfl rfl ?_
       refine W_move rfl rfl rfl ?_
       obtain ⟨y310, h311, he312, hm⟩ := idx_some hm
       refine W_indexO (List.mem_cons_of_mem _ (List.mem_cons_of_mem _ (List.mem_cons_self ..))) rfl rfl runUnderlying45 sizeOf80 rfl rfl h311 (List.getElem?_eq_some_iff.1 he312).1 ?_
       obtain ⟨_, rfl, hg313⟩ := (hr177).elem he312
       refine W_load rfl rfl isAgg80 rfl (row_one0 (List.mem_cons_of_mem _ (List.mem_cons_of_mem _ (List.mem_cons_self ..))) hg313 rfl) ?_
       refine W_convInt rfl rfl runUnderlying80 runUnderlying84 rfl ?_
       obtain ⟨hz314, hm⟩ := need_some hm
       refine W_call call65 rfl rfl rfl (fun w ht => by have h := fuo65_c hz314 ht; exact h) ?_
       rintro _ _ _ ⟨rfl, rfl, rfl⟩
       refine W_assign rfl rfl rfl ?_
       refine W_end (E_then ?_)
       refine C_seq_join (fun H' M' L' => ∃ l325 : List U8, ∃ v321 : Value, ∃ v323 : Value, ∃ xs324 : List Value, m_large_Int_Text_b5 n291 nx301 y310 l325 = some r ∧ BAd b218 v321 ∧ Rw H' v323 xs324 l325 ∧ H298 = H' ∧ .row v323 5 (Rep.sz U8) l325.length xs324 :: .obj b218 (.cells [v321, v323].toArray 102 (0, 0)) :: .row v174 80 (Rep.sz U32) l176.length xs175 :: .obj b101 (.cells [.bool (p0_a.minus), v0].toArray 47 (0, 0)) :: M = M' ∧ [(1, .pointer (some ⟨b101, 0, none⟩)), (4, v174), (8, .pointer (some ⟨b218, 0, none⟩)), (9, .int .i64 (n291)), (10, .string (itoaB (IntKind.u64.wrap (y310.n))))] = L') ?_ (fun J327 => ?_)
       ·rintro _ _ _ ⟨l325, v321, v323, xs324, hm, hb322, hr326, rfl, rfl, rfl⟩
        unfold m_large_Int_Text_b5 at hm
        refine C_region ?_
        refine W_move rfl rfl rfl ?_
        obtain ⟨hz328, hm⟩ := need_some hm
        refine W_perm (List.Perm.swap _ _ _) ?_
        refine W_call call66 rfl rfl rfl (fun w ht => by have h := bws66_c (l := l325) hb322 hr326 hz328 ht; exact h) ?_
        rintro _ _ _ ⟨rfl, v329, xs330, rfl, rfl, hr331⟩
        have hr331 := hr331 H298
        refine W_end (E_normal_block (E_then (C_region ?_)))
        refine W_move rfl rfl rfl ?_
        refine W_bin rfl rfl rfl rfl rfl ?_
        refine W_assign rfl rfl rfl ?_
        refine W_end ?_
        exact E_keepJ (E_back (Nat.lt_succ_self _) ⟨IntKind.i64.wrap (n291 - 1), (l325 ++ bytesL (itoaB (IntKind.u64.wrap (y310.n)))), (.pointer (some ⟨b218, 0, none⟩)), v329, xs330, (by rw [hn302]; exact hm), (.inr rfl), hr331, hle299, rfl, rfl⟩) (List.Perm.swap _ _ _) ⟨rfl, rfl, rfl, rfl, trivial⟩
       ·refine C_seq (C_region ?_)
        refine W_move rfl rfl rfl ?_
        refine W_move rfl rfl rfl ?_
        refine W_lenO (List.mem_cons_of_mem _ (List.mem_cons_of_mem _ (List.mem_cons_self ..))) rfl rfl runUnderlying45 rfl ?_
        refine W_bin rfl rfl rfl rfl rfl ?_
        refine W_bin rfl rfl rfl rfl rfl ?_
        refine W_end (E_then ?_)
        refine C_cond (b := decide (n291 < (IntKind.i64.wrap ((l176.length : Int) - 1)))) rfl (fun hb332 => ?_) (fun hb332 => ?_)
        ·have hm := ite_t' hb332 hm
         refine C_region ?_
         refine W_move rfl rfl rfl ?_
         refine W_lenStr rfl rfl runUnderlying9 rfl ?_
         obtain ⟨hz333, hm⟩ := need_some hm
         refine W_sliceStr (l := (((itoaB (IntKind.u64.wrap (y310.n))).size : Int) : Int).toNat) (h := (⟨#[48, 48, 48, 48, 48, 48, 48, 48, 48]⟩ : ByteArray).size) rfl rfl runUnderlying9 rfl (.inl ⟨rfl, rfl⟩) (.inr ⟨_, _, _, rfl, rfl, by omega, by omega, rfl⟩) ?_
         obtain ⟨hz334, hm⟩ := need_some hm
         refine W_perm (List.Perm.swap _ _ _) ?_
         refine W_call call66 rfl rfl rfl (fun w ht => by have h := bws66_c (l := l296) hb293 hr297 hz334 ht; exact h) ?_
         rintro _ _ _ ⟨rfl, v335, xs336, rfl, rfl, hr337⟩
         have hr337 := hr337 H298
         refine W_end ?_
         exact E_keepJ (J327 _ _ _ ⟨(l296 ++ bytesL ((⟨#[48, 48, 48, 48, 48, 48, 48, 48, 48]⟩ : ByteArray).extract ((((itoaB (IntKind.u64.wrap (y310.n))).size : Int) : Int).toNat) ((⟨#[48, 48, 48, 48, 48, 48, 48, 48, 48]⟩ : ByteArray).size))), (.pointer (some ⟨b218, 0, none⟩)), v335, xs336, hm, (.inr rfl), hr337, rfl, rfl, rfl⟩) (List.Perm.swap _ _ _) ⟨rfl, rfl, rfl, rfl, rfl, trivial⟩
        ·have hm := ite_f' hb332 hm
         refine C_skip ?_
         exact E_keepJ (J327 _ _ _ ⟨l296, v292, v294, xs295, hm, hb293, hr297, rfl, rfl, rfl⟩) (List.Perm.refl _) ⟨rfl, rfl, rfl, rfl, rfl, trivial⟩
      ·have hm := ite_f' hb309 hm
       refine C_exit (E_exit_then (E_exit_then (E_exit_hit (E_then (C_seq (C_region ?_))))))
       obtain ⟨hz338, hm⟩ := need_some hm
       refine W_call call67 rfl rfl rfl (fun w ht => by have h := bst67_c (l := l296) hr297 hz338 ht; exact h) ?_
       rintro _ _ _ ⟨rfl, rfl, rfl⟩
       refine W_assign rfl rfl rfl ?_
       refine W_end (E_then (C_seq (C_region ?_)))
       refine W_move rfl rfl rfl ?_
       refine W_lenStr rfl rfl runUnderlying9 rfl ?_
       refine W_bin rfl rfl rfl rfl rfl ?_
       refine W_assign rfl rfl rfl ?_
       refine W_end (E_then ?_)
       refine C_seq_join (fun H' M' L' => ∃ s341 : ByteArray, m_large_Int_Text_b6 l296 s341 = some r ∧ H298 = H' ∧ M = M' ∧ [(11, .string (s341)), (12, .bool (decide (((bstr l296).size : Int) ≤ 2000)))] = L') ?_ (fun J342 => ?_)
       ·rintro _ _ _ ⟨s341, hm, rfl, rfl, rfl⟩
        unfold m_large_Int_Text_b6 at hm
        refine C_seq (C_region ?_)
        refine W_move rfl rfl rfl ?_
        refine W_move rfl rfl rfl ?_
        refine W_assign rfl rfl rfl ?_
        refine W_assign rfl rfl rfl ?_
        refine W_end (E_then (C_ret ?_))
        obtain rfl := Option.some.inj hm
        refine E_weak (Hp.le_trans hle182 hle299) ?_
        exact end2 rfl rfl rfl ⟨rfl, rfl, rfl⟩
       ·refine C_seq (C_region ?_)
        refine W_field (o := 0) rfl rfl runUnderlying47 rfl sizeOf4 rfl rfl rfl ?_
        refine W_load rfl rfl isAgg4 rfl (own_at (List.mem_cons_of_mem _ (List.mem_cons_self ..)) rfl) ?_
        refine W_end (E_then ?_)
        refine C_cond (b := p0_a.minus) rfl (fun hb343 => ?_) (fun hb343 => ?_)
        ·have hm := ite_t' hb343 hm
         refine C_region ?_
         refine W_move rfl rfl rfl ?_
         obtain ⟨hq344, hm⟩ := need_some hm
         refine W_addStr rfl rfl rfl rfl hq344 ?_
         refine W_assign rfl rfl rfl ?_
         refine W_end ?_
         refine E_drop (List.Sublist.cons _ (List.Sublist.cons _ (List.Sublist.refl _))) ?_
         exact E_keepJ (J342 _ _ _ ⟨(⟨#[45]⟩ : ByteArray) ++ (bstr l296), hm, rfl, rfl, rfl⟩) (List.Perm.refl _) ⟨rfl, rfl, trivial⟩
        ·have hm := ite_f' hb343 hm
         refine C_skip ?_
         refine E_drop (List.Sublist.cons _ (List.Sublist.cons _ (List.Sublist.refl _))) ?_
         exact E_keepJ (J342 _ _ _ ⟨bstr l296, hm, rfl, rfl, rfl⟩) (List.Perm.refl _) ⟨rfl, rfl, trivial⟩

theorem m_nat_text_c {B : Nat} {w0 w : World} [Tabs B w0] {H : Hp} {M : List Res} {p0_a : S_large_Int} {v0 : Value} {r : ByteArray × Int} (hm : m_nat_text p0_a = some r) (h0 : RdS H v0 p0_a.words) (ht : St B w0 H (M) w) :
  Calls prog 58 [.agg [.bool (p0_a.minus), v0].toArray].toArray w (Ret B w0 fun H' M' v => H = H' ∧ M = M' ∧ .tuple #[.string (r.1), .int .i64 (r.2)] = v) := by
 unfold m_nat_text at hm
 refine enter func58 rfl rfl rfl ht ?_
 refine C_seq (C_region ?_)
 refine W_box (cs := [.bool (p0_a.minus), v0]) rfl rfl rfl rfl (fun b101 => ?_)
 refine W_assign rfl rfl rfl ?_
 refine W_assign rfl rfl rfl ?_
 refine W_end (E_then (C_seq (C_region ?_)))
 refine W_loadAgg rfl rfl isAgg47 sizeOf47 rfl (own_all (List.mem_cons_self ..)) rfl ?_
 obtain ⟨r102, hc103, hm⟩ := bind_some hm
 refine W_call call50 rfl rfl rfl (fun w ht => by have h := m_large_Int_Text_c (hm := hc103) h0 ht; exact h) ?_
 rintro _ _ _ ⟨rfl, rfl, rfl⟩
 refine W_move rfl rfl rfl ?_
 refine W_extract rfl rfl rfl rfl ?_
 refine W_extract rfl rfl rfl rfl ?_
 refine W_assign rfl rfl rfl ?_
 refine W_assign rfl rfl rfl ?_
 refine W_end (E_then (C_seq (C_seq (C_region ?_))))
 refine W_move rfl rfl rfl ?_
 refine W_un rfl rfl rfl rfl ?_
 refine W_end (E_then ?_)
 refine C_cond (b := !r102.2) rfl (fun hb104 => ?_) (fun hb104 => ?_)
 ·have hm := ite_t' hb104 hm
  refine C_seq (C_region ?_)
  refine W_assign rfl rfl rfl ?_
  refine W_assign rfl rfl rfl ?_
  refine W_end (E_then (C_ret (E_ret_then ?_)))
  obtain rfl := Option.some.inj hm
  refine E_drop (List.Sublist.cons _ (List.Sublist.refl _)) ?_
  refine E_weak (Hp.le_refl _) ?_
  exact end2 rfl rfl rfl ⟨rfl, rfl, rfl⟩
 ·have hm := ite_f' hb104 hm
  refine C_skip (E_then (C_seq (C_region ?_)))
  refine W_move rfl rfl rfl ?_
  refine W_assign rfl rfl rfl ?_
  refine W_assign rfl rfl rfl ?_
  refine W_end (E_then (C_ret ?_))
  obtain rfl := Option.some.inj hm
  refine E_drop (List.Sublist.cons _ (List.Sublist.refl _)) ?_
  refine E_weak (Hp.le_refl _) ?_
  exact end2 rfl rfl rfl ⟨rfl, rfl, rfl⟩

theorem m_nat_Gcd_c {B : Nat} {w0 w : World} [Tabs B w0] {H : Hp} {M : List Res} {p0_a : ByteArray} {p1_b : ByteArray} {r : ByteArray × Int} (hm : m_nat_Gcd p0_a p1_b = some r) (ht : St B w0 H (M) w) :
  Calls prog 44 [.string (p0_a), .string (p1_b)].toArray w (Ret B w0 fun H' M' v => H = H' ∧ M = M' ∧ .tuple #[.string (r.1), .int .i64 (r.2)] = v) := by
 unfold m_nat_Gcd at hm
 refine enter func44 rfl rfl rfl ht ?_
 refine C_seq (C_region ?_)
 refine W_assign rfl rfl rfl ?_
 refine W_assign rfl rfl rfl ?_
 refine W_end (E_then (C_seq (C_region ?_)))
 refine W_move rfl rfl rfl ?_
 refine W_move rfl rfl rfl ?_
 obtain ⟨r101, hc102, hm⟩ := bind_some hm
 refine W_call call57 rfl rfl rfl (fun w ht => by have h := m_nat_two_c (hm := hc102)  ht; exact h) ?_
 rintro _ H107 _ ⟨hle108, v103, v105, rfl, rfl, h104, h106⟩
 refine W_move rfl rfl rfl ?_
 refine W_extract rfl rfl rfl rfl ?_
 refine W_extract rfl rfl rfl rfl ?_
 refine W_extract rfl rfl rfl rfl ?_
 refine W_alloc (cs := [.bool (false), .slice none 0 0]) rfl rfl zeroValue47 rfl (fun b109 => ?_)
 refine W_alloc (cs := [.bool (false), .slice none 0 0]) rfl rfl zeroValue47 rfl (fun b110 => ?_)
 refine W_perm (List.Perm.swap _ _ _) ?_
 refine W_store (cs := [.bool (r101.1.minus), v103]) (out := [.bool (r101.1.minus), v103]) rfl sizeOf47 rfl rfl rfl rfl rfl (all_cons rfl (all_cons (RdS.one1 h104) all_nil)) (over_all rfl) ?_
 refine W_perm (List.Perm.swap _ _ _) ?_
 refine W_store (cs := [.bool (r101.2.1.minus), v105]) (out := [.bool (r101.2.1.minus), v105]) rfl sizeOf47 rfl rfl rfl rfl rfl (all_cons rfl (all_cons (RdS.one1 h106) all_nil)) (over_all rfl) ?_
 refine W_assign rfl rfl rfl ?_
 refine W_end (E_then (C_seq (C_seq (C_region ?_))))
 refine W_move rfl rfl rfl ?_
 refine W_bin rfl rfl rfl rfl rfl ?_
 refine W_end (E_then ?_)
 refine C_cond (b := !decide (r101.2.2 = 0)) rfl (fun hb111 => ?_) (fun hb111 => ?_)
 ·have hm := ite_t' hb111 hm
  refine C_seq (C_region ?_)
  refine W_move rfl rfl rfl ?_
  refine W_assign rfl rfl rfl ?_
  refine W_assign rfl rfl rfl ?_
  refine W_end (E_then (C_ret (E_ret_then ?_)))
  obtain rfl := Option.some.inj hm
  refine E_drop (List.Sublist.cons _ (List.Sublist.cons _ (List.Sublist.refl _))) ?_
  refine E_weak hle108 ?_
  exact end2 rfl rfl rfl ⟨rfl, rfl, rfl⟩
 ·have hm := ite_f' hb111 hm
  refine C_skip (E_then (C_seq (C_region ?_)))
  refine W_loadAgg rfl rfl isAgg47 sizeOf47 rfl (own_all (List.mem_cons_of_mem _ (List.mem_cons_self ..))) rfl ?_
  refine W_loadAgg rfl rfl isAgg47 sizeOf47 rfl (own_all (List.mem_cons_self ..)) rfl ?_
  obtain ⟨r112, hc113, hm⟩ := bind_some hm
  refine W_call call52 rfl rfl rfl (fun w ht => by have h := m_large_Gcd_c (hm := hc113) h104 h106 ht; exact h) ?_
  rintro _ H116 _ ⟨hle117, v114, rfl, rfl, h115⟩
  obtain ⟨r118, hc119, hm⟩ := bind_some hm
  refine W_call call58 rfl rfl rfl (fun w ht => by have h := m_nat_text_c (hm := hc119) h115 ht; exact h) ?_
  rintro _ _ _ ⟨rfl, rfl, rfl⟩
  refine W_extract rfl rfl rfl rfl ?_
  refine W_extract rfl rfl rfl rfl ?_
  refine W_assign rfl rfl rfl ?_
  refine W_assign rfl rfl rfl ?_
  refine W_end (E_then (C_ret ?_))
  obtain rfl := Option.some.inj hm
  refine E_drop (List.Sublist.cons _ (List.Sublist.cons _ (List.Sublist.refl _))) ?_
  refine E_weak (Hp.le_trans hle108 hle117) ?_
  exact end2 rfl rfl rfl ⟨rfl, rfl, rfl⟩

theorem m_rat_Check_c {B : Nat} {w0 w : World} [Tabs B w0] {H : Hp} {M : List Res} {p0_r : ByteArray} {r : Int} (hm : m_rat_Check p0_r = some r) (ht : St B w0 H (M) w) :
  Calls prog 26 [.string (p0_r)].toArray w (Ret B w0 fun H' M' v => H = H' ∧ M = M' ∧ .int .i64 (r) = v) := by
 unfold m_rat_Check at hm
 refine enter func26 rfl rfl rfl ht ?_
 refine C_seq (C_region ?_)
 refine W_assign rfl rfl rfl ?_
 refine W_end (E_then (C_seq (C_region ?_)))
 refine W_move rfl rfl rfl ?_
 obtain ⟨r101, hc102, hm⟩ := bind_some hm
 refine W_call call41 rfl rfl rfl (fun w ht => by have h := m_strings_TrimPrefix_c (hm := hc102)  ht; exact h) ?_
 rintro _ _ _ ⟨rfl, rfl, rfl⟩
 refine W_assign rfl rfl rfl ?_
 refine W_end (E_then (C_seq (C_region ?_)))
 refine W_move rfl rfl rfl ?_
 obtain ⟨r103, hc104, hm⟩ := bind_some hm
 refine W_call call42 rfl rfl rfl (fun w ht => by have h := m_strings_Cut_c (hm := hc104)  ht; exact h) ?_
 rintro _ _ _ ⟨rfl, rfl, rfl⟩
 refine W_move rfl rfl rfl ?_
 refine W_extract rfl rfl rfl rfl ?_
 refine W_extract rfl rfl rfl rfl ?_
 refine W_extract rfl rfl rfl rfl ?_
 refine W_assign rfl rfl rfl ?_
 refine W_assign rfl rfl rfl ?_
 refine W_assign rfl rfl rfl ?_
 refine W_end (E_then (C_seq (C_region ?_)))
 refine W_move rfl rfl rfl ?_
 obtain ⟨r105, hc106, hm⟩ := bind_some hm
 refine W_call call43 rfl rfl rfl (fun w ht => by have h := m_nat_Check_c (hm := hc106)  ht; exact h) ?_
 rintro _ _ _ ⟨rfl, rfl, rfl⟩
 refine W_assign rfl rfl rfl ?_
 refine W_assign rfl rfl rfl ?_
 refine W_end (E_then ?_)
 refine C_seq_join (fun H' M' L' => ∃ n110 : Int, m_rat_Check_b2 p0_r r101 r103 r105 n110 = some r ∧ H = H' ∧ M = M' ∧ [(0, .string (p0_r)), (3, .string (r101)), (4, .string (r103.1)), (5, .string (r103.2.1)), (6, .bool (r103.2.2)), (7, .int .i64 (r105)), (8, .int .i64 (n110))] = L') ?_ (fun J111 => ?_)
 ·rintro _ _ _ ⟨n110, hm, rfl, rfl, rfl⟩
  unfold m_rat_Check_b2 at hm
  refine C_seq (C_block ?_)
  refine C_seq_join (fun H' M' L' => H = H' ∧ M = M' ∧ [(4, .string (r103.1)), (5, .string (r103.2.1)), (6, .bool (r103.2.2)), (7, .int .i64 (r105)), (8, .int .i64 (n110)), (24, .bool (((decide (r105 = 5)) || (decide (n110 = 5))) || ((decide (r103.1 = (⟨#[48]⟩))) && (decide ((r101.size : Int) < (p0_r.size : Int))))))] = L') ?_ (fun J115 => ?_)
  ·rintro _ _ _ ⟨rfl, rfl, rfl⟩
   refine C_cond (b := ((decide (r105 = 5)) || (decide (n110 = 5))) || ((decide (r103.1 = (⟨#[48]⟩))) && (decide ((r101.size : Int) < (p0_r.size : Int))))) rfl (fun hb116 => ?_) (fun hb116 => ?_)
   ·have hm := ite_t' hb116 hm
    refine C_seq (C_region ?_)
    refine W_assign rfl rfl rfl ?_
    refine W_end (E_then (C_ret (E_ret_block (E_ret_then ?_))))
    obtain rfl := Option.some.inj hm
    refine E_weak (Hp.le_refl _) ?_
    exact end1 rfl rfl ⟨rfl, rfl, rfl⟩
   ·have hm := ite_f' hb116 hm
    refine C_seq_join (fun H' M' L' => H = H' ∧ M = M' ∧ [(4, .string (r103.1)), (5, .string (r103.2.1)), (6, .bool (r103.2.2)), (42, .bool ((!decide (r105 = 0)) || (!decide (n110 = 0))))] = L') ?_ (fun J118 => ?_)
    ·rintro _ _ _ ⟨rfl, rfl, rfl⟩
     refine C_cond (b := (!decide (r105 = 0)) || (!decide (n110 = 0))) rfl (fun hb119 => ?_) (fun hb119 => ?_)
     ·have hm := ite_t' hb119 hm
      refine C_seq (C_region ?_)
      refine W_assign rfl rfl rfl ?_
      refine W_end (E_then (C_ret (E_ret_block (E_ret_then ?_))))
      obtain rfl := Option.some.inj hm
      refine E_weak (Hp.le_refl _) ?_
      exact end1 rfl rfl ⟨rfl, rfl, rfl⟩
     ·have hm := ite_f' hb119 hm
      refine C_skip (E_normal_block (E_then ?_))
      refine C_seq_join (fun H' M' L' => m_rat_Check_b1 = some r ∧ H = H' ∧ M = M' ∧ [] = L') ?_ (fun J129 => ?_)
      ·rintro _ _ _ ⟨hm, rfl, rfl, rfl⟩
       unfold m_rat_Check_b1 at hm
       refine C_seq (C_region ?_)
       refine W_assign rfl rfl rfl ?_
       refine W_end (E_then (C_ret ?_))
       obtain rfl := Option.some.inj hm
       refine E_weak (Hp.le_refl _) ?_
       exact end1 rfl rfl ⟨rfl, rfl, rfl⟩
      ·refine C_seq (C_region ?_)
       refine W_move rfl rfl rfl ?_
       refine W_end (E_then ?_)
       refine C_cond (b := r103.2.2) rfl (fun hb130 => ?_) (fun hb130 => ?_)
       ·have hm := ite_t' hb130 hm
        refine C_seq (C_region ?_)
        refine W_move rfl rfl rfl ?_
        refine W_move rfl rfl rfl ?_
        obtain ⟨r131, hc132, hm⟩ := bind_some hm
        refine W_call call44 rfl rfl rfl (fun w ht => by have h := m_nat_Gcd_c (hm := hc132)  ht; exact h) ?_
        rintro _ _ _ ⟨rfl, rfl, rfl⟩
        refine W_move rfl rfl rfl ?_
        refine W_extract rfl rfl rfl rfl ?_
        refine W_extract rfl rfl rfl rfl ?_
        refine W_assign rfl rfl rfl ?_
        refine W_assign rfl rfl rfl ?_
        refine W_end (E_then ?_)
        refine C_seq_join (fun H' M' L' => H = H' ∧ M = M' ∧ [(65, .bool (((decide (r103.2.1 = (⟨#[48]⟩))) || (decide (r103.2.1 = (⟨#[49]⟩)))) || (!decide (r131.1 = (⟨#[49]⟩)))))] = L') ?_ (fun J135 => ?_)
        ·rintro _ _ _ ⟨rfl, rfl, rfl⟩
         refine C_cond (b := ((decide (r103.2.1 = (⟨#[48]⟩))) || (decide (r103.2.1 = (⟨#[49]⟩)))) || (!decide (r131.1 = (⟨#[49]⟩)))) rfl (fun hb136 => ?_) (fun hb136 => ?_)
         ·have hm := ite_t' hb136 hm
          refine C_seq (C_region ?_)
          refine W_assign rfl rfl rfl ?_
          refine W_end (E_then (C_ret (E_ret_then ?_)))
          obtain rfl := Option.some.inj hm
          refine E_weak (Hp.le_refl _) ?_
          exact end1 rfl rfl ⟨rfl, rfl, rfl⟩
         ·have hm := ite_f' hb136 hm
          refine C_skip ?_
          exact E_keepJ (J129 _ _ _ ⟨hm, rfl, rfl, rfl⟩) (List.Perm.refl _) trivial
        ·refine C_region ?_
         refine W_move rfl rfl rfl ?_
         refine W_bin rfl rfl rfl rfl rfl ?_
         refine W_move rfl rfl rfl ?_
         cases hb137 : (decide (r103.2.1 = (⟨#[48]⟩)))
         ·refine W_move rfl rfl rfl ?_
          refine W_bin rfl rfl rfl rfl rfl ?_
          refine W_pick rfl rfl rfl rfl ?_
          refine W_move rfl rfl rfl ?_
          cases hb138 : (decide (r103.2.1 = (⟨#[49]⟩)))
          ·refine W_move rfl rfl rfl ?_
           refine W_bin rfl rfl rfl rfl rfl ?_
           refine W_pick rfl rfl rfl rfl ?_
           refine W_end ?_
           exact E_keepJ (J135 _ _ _ ⟨rfl, rfl, rfl⟩) (List.Perm.refl _) ⟨(by show some (Value.bool (!decide (r131.1 = (⟨#[49]⟩)))) = some (Value.bool (((decide (r103.2.1 = (⟨#[48]⟩))) || (decide (r103.2.1 = (⟨#[49]⟩)))) || (!decide (r131.1 = (⟨#[49]⟩))))); first | (simp only [hb116, hb119, hb130, hb137, hb138, Bool.and_true, Bool.true_and, Bool.false_and, Bool.and_false, Bool.or_true, Bool.true_or, Bool.or_false, Bool.false_or, Bool.not_true, Bool.not_false]; done) | (simp only [hb116, hb119, hb130, hb137, hb138]; first | done | simp only [Bool.and_true, Bool.true_and, Bool.false_and, Bool.and_false, Bool.or_true, Bool.true_or, Bool.or_false, Bool.false_or, Bool.not_true, Bool.not_false])), trivial⟩
          ·refine W_no rfl rfl rfl ?_
           refine W_no rfl rfl rfl ?_
           refine W_pick rfl rfl rfl rfl ?_
           refine W_end ?_
           exact E_keepJ (J135 _ _ _ ⟨rfl, rfl, rfl⟩) (List.Perm.refl _) ⟨(by show some (Value.bool (true)) = some (Value.bool (((decide (r103.2.1 = (⟨#[48]⟩))) || (decide (r103.2.1 = (⟨#[49]⟩)))) || (!decide (r131.1 = (⟨#[49]⟩))))); first | (simp only [hb116, hb119, hb130, hb137, hb138, Bool.and_true, Bool.true_and, Bool.false_and, Bool.and_false, Bool.or_true, Bool.true_or, Bool.or_false, Bool.false_or, Bool.not_true, Bool.not_false]; done) | (simp only [hb116, hb119, hb130, hb137, hb138]; first | done | simp only [Bool.and_true, Bool.true_and, Bool.false_and, Bool.and_false, Bool.or_true, Bool.true_or, Bool.or_false, Bool.false_or, Bool.not_true, Bool.not_false])), trivial⟩
         ·refine W_no rfl rfl rfl ?_
          refine W_no rfl rfl rfl ?_
          refine W_pick rfl rfl rfl rfl ?_
          refine W_move rfl rfl rfl ?_
          refine W_no rfl rfl rfl ?_
          refine W_no rfl rfl rfl ?_
          refine W_pick rfl rfl rfl rfl ?_
          refine W_end ?_
          exact E_keepJ (J135 _ _ _ ⟨rfl, rfl, rfl⟩) (List.Perm.refl _) ⟨(by show some (Value.bool (true)) = some (Value.bool (((decide (r103.2.1 = (⟨#[48]⟩))) || (decide (r103.2.1 = (⟨#[49]⟩)))) || (!decide (r131.1 = (⟨#[49]⟩))))); first | (simp only [hb116, hb119, hb130, hb137, Bool.and_true, Bool.true_and, Bool.false_and, Bool.and_false, Bool.or_true, Bool.true_or, Bool.or_false, Bool.false_or, Bool.not_true, Bool.not_false]; done) | (simp only [hb116, hb119, hb130, hb137]; first | done | simp only [Bool.and_true, Bool.true_and, Bool.false_and, Bool.and_false, Bool.or_true, Bool.true_or, Bool.or_false, Bool.false_or, Bool.not_true, Bool.not_false])), trivial⟩
       ·have hm := ite_f' hb130 hm
        refine C_skip ?_
        exact E_keepJ (J129 _ _ _ ⟨hm, rfl, rfl, rfl⟩) (List.Perm.refl _) trivial
    ·refine C_region ?_
     refine W_move rfl rfl rfl ?_
     refine W_bin rfl rfl rfl rfl rfl ?_
     refine W_move rfl rfl rfl ?_
     cases hb139 : (decide (r105 = 0))
     ·refine W_no rfl rfl rfl ?_
      refine W_no rfl rfl rfl ?_
      refine W_pick rfl rfl rfl rfl ?_
      refine W_assign rfl rfl rfl ?_
      refine W_end ?_
      exact E_keepJ (J118 _ _ _ ⟨rfl, rfl, rfl⟩) (List.Perm.refl _) ⟨rfl, rfl, rfl, (by show some (Value.bool (true)) = some (Value.bool ((!decide (r105 = 0)) || (!decide (n110 = 0)))); first | (simp only [hb116, hb139, Bool.and_true, Bool.true_and, Bool.false_and, Bool.and_false, Bool.or_true, Bool.true_or, Bool.or_false, Bool.false_or, Bool.not_true, Bool.not_false]; done) | (simp only [hb116, hb139]; first | done | simp only [Bool.and_true, Bool.true_and, Bool.false_and, Bool.and_false, Bool.or_true, Bool.true_or, Bool.or_false, Bool.false_or, Bool.not_true, Bool.not_false])), trivial⟩
     ·refine W_move rfl rfl rfl ?_
      refine W_bin rfl rfl rfl rfl rfl ?_
      refine W_pick rfl rfl rfl rfl ?_
      refine W_assign rfl rfl rfl ?_
      refine W_end ?_
      exact E_keepJ (J118 _ _ _ ⟨rfl, rfl, rfl⟩) (List.Perm.refl _) ⟨rfl, rfl, rfl, (by show some (Value.bool (!decide (n110 = 0))) = some (Value.bool ((!decide (r105 = 0)) || (!decide (n110 = 0)))); first | (simp only [hb116, hb139, Bool.and_true, Bool.true_and, Bool.false_and, Bool.and_false, Bool.or_true, Bool.true_or, Bool.or_false, Bool.false_or, Bool.not_true, Bool.not_false]; done) | (simp only [hb116, hb139]; first | done | simp only [Bool.and_true, Bool.true_and, Bool.false_and, Bool.and_false, Bool.or_true, Bool.true_or, Bool.or_false, Bool.false_or, Bool.not_true, Bool.not_false])), trivial⟩
  ·refine C_region ?_
   refine W_move rfl rfl rfl ?_
   refine W_bin rfl rfl rfl rfl rfl ?_
   refine W_move rfl rfl rfl ?_
   cases hb140 : (decide (r105 = 5))
   ·refine W_move rfl rfl rfl ?_
    refine W_bin rfl rfl rfl rfl rfl ?_
    refine W_pick rfl rfl rfl rfl ?_
    refine W_move rfl rfl rfl ?_
    cases hb141 : (decide (n110 = 5))
    ·refine W_move rfl rfl rfl ?_
     refine W_bin rfl rfl rfl rfl rfl ?_
     refine W_move rfl rfl rfl ?_
     cases hb142 : (decide (r103.1 = (⟨#[48]⟩)))
     ·refine W_no rfl rfl rfl ?_
      refine W_no rfl rfl rfl ?_
      refine W_no rfl rfl rfl ?_
      refine W_no rfl rfl rfl ?_
      refine W_no rfl rfl rfl ?_
      refine W_pick rfl rfl rfl rfl ?_
      refine W_pick rfl rfl rfl rfl ?_
      refine W_assign rfl rfl rfl ?_
      refine W_end ?_
      exact E_keepJ (J115 _ _ _ ⟨rfl, rfl, rfl⟩) (List.Perm.refl _) ⟨rfl, rfl, rfl, rfl, rfl, (by show some (Value.bool (false)) = some (Value.bool (((decide (r105 = 5)) || (decide (n110 = 5))) || ((decide (r103.1 = (⟨#[48]⟩))) && (decide ((r101.size : Int) < (p0_r.size : Int)))))); first | (simp only [hb140, hb141, hb142, Bool.and_true, Bool.true_and, Bool.false_and, Bool.and_false, Bool.or_true, Bool.true_or, Bool.or_false, Bool.false_or, Bool.not_true, Bool.not_false]; done) | (simp only [hb140, hb141, hb142]; first | done | simp only [Bool.and_true, Bool.true_and, Bool.false_and, Bool.and_false, Bool.or_true, Bool.true_or, Bool.or_false, Bool.false_or, Bool.not_true, Bool.not_false])), trivial⟩
     ·refine W_move rfl rfl rfl ?_
      refine W_lenStr rfl rfl runUnderlying9 rfl ?_
      refine W_move rfl rfl rfl ?_
      refine W_lenStr rfl rfl runUnderlying22 rfl ?_
      refine W_bin rfl rfl rfl rfl rfl ?_
      refine W_pick rfl rfl rfl rfl ?_
      refine W_pick rfl rfl rfl rfl ?_
      refine W_assign rfl rfl rfl ?_
      refine W_end ?_
      exact E_keepJ (J115 _ _ _ ⟨rfl, rfl, rfl⟩) (List.Perm.refl _) ⟨rfl, rfl, rfl, rfl, rfl, (by show some (Value.bool (decide ((r101.size : Int) < (p0_r.size : Int)))) = some (Value.bool (((decide (r105 = 5)) || (decide (n110 = 5))) || ((decide (r103.1 = (⟨#[48]⟩))) && (decide ((r101.size : Int) < (p0_r.size : Int)))))); first | (simp only [hb140, hb141, hb142, Bool.and_true, Bool.true_and, Bool.false_and, Bool.and_false, Bool.or_true, Bool.true_or, Bool.or_false, Bool.false_or, Bool.not_true, Bool.not_false]; done) | (simp only [hb140, hb141, hb142]; first | done | simp only [Bool.and_true, Bool.true_and, Bool.false_and, Bool.and_false, Bool.or_true, Bool.true_or, Bool.or_false, Bool.false_or, Bool.not_true, Bool.not_false])), trivial⟩
    ·refine W_no rfl rfl rfl ?_
     refine W_no rfl rfl rfl ?_
     refine W_no rfl rfl rfl ?_
     refine W_no rfl rfl rfl ?_
     refine W_no rfl rfl rfl ?_
     refine W_no rfl rfl rfl ?_
     refine W_no rfl rfl rfl ?_
     refine W_no rfl rfl rfl ?_
     refine W_no rfl rfl rfl ?_
     refine W_pick rfl rfl rfl rfl ?_
     refine W_assign rfl rfl rfl ?_
     refine W_end ?_
     exact E_keepJ (J115 _ _ _ ⟨rfl, rfl, rfl⟩) (List.Perm.refl _) ⟨rfl, rfl, rfl, rfl, rfl, (by show some (Value.bool (true)) = some (Value.bool (((decide (r105 = 5)) || (decide (n110 = 5))) || ((decide (r103.1 = (⟨#[48]⟩))) && (decide ((r101.size : Int) < (p0_r.size : Int)))))); first | (simp only [hb140, hb141, Bool.and_true, Bool.true_and, Bool.false_and, Bool.and_false, Bool.or_true, Bool.true_or, Bool.or_false, Bool.false_or, Bool.not_true, Bool.not_false]; done) | (simp only [hb140, hb141]; first | done | simp only [Bool.and_true, Bool.true_and, Bool.false_and, Bool.and_false, Bool.or_true, Bool.true_or, Bool.or_false, Bool.false_or, Bool.not_true, Bool.not_false])), trivial⟩
   ·refine W_no rfl rfl rfl ?_
    refine W_no rfl rfl rfl ?_
    refine W_pick rfl rfl rfl rfl ?_
    refine W_move rfl rfl rfl ?_
    refine W_no rfl rfl rfl ?_
    refine W_no rfl rfl rfl ?_
    refine W_no rfl rfl rfl ?_
    refine W_no rfl rfl rfl ?_
    refine W_no rfl rfl rfl ?_
    refine W_no rfl rfl rfl ?_
    refine W_no rfl rfl rfl ?_
    refine W_no rfl rfl rfl ?_
    refine W_no rfl rfl rfl ?_
    refine W_pick rfl rfl rfl rfl ?_
    refine W_assign rfl rfl rfl ?_
    refine W_end ?_
    exact E_keepJ (J115 _ _ _ ⟨rfl, rfl, rfl⟩) (List.Perm.refl _) ⟨rfl, rfl, rfl, rfl, rfl, (by show some (Value.bool (true)) = some (Value.bool (((decide (r105 = 5)) || (decide (n110 = 5))) || ((decide (r103.1 = (⟨#[48]⟩))) && (decide ((r101.size : Int) < (p0_r.size : Int)))))); first | (simp only [hb140, Bool.and_true, Bool.true_and, Bool.false_and, Bool.and_false, Bool.or_true, Bool.true_or, Bool.or_false, Bool.false_or, Bool.not_true, Bool.not_false]; done) | (simp only [hb140]; first | done | simp only [Bool.and_true, Bool.true_and, Bool.false_and, Bool.and_false, Bool.or_true, Bool.true_or, Bool.or_false, Bool.false_or, Bool.not_true, Bool.not_false])), trivial⟩
 ·refine C_seq (C_region ?_)
  refine W_move rfl rfl rfl ?_
  refine W_end (E_then ?_)
  refine C_cond (b := r103.2.2) rfl (fun hb143 => ?_) (fun hb143 => ?_)
  ·have hm := ite_t' hb143 hm
   refine C_region ?_
   refine W_move rfl rfl rfl ?_
   obtain ⟨r144, hc145, hm⟩ := bind_some hm
   refine W_call call43 rfl rfl rfl (fun w ht => by have h := m_nat_Check_c (hm := hc145)  ht; exact h) ?_
   rintro _ _ _ ⟨rfl, rfl, rfl⟩
   refine W_assign rfl rfl rfl ?_
   refine W_end ?_
   exact E_keepJ (J111 _ _ _ ⟨r144, hm, rfl, rfl, rfl⟩) (List.Perm.refl _) ⟨rfl, rfl, rfl, rfl, rfl, rfl, rfl, trivial⟩
  ·have hm := ite_f' hb143 hm
   refine C_skip ?_
   exact E_keepJ (J111 _ _ _ ⟨0, hm, rfl, rfl, rfl⟩) (List.Perm.refl _) ⟨rfl, rfl, rfl, rfl, rfl, rfl, rfl, trivial⟩

theorem m_swing_Check_c {B : Nat} {w0 w : World} [Tabs B w0] {H : Hp} {M : List Res} {p0_x : S_api_SwingIsland} {r : Int} (hm : m_swing_Check p0_x = some r) (ht : St B w0 H (M) w) :
  Calls prog 10 [.agg [.int .i64 (p0_x.Inertia), .int .i64 (p0_x.Damping), .int .i64 (p0_x.Supply), .int .i64 (p0_x.Demand), .string (p0_x.Frequency)].toArray].toArray w (Ret B w0 fun H' M' v => H = H' ∧ M = M' ∧ .int .i64 (r) = v) := by
 unfold m_swing_Check at hm
 refine enter func10 rfl rfl rfl ht ?_
 refine C_seq (C_region ?_)
 refine W_box (cs := [.int .i64 (p0_x.Inertia), .int .i64 (p0_x.Damping), .int .i64 (p0_x.Supply), .int .i64 (p0_x.Demand), .string (p0_x.Frequency)]) rfl rfl rfl rfl (fun b101 => ?_)
 refine W_assign rfl rfl rfl ?_
 refine W_end (E_then (C_seq (C_region ?_)))
 refine W_assign rfl rfl rfl ?_
 refine W_end (E_then (C_seq (C_seq (C_region ?_))))
 refine W_move rfl rfl rfl ?_
 refine W_field (o := 0) rfl rfl runUnderlying24 rfl sizeOf3 rfl rfl rfl ?_
 refine W_load rfl rfl isAgg3 rfl (own_at (List.mem_cons_self ..) rfl) ?_
 refine W_callv (fs := []) (cs := []) call25 rfl rfl rfl rfl (fun w ht => by have h := m_swing_Check_1_c (hm := (rfl : m_swing_Check_1 p0_x.Inertia 1 1000 = _))  ht; exact h) ?_
 rintro _ _ _ ⟨rfl, rfl, rfl⟩
 refine W_move rfl rfl rfl ?_
 cases hb102 : ((m_swing_Check_1 p0_x.Inertia 1 1000))
 ·have hm := ite_f' hb102 hm
  refine W_move rfl rfl rfl ?_
  refine W_field (o := 1) rfl rfl runUnderlying24 rfl sizeOf3 rfl rfl rfl ?_
  refine W_load rfl rfl isAgg3 rfl (own_at (List.mem_cons_self ..) rfl) ?_
  refine W_field (o := 0) rfl rfl runUnderlying24 rfl sizeOf3 rfl rfl rfl ?_
  refine W_load rfl rfl isAgg3 rfl (own_at (List.mem_cons_self ..) rfl) ?_
  refine W_callv (fs := []) (cs := []) call25 rfl rfl rfl rfl (fun w ht => by have h := m_swing_Check_1_c (hm := (rfl : m_swing_Check_1 p0_x.Damping 0 p0_x.Inertia = _))  ht; exact h) ?_
  rintro _ _ _ ⟨rfl, rfl, rfl⟩
  refine W_pick rfl rfl rfl rfl ?_
  refine W_move rfl rfl rfl ?_
  cases hb103 : ((m_swing_Check_1 p0_x.Damping 0 p0_x.Inertia))
  ·have hm := ite_f' hb103 hm
   refine W_move rfl rfl rfl ?_
   refine W_field (o := 2) rfl rfl runUnderlying24 rfl sizeOf3 rfl rfl rfl ?_
   refine W_load rfl rfl isAgg3 rfl (own_at (List.mem_cons_self ..) rfl) ?_
   refine W_callv (fs := []) (cs := []) call25 rfl rfl rfl rfl (fun w ht => by have h := m_swing_Check_1_c (hm := (rfl : m_swing_Check_1 p0_x.Supply 0 100000 = _))  ht; exact h) ?_
   rintro _ _ _ ⟨rfl, rfl, rfl⟩
   refine W_pick rfl rfl rfl rfl ?_
   refine W_move rfl rfl rfl ?_
   cases hb104 : ((m_swing_Check_1 p0_x.Supply 0 100000))
   ·have hm := ite_f' hb104 hm
    refine W_move rfl rfl rfl ?_
    refine W_field (o := 3) rfl rfl runUnderlying24 rfl sizeOf3 rfl rfl rfl ?_
    refine W_load rfl rfl isAgg3 rfl (own_at (List.mem_cons_self ..) rfl) ?_
    refine W_callv (fs := []) (cs := []) call25 rfl rfl rfl rfl (fun w ht => by have h := m_swing_Check_1_c (hm := (rfl : m_swing_Check_1 p0_x.Demand 0 100000 = _))  ht; exact h) ?_
    rintro _ _ _ ⟨rfl, rfl, rfl⟩
    refine W_pick rfl rfl rfl rfl ?_
    refine W_end (E_then ?_)
    refine C_cond (b := (m_swing_Check_1 p0_x.Demand 0 100000)) rfl (fun hb105 => ?_) (fun hb105 => ?_)
    ·have hm := ite_t' hb105 hm
     refine C_seq (C_region ?_)
     refine W_assign rfl rfl rfl ?_
     refine W_end (E_then (C_ret (E_ret_then ?_)))
     obtain rfl := Option.some.inj hm
     refine E_drop (List.Sublist.cons _ (List.Sublist.refl _)) ?_
     refine E_weak (Hp.le_refl _) ?_
     exact end1 rfl rfl ⟨rfl, rfl, rfl⟩
    ·have hm := ite_f' hb105 hm
     refine C_skip (E_then (C_seq (C_region ?_)))
     refine W_field (o := 4) rfl rfl runUnderlying24 rfl sizeOf22 rfl rfl rfl ?_
     refine W_load rfl rfl isAgg22 rfl (own_at (List.mem_cons_self ..) rfl) ?_
     obtain ⟨r106, hc107, hm⟩ := bind_some hm
     refine W_call call26 rfl rfl rfl (fun w ht => by have h := m_rat_Check_c (hm := hc107)  ht; exact h) ?_
     rintro _ _ _ ⟨rfl, rfl, rfl⟩
     refine W_assign rfl rfl rfl ?_
     refine W_end (E_then (C_ret ?_))
     obtain rfl := Option.some.inj hm
     refine E_drop (List.Sublist.cons _ (List.Sublist.refl _)) ?_
     refine E_weak (Hp.le_refl _) ?_
     exact end1 rfl rfl ⟨rfl, rfl, rfl⟩
   ·have hm := ite_t' hb104 hm
    refine W_no rfl rfl rfl ?_
    refine W_no rfl rfl rfl ?_
    refine W_no rfl rfl rfl ?_
    refine W_no rfl rfl rfl ?_
    refine W_pick rfl rfl rfl rfl ?_
    refine W_end (E_then ?_)
    refine C_cond (b := true) rfl (fun _ => ?_) (fun hb => Bool.noConfusion hb)
    refine C_seq (C_region ?_)
    refine W_assign rfl rfl rfl ?_
    refine W_end (E_then (C_ret (E_ret_then ?_)))
    obtain rfl := Option.some.inj hm
    refine E_drop (List.Sublist.cons _ (List.Sublist.refl _)) ?_
    refine E_weak (Hp.le_refl _) ?_
    exact end1 rfl rfl ⟨rfl, rfl, rfl⟩
  ·have hm := ite_t' hb103 hm
   refine W_no rfl rfl rfl ?_
   refine W_no rfl rfl rfl ?_
   refine W_no rfl rfl rfl ?_
   refine W_no rfl rfl rfl ?_
   refine W_pick rfl rfl rfl rfl ?_
   refine W_move rfl rfl rfl ?_
   refine W_no rfl rfl rfl ?_
   refine W_no rfl rfl rfl ?_
   refine W_no rfl rfl rfl ?_
   refine W_no rfl rfl rfl ?_
   refine W_pick rfl rfl rfl rfl ?_
   refine W_end (E_then ?_)
   refine C_cond (b := true) rfl (fun _ => ?_) (fun hb => Bool.noConfusion hb)
   refine C_seq (C_region ?_)
   refine W_assign rfl rfl rfl ?_
   refine W_end (E_then (C_ret (E_ret_then ?_)))
   obtain rfl := Option.some.inj hm
   refine E_drop (List.Sublist.cons _ (List.Sublist.refl _)) ?_
   refine E_weak (Hp.le_refl _) ?_
   exact end1 rfl rfl ⟨rfl, rfl, rfl⟩
 ·have hm := ite_t' hb102 hm
  refine W_no rfl rfl rfl ?_
  refine W_no rfl rfl rfl ?_
  refine W_no rfl rfl rfl ?_
  refine W_no rfl rfl rfl ?_
  refine W_no rfl rfl rfl ?_
  refine W_no rfl rfl rfl ?_
  refine W_pick rfl rfl rfl rfl ?_
  refine W_move rfl rfl rfl ?_
  refine W_no rfl rfl rfl ?_
  refine W_no rfl rfl rfl ?_
  refine W_no rfl rfl rfl ?_
  refine W_no rfl rfl rfl ?_
  refine W_pick rfl rfl rfl rfl ?_
  refine W_move rfl rfl rfl ?_
  refine W_no rfl rfl rfl ?_
  refine W_no rfl rfl rfl ?_
  refine W_no rfl rfl rfl ?_
  refine W_no rfl rfl rfl ?_
  refine W_pick rfl rfl rfl rfl ?_
  refine W_end (E_then ?_)
  refine C_cond (b := true) rfl (fun _ => ?_) (fun hb => Bool.noConfusion hb)
  refine C_seq (C_region ?_)
  refine W_assign rfl rfl rfl ?_
  refine W_end (E_then (C_ret (E_ret_then ?_)))
  obtain rfl := Option.some.inj hm
  refine E_drop (List.Sublist.cons _ (List.Sublist.refl _)) ?_
  refine E_weak (Hp.le_refl _) ?_
  exact end1 rfl rfl ⟨rfl, rfl, rfl⟩

theorem m_large_Int_Neg_c {B : Nat} {w0 w : World} [Tabs B w0] {H : Hp} {M : List Res} {p0_a : S_large_Int} {v0 : Value} {r : S_large_Int} (hm : m_large_Int_Neg p0_a = some r) (h0 : RdS H v0 p0_a.words) (ht : St B w0 H (M) w) :
  Calls prog 51 [.agg [.bool (p0_a.minus), v0].toArray].toArray w (Ret B w0 fun H' M' v => H.le H' ∧ ∃ qv0 : Value, M = M' ∧ .agg [.bool (r.minus), qv0].toArray = v ∧ RdS H' qv0 r.words) := by
 unfold m_large_Int_Neg at hm
 refine enter func51 rfl rfl rfl ht ?_
 refine C_seq (C_region ?_)
 refine W_box (cs := [.bool (p0_a.minus), v0]) rfl rfl rfl rfl (fun b101 => ?_)
 refine W_alloc (cs := [.bool (false), .slice none 0 0]) rfl rfl zeroValue47 rfl (fun b102 => ?_)
 refine W_end (E_then (C_seq (C_region ?_)))
 refine W_field (o := 0) rfl rfl runUnderlying47 rfl sizeOf4 rfl rfl rfl ?_
 refine W_load rfl rfl isAgg4 rfl (own_at (List.mem_cons_of_mem _ (List.mem_cons_self ..)) rfl) ?_
 refine W_un rfl rfl rfl rfl ?_
 refine W_field (o := 1) rfl rfl runUnderlying47 rfl sizeOf45 rfl rfl rfl ?_
 refine W_load rfl rfl isAgg45 rfl (own_at (List.mem_cons_of_mem _ (List.mem_cons_self ..)) rfl) ?_
 obtain ⟨r103, hc104, hm⟩ := bind_some hm
 refine W_call call54 rfl rfl rfl (fun w ht => by have h := m_large_norm_c (hm := hc104) h0 ht; exact h) ?_
 rintro _ H107 _ ⟨hle108, v105, rfl, rfl, h106⟩
 refine W_store (cs := [.bool (r103.minus), v105]) (out := [.bool (r103.minus), v105]) rfl sizeOf47 rfl rfl rfl rfl rfl (all_cons rfl (all_cons (RdS.one1 h106) all_nil)) (over_all rfl) ?_
 refine W_end (E_then (C_ret ?_))
 obtain rfl := Option.some.inj hm
 exact endC1 (Hp.le_refl _) rfl (ResV.agg rfl isAgg47 sizeOf47 (List.mem_cons_self ..) rfl) (List.Sublist.cons _ (List.Sublist.cons _ (List.Sublist.refl _))) (List.Perm.refl _) ⟨hle108, v105, rfl, rfl, h106⟩

theorem m_large_Int_Sub_c {B : Nat} {w0 w : World} [Tabs B w0] {H : Hp} {M : List Res} {p0_a : S_large_Int} {p1_b : S_large_Int} {v0 : Value} {v1 : Value} {r : S_large_Int} (hm : m_large_Int_Sub p0_a p1_b = some r) (h0 : RdS H v0 p0_a.words) (h1 : RdS H v1 p1_b.words) (ht : St B w0 H (M) w) :
  Calls prog 71 [.agg [.bool (p0_a.minus), v0].toArray, .agg [.bool (p1_b.minus), v1].toArray].toArray w (Ret B w0 fun H' M' v => H.le H' ∧ ∃ qv0 : Value, M = M' ∧ .agg [.bool (r.minus), qv0].toArray = v ∧ RdS H' qv0 r.words) := by
 unfold m_large_Int_Sub at hm
 refine enter func71 rfl rfl rfl ht ?_
 refine C_seq (C_region ?_)
 refine W_box (cs := [.bool (p0_a.minus), v0]) rfl rfl rfl rfl (fun b101 => ?_)
 refine W_box (cs := [.bool (p1_b.minus), v1]) rfl rfl rfl rfl (fun b102 => ?_)
 refine W_alloc (cs := [.bool (false), .slice none 0 0]) rfl rfl zeroValue47 rfl (fun b103 => ?_)
 refine W_end (E_then (C_seq ?_))
 obtain ⟨r104, hc105, hm⟩ := bind_some hm
 refine C_region_tok0 3 (phiT [(fun H rs v => [] = rs ∧ .agg [.bool (p0_a.minus), v0].toArray = v), (fun H rs v => [] = rs ∧ .agg [.bool (p1_b.minus), v1].toArray = v), (fun H rs v => ∃ v110 : Value, [] = rs ∧ .agg [.bool (r104.minus), v110].toArray = v ∧ RdS H v110 r104.words)]) [[], [], []] [[], [], []] [] [0, 1, 2] Facts.mixed (by kernel_rfl) (by rfl) (by rfl) (by rfl) (by kernel_rfl) (phiT_mono ⟨eq_monoT _ _, eq_monoT _ _, (by rintro H1 H2 rs v hle ⟨v110, rfl, rfl, h111⟩; exact ⟨v110, rfl, rfl, (h111.mono hle)⟩), trivial⟩) ⟨?_, ?_, ?_, trivial⟩ ?_
 ·intro HX hX X Rest hR
  intro hU hUp
  refine W_loadAgg rfl rfl isAgg47 sizeOf47 rfl (own_all (hR _ (List.mem_cons_of_mem _ (List.mem_cons_of_mem _ (List.mem_cons_self ..))))) rfl ?_
  exact W_end (OneT_end [] (Hp.le_refl _) ⟨rfl, rfl⟩)
 ·intro HX hX X Rest hR
  intro hU hUp
  refine W_loadAgg rfl rfl isAgg47 sizeOf47 rfl (own_all (hR _ (List.mem_cons_of_mem _ (List.mem_cons_self ..)))) rfl ?_
  exact W_end (OneT_end [] (Hp.le_refl _) ⟨rfl, rfl⟩)
 ·intro HX hX X Rest hR
  rintro _ _ ⟨rfl, rfl⟩
  intro hU hUp
  refine W_call call51 rfl rfl rfl (fun w ht => by have h := m_large_Int_Neg_c (hm := hc105) (h1.mono hX) ht; exact h) ?_
  rintro _ H112 _ ⟨hle113, v110, rfl, rfl, h111⟩
  exact W_end (OneT_end [] hle113 ⟨v110, rfl, rfl, (h111)⟩)
 intro H114 hle115
 rintro _ _ ⟨rfl, rfl⟩
 rintro _ _ ⟨rfl, rfl⟩
 rintro _ _ ⟨v110, rfl, rfl, h111⟩
 obtain ⟨r116, hc117, hm⟩ := bind_some hm
 refine W_call call48 rfl rfl rfl (fun w ht => by have h := m_large_Int_Add_c (hm := hc117) (h0.mono hle115) h111 ht; exact h) ?_
 rintro _ H120 _ ⟨hle121, v118, rfl, rfl, h119⟩
 refine W_store (cs := [.bool (r116.minus), v118]) (out := [.bool (r116.minus), v118]) rfl sizeOf47 rfl rfl rfl rfl rfl (all_cons rfl (all_cons (RdS.one1 h119) all_nil)) (over_all rfl) ?_
 refine W_end (E_then (C_ret ?_))
 obtain rfl := Option.some.inj hm
 exact endC1 (Hp.le_refl _) rfl (ResV.agg rfl isAgg47 sizeOf47 (List.mem_cons_self ..) rfl) (List.Sublist.cons _ (List.Sublist.cons _ (List.Sublist.cons _ (List.Sublist.refl _)))) (List.Perm.refl _) ⟨(Hp.le_trans hle115 hle121), v118, rfl, rfl, h119⟩

theorem m_large_Int_DivMod_c {B : Nat} {w0 w : World} [Tabs B w0] {H : Hp} {M : List Res} {p0_a : S_large_Int} {p1_b : S_large_Int} {v0 : Value} {v1 : Value} {r : S_large_Int × S_large_Int} (hm : m_large_Int_DivMod p0_a p1_b = some r) (h0 : RdS H v0 p0_a.words) (h1 : RdS H v1 p1_b.words) (ht : St B w0 H (M) w) :
  Calls prog 53 [.agg [.bool (p0_a.minus), v0].toArray, .agg [.bool (p1_b.minus), v1].toArray].toArray w (Ret B w0 fun H' M' v => H.le H' ∧ ∃ qv0 : Value, ∃ qv1 : Value, M = M' ∧ .tuple #[.agg [.bool (r.1.minus), qv0].toArray, .agg [.bool (r.2.minus), qv1].toArray] = v ∧ RdS H' qv0 r.1.words ∧ RdS H' qv1 r.2.words) := by
 unfold m_large_Int_DivMod at hm
 refine enter func53 rfl rfl rfl ht ?_
 refine C_seq (C_region ?_)
 refine W_box (cs := [.bool (p0_a.minus), v0]) rfl rfl rfl rfl (fun b101 => ?_)
 refine W_box (cs := [.bool (p1_b.minus), v1]) rfl rfl rfl rfl (fun b102 => ?_)
 refine W_alloc (cs := [.bool (false), .slice none 0 0]) rfl rfl zeroValue47 rfl (fun b103 => ?_)
 refine W_alloc (cs := [.bool (false), .slice none 0 0]) rfl rfl zeroValue47 rfl (fun b104 => ?_)
 refine W_end (E_then (C_seq (C_region ?_)))
 refine W_field (o := 1) rfl rfl runUnderlying47 rfl sizeOf45 rfl rfl rfl ?_
 refine W_load rfl rfl isAgg45 rfl (own_at (List.mem_cons_of_mem _ (List.mem_cons_of_mem _ (List.mem_cons_of_mem _ (List.mem_cons_self ..)))) rfl) ?_
 refine W_field (o := 1) rfl rfl runUnderlying47 rfl sizeOf45 rfl rfl rfl ?_
 refine W_load rfl rfl isAgg45 rfl (own_at (List.mem_cons_of_mem _ (List.mem_cons_of_mem _ (List.mem_cons_self ..))) rfl) ?_
 obtain ⟨r105, hc106, hm⟩ := bind_some hm
 refine W_call call69 rfl rfl rfl (fun w ht => by have h := m_large_divWords_c (hm := hc106) h0 h1 ht; exact h) ?_
 rintro _ H111 _ ⟨hle112, v107, v109, rfl, rfl, h108, h110⟩
 refine W_move rfl rfl rfl ?_
 refine W_extract rfl rfl rfl rfl ?_
 refine W_extract rfl rfl rfl rfl ?_
 refine W_assign rfl rfl rfl ?_
 refine W_assign rfl rfl rfl ?_
 refine W_end (E_then (C_seq ?_))
 obtain ⟨hz113, hm⟩ := need_some hm
 obtain ⟨r120, hc121, hm⟩ := bind_some hm
 obtain ⟨hz126, hm⟩ := need_some hm
 obtain ⟨r133, hc134, hm⟩ := bind_some hm
 refine C_region_tok0 12 (phiT [(fun H rs v => [] = rs ∧ .pointer (some ⟨b101, 0, none⟩) = v), (fun H rs v => [] = rs ∧ .bool (p0_a.minus) = v), (fun H rs v => [] = rs ∧ v107 = v), (fun H rs v => ∃ v141 : Value, ∃ xs142 : List Value, [.row v141 80 (Rep.sz U32) r105.1.length xs142] = rs ∧ v141 = v ∧ Rw H v141 xs142 r105.1), (fun H rs v => ∃ v141 : Value, ∃ xs142 : List Value, ∃ v147 : Value, [] = rs ∧ .agg [.bool (r120.minus), v147].toArray = v ∧ Rw H v141 xs142 r105.1 ∧ RdS H v141 r105.1 ∧ RdS H v147 r120.words), (fun H rs v => [] = rs ∧ .pointer (some ⟨b101, 0, none⟩) = v), (fun H rs v => [] = rs ∧ .bool (p0_a.minus) = v), (fun H rs v => [] = rs ∧ v109 = v), (fun H rs v => ∃ v151 : Value, ∃ xs152 : List Value, [.row v151 80 (Rep.sz U32) r105.2.length xs152] = rs ∧ v151 = v ∧ Rw H v151 xs152 r105.2), (fun H rs v => ∃ v151 : Value, ∃ xs152 : List Value, ∃ v157 : Value, [] = rs ∧ .agg [.bool (r133.minus), v157].toArray = v ∧ Rw H v151 xs152 r105.2 ∧ RdS H v151 r105.2 ∧ RdS H v157 r133.words), (fun H rs v => ∃ b161 : Nat, [.obj b161 (.cells ([.bool (false), .slice none 0 0] : List Value).toArray 47 (0, 0))] = rs ∧ .pointer (some ⟨b161, 0, none⟩) = v), (fun H rs v => ∃ b162 : Nat, [.obj b162 (.cells ([.bool (false), .slice none 0 0] : List Value).toArray 47 (0, 0))] = rs ∧ .pointer (some ⟨b162, 0, none⟩) = v)]) [[], [], [], [], [3], [], [], [], [], [8], [], []] [[], [], [], [], [], [], [], [], [], [], [], []] [] [0, 1, 2, 4, 5, 6, 7, 9, 10, 11] Facts.mixed (by kernel_rfl) (by rfl) (by rfl) (by rfl) (by kernel_rfl) (phiT_mono ⟨eq_monoT _ _, eq_monoT _ _, eq_monoT _ _, (by rintro H1 H2 rs v hle ⟨v141, xs142, rfl, rfl, hr143⟩; exact ⟨v141, xs142, rfl, rfl, (hr143.mono hle)⟩), (by rintro H1 H2 rs v hle ⟨v141, xs142, v147, rfl, rfl, hr143, h146, h148⟩; exact ⟨v141, xs142, v147, rfl, rfl, (hr143.mono hle), (h146.mono hle), (h148.mono hle)⟩), eq_monoT _ _, eq_monoT _ _, eq_monoT _ _, (by rintro H1 H2 rs v hle ⟨v151, xs152, rfl, rfl, hr153⟩; exact ⟨v151, xs152, rfl, rfl, (hr153.mono hle)⟩), (by rintro H1 H2 rs v hle ⟨v151, xs152, v157, rfl, rfl, hr153, h156, h158⟩; exact ⟨v151, xs152, v157, rfl, rfl, (hr153.mono hle), (h156.mono hle), (h158.mono hle)⟩), (by rintro H1 H2 rs v hle ⟨b161, rfl, rfl⟩; exact ⟨b161, rfl, rfl⟩), (by rintro H1 H2 rs v hle ⟨b162, rfl, rfl⟩; exact ⟨b162, rfl, rfl⟩), trivial⟩) ⟨?_, ?_, ?_, ?_, ?_, ?_, ?_, ?_, ?_, ?_, ?_, ?_, trivial⟩ ?_
 ·intro HX hX X Rest hR
  intro hU hUp
  refine W_field (o := 0) rfl rfl runUnderlying47 rfl sizeOf4 rfl rfl rfl ?_
  exact W_end (OneT_end [] (Hp.le_refl _) ⟨rfl, rfl⟩)
 ·intro HX hX X Rest hR
  rintro _ _ ⟨rfl, rfl⟩
  intro hU hUp
  refine W_load rfl rfl isAgg4 rfl (own_at (hR _ (List.mem_cons_of_mem _ (List.mem_cons_of_mem _ (List.mem_cons_of_mem _ (List.mem_cons_self ..))))) rfl) ?_
  exact W_end (OneT_end [] (Hp.le_refl _) ⟨rfl, rfl⟩)
 ·intro HX hX X Rest hR
  intro hU hUp
  refine W_move rfl rfl rfl ?_
  exact W_end (OneT_end [] (Hp.le_refl _) ⟨rfl, rfl⟩)
 ·intro HX hX X Rest hR
  rintro _ _ ⟨rfl, rfl⟩
  intro hU hUp
  refine W_call call70 rfl rfl rfl (fun w ht => by have h := clone70_c (s := r105.1) (h108.mono hX) hz113 ht; exact h) ?_
  rintro _ _ _ ⟨rfl, v141, xs142, rfl, rfl, hr143⟩
  have hr143 := hr143 HX
  exact W_end (OneT_end [.row v141 80 (Rep.sz U32) r105.1.length xs142] (Hp.le_refl _) ⟨v141, xs142, rfl, rfl, (hr143)⟩)
 ·intro HX hX X Rest hR
  rintro _ _ ⟨rfl, rfl⟩
  rintro _ _ ⟨v141, xs142, rfl, rfl, hr143⟩
  rintro _ _ ⟨v141, xs142, rfl, rfl, hr143⟩
  intro hU hUp
  refine W_as (M' := .row v141 80 (Rep.sz U32) r105.1.length xs142 :: Rest) rfl ?_
  refine W_freeze (hr143).rd rfl (fun H144 hle145 h146 => ?_)
  refine W_call call54 rfl rfl rfl (fun w ht => by have h := m_large_norm_c (hm := hc121) h146 ht; exact h) ?_
  rintro _ H149 _ ⟨hle150, v147, rfl, rfl, h148⟩
  exact W_end (OneT_end [] (Hp.le_trans hle145 hle150) ⟨v141, xs142, v147, rfl, rfl, (hr143.mono (Hp.le_trans hle145 hle150)), ((h146.mono hle150)), (h148)⟩)
 ·intro HX hX X Rest hR
  intro hU hUp
  refine W_field (o := 0) rfl rfl runUnderlying47 rfl sizeOf4 rfl rfl rfl ?_
  exact W_end (OneT_end [] (Hp.le_refl _) ⟨rfl, rfl⟩)
 ·intro HX hX X Rest hR
  rintro _ _ ⟨rfl, rfl⟩
  intro hU hUp
  refine W_load rfl rfl isAgg4 rfl (own_at (hR _ (List.mem_cons_of_mem _ (List.mem_cons_of_mem _ (List.mem_cons_of_mem _ (List.mem_cons_self ..))))) rfl) ?_
  exact W_end (OneT_end [] (Hp.le_refl _) ⟨rfl, rfl⟩)
 ·intro HX hX X Rest hR
  intro hU hUp
  refine W_move rfl rfl rfl ?_
  exact W_end (OneT_end [] (Hp.le_refl _) ⟨rfl, rfl⟩)
 ·intro HX hX X Rest hR
  rintro _ _ ⟨rfl, rfl⟩
  rintro _ _ ⟨v141, xs142, v147, rfl, rfl, hr143, h146, h148⟩
  intro hU hUp
  refine W_call call70 rfl rfl rfl (fun w ht => by have h := clone70_c (s := r105.2) (h110.mono hX) hz126 ht; exact h) ?_
  rintro _ _ _ ⟨rfl, v151, xs152, rfl, rfl, hr153⟩
  have hr153 := hr153 HX
  exact W_end (OneT_end [.row v151 80 (Rep.sz U32) r105.2.length xs152] (Hp.le_refl _) ⟨v151, xs152, rfl, rfl, (hr153)⟩)
 ·intro HX hX X Rest hR
  rintro _ _ ⟨rfl, rfl⟩
  rintro _ _ ⟨v151, xs152, rfl, rfl, hr153⟩
  rintro _ _ ⟨v151, xs152, rfl, rfl, hr153⟩
  intro hU hUp
  refine W_as (M' := .row v151 80 (Rep.sz U32) r105.2.length xs152 :: Rest) rfl ?_
  refine W_freeze (hr153).rd rfl (fun H154 hle155 h156 => ?_)
  refine W_call call54 rfl rfl rfl (fun w ht => by have h := m_large_norm_c (hm := hc134) h156 ht; exact h) ?_
  rintro _ H159 _ ⟨hle160, v157, rfl, rfl, h158⟩
  exact W_end (OneT_end [] (Hp.le_trans hle155 hle160) ⟨v151, xs152, v157, rfl, rfl, (hr153.mono (Hp.le_trans hle155 hle160)), ((h156.mono hle160)), (h158)⟩)
 ·intro HX hX X Rest hR
  intro hU hUp
  refine W_alloc (cs := [.bool (false), .slice none 0 0]) rfl rfl zeroValue47 rfl (fun b161 => ?_)
  exact W_end (OneT_end [.obj b161 (.cells ([.bool (false), .slice none 0 0] : List Value).toArray 47 (0, 0))] (Hp.le_refl _) ⟨b161, rfl, rfl⟩)
 ·intro HX hX X Rest hR
  intro hU hUp
  refine W_alloc (cs := [.bool (false), .slice none 0 0]) rfl rfl zeroValue47 rfl (fun b162 => ?_)
  exact W_end (OneT_end [.obj b162 (.cells ([.bool (false), .slice none 0 0] : List Value).toArray 47 (0, 0))] (Hp.le_refl _) ⟨b162, rfl, rfl⟩)
 intro H163 hle164
 rintro _ _ ⟨rfl, rfl⟩
 rintro _ _ ⟨rfl, rfl⟩
 rintro _ _ ⟨rfl, rfl⟩
 rintro _ _ ⟨v141, xs142, rfl, rfl, hr143⟩
 rintro _ _ ⟨v141, xs142, v147, rfl, rfl, hr143, h146, h148⟩
 rintro _ _ ⟨rfl, rfl⟩
 rintro _ _ ⟨rfl, rfl⟩
 rintro _ _ ⟨rfl, rfl⟩
 rintro _ _ ⟨v151, xs152, rfl, rfl, hr153⟩
 rintro _ _ ⟨v151, xs152, v157, rfl, rfl, hr153, h156, h158⟩
 rintro _ _ ⟨b161, rfl, rfl⟩
 rintro _ _ ⟨b162, rfl, rfl⟩
 refine W_as (M' := .obj b161 (.cells ([.bool (false), .slice none 0 0] : List Value).toArray 47 (0, 0)) :: .obj b162 (.cells ([.bool (false), .slice none 0 0] : List Value).toArray 47 (0, 0)) :: .obj b104 (.cells ([.bool (false), .slice none 0 0] : List Value).toArray 47 (0, 0)) :: .obj b103 (.cells ([.bool (false), .slice none 0 0] : List Value).toArray 47 (0, 0)) :: .obj b102 (.cells [.bool (p1_b.minus), v1].toArray 47 (0, 0)) :: .obj b101 (.cells [.bool (p0_a.minus), v0].toArray 47 (0, 0)) :: M) rfl ?_
 refine W_store (cs := [.bool (r120.minus), v147]) (out := [.bool (r120.minus), v147]) rfl sizeOf47 rfl rfl rfl rfl rfl (all_cons rfl (all_cons (RdS.one1 h148) all_nil)) (over_all rfl) ?_
 refine W_perm (List.Perm.swap _ _ _) ?_
 refine W_store (cs := [.bool (r133.minus), v157]) (out := [.bool (r133.minus), v157]) rfl sizeOf47 rfl rfl rfl rfl rfl (all_cons rfl (all_cons (RdS.one1 h158) all_nil)) (over_all rfl) ?_
 refine W_end (E_then ?_)
 refine C_seq_join (fun H' M' L' => ∃ c194 : Bool, ∃ l196 : (List U32), ∃ c198 : Bool, ∃ l200 : (List U32), ∃ v195 : Value, ∃ v199 : Value, m_large_Int_DivMod_b1 c194 l196 c198 l200 = some r ∧ RdS H' v195 l196 ∧ RdS H' v199 l200 ∧ H163.le H' ∧ .obj b162 (.cells [.bool (c194), v195].toArray 47 (0, 0)) :: .obj b161 (.cells [.bool (c198), v199].toArray 47 (0, 0)) :: .obj b104 (.cells ([.bool (false), .slice none 0 0] : List Value).toArray 47 (0, 0)) :: .obj b103 (.cells ([.bool (false), .slice none 0 0] : List Value).toArray 47 (0, 0)) :: M = M' ∧ [(4, .pointer (some ⟨b103, 0, none⟩)), (5, .pointer (some ⟨b104, 0, none⟩)), (8, .pointer (some ⟨b161, 0, none⟩)), (9, .pointer (some ⟨b162, 0, none⟩))] = L') ?_ (fun J204 => ?_)
 ·rintro H202 _ _ ⟨c194, l196, c198, l200, v195, v199, hm, h197, h201, hle203, rfl, rfl⟩
  unfold m_large_Int_DivMod_b1 at hm
  refine C_seq ?_
  refine C_perm (List.Perm.trans (List.Perm.cons _ (List.Perm.cons _ (List.Perm.swap _ _ _))) (List.Perm.trans (List.Perm.cons _ (List.Perm.swap _ _ _)) (List.Perm.swap _ _ _))) ?_
  refine C_as (M' := [[.obj b103 (.cells ([.bool (false), .slice none 0 0] : List Value).toArray 47 (0, 0))]].flatten ++ (.obj b162 (.cells [.bool (c194), v195].toArray 47 (0, 0)) :: .obj b161 (.cells [.bool (c198), v199].toArray 47 (0, 0)) :: .obj b104 (.cells ([.bool (false), .slice none 0 0] : List Value).toArray 47 (0, 0)) :: M)) rfl ?_
  refine C_region_tok0 3 (phiT [(fun H rs v => [] = rs ∧ .agg [.bool (c198), v199].toArray = v), (fun H rs v => [] = rs ∧ .agg [.bool (c194), v195].toArray = v), (fun H rs v => [.obj b103 (.cells [.bool (c198), v199].toArray 47 (0, 0))] = rs ∧ undef = v)]) [[], [], [3]] [[], [], []] [[.obj b103 (.cells ([.bool (false), .slice none 0 0] : List Value).toArray 47 (0, 0))]] [0, 1, 2] Facts.mixed (by kernel_rfl) (by rfl) (by rfl) (by rfl) (by kernel_rfl) (phiT_mono ⟨eq_monoT _ _, eq_monoT _ _, eq_monoT _ _, trivial⟩) ⟨?_, ?_, ?_, trivial⟩ ?_
  ·intro HX hX X Rest hR
   intro hU hUp
   refine W_loadAgg rfl rfl isAgg47 sizeOf47 rfl (own_all (hR _ (List.mem_cons_of_mem _ (List.mem_cons_self ..)))) rfl ?_
   exact W_end (OneT_end [] (Hp.le_refl _) ⟨rfl, rfl⟩)
  ·intro HX hX X Rest hR
   intro hU hUp
   refine W_loadAgg rfl rfl isAgg47 sizeOf47 rfl (own_all (hR _ (List.mem_cons_self ..))) rfl ?_
   exact W_end (OneT_end [] (Hp.le_refl _) ⟨rfl, rfl⟩)
  ·intro HX hX X Rest hR
   rintro _ _ ⟨rfl, rfl⟩
   rintro _ _ ⟨rfl, rfl⟩
   intro hU hUp
   refine W_as (M' := .obj b103 (.cells ([.bool (false), .slice none 0 0] : List Value).toArray 47 (0, 0)) :: Rest) rfl ?_
   refine W_store (cs := [.bool (c198), v199]) (out := [.bool (c198), v199]) rfl sizeOf47 rfl rfl rfl rfl rfl (all_cons rfl (all_cons (RdS.one1 (h201.mono hX)) all_nil)) (over_all rfl) ?_
   exact W_end (OneT_end_ [.obj b103 (.cells [.bool (c198), v199].toArray 47 (0, 0))] (Hp.le_refl _) ⟨rfl, rfl⟩)
  intro H205 hle206
  rintro _ _ ⟨rfl, rfl⟩
  rintro _ _ ⟨rfl, rfl⟩
  rintro _ ⟨rfl, _⟩
  refine W_as (M' := .obj b103 (.cells [.bool (c198), v199].toArray 47 (0, 0)) :: .obj b162 (.cells [.bool (c194), v195].toArray 47 (0, 0)) :: .obj b161 (.cells [.bool (c198), v199].toArray 47 (0, 0)) :: .obj b104 (.cells ([.bool (false), .slice none 0 0] : List Value).toArray 47 (0, 0)) :: M) rfl ?_
  refine W_perm (List.Perm.trans (List.Perm.cons _ (List.Perm.cons _ (List.Perm.swap _ _ _))) (List.Perm.trans (List.Perm.cons _ (List.Perm.swap _ _ _)) (List.Perm.swap _ _ _))) ?_
  refine W_store (cs := [.bool (c194), v195]) (out := [.bool (c194), v195]) rfl sizeOf47 rfl rfl rfl rfl rfl (all_cons rfl (all_cons (RdS.one1 (h197.mono hle206)) all_nil)) (over_all rfl) ?_
  refine W_end (E_then (C_ret ?_))
  obtain rfl := Option.some.inj hm
  exact endC2 (Hp.le_refl _) rfl (ResV.agg rfl isAgg47 sizeOf47 (List.mem_cons_of_mem _ (List.mem_cons_self ..)) rfl) (ResV.agg rfl isAgg47 sizeOf47 (List.mem_cons_self ..) rfl) (List.Sublist.cons _ (List.Sublist.cons _ (List.Sublist.cons _ (List.Sublist.cons _ (List.Sublist.refl _))))) (List.Perm.refl _) ⟨(Hp.le_trans (Hp.le_trans (Hp.le_trans hle112 hle164) hle203) hle206), v199, v195, rfl, rfl, (h201.mono hle206), (h197.mono hle206)⟩
 ·refine C_seq (C_region ?_)
  refine W_field (o := 0) rfl rfl runUnderlying47 rfl sizeOf4 rfl rfl rfl ?_
  refine W_load rfl rfl isAgg4 rfl (own_at (List.mem_cons_self ..) rfl) ?_
  refine W_end (E_then ?_)
  refine C_cond (b := r133.minus) rfl (fun hb207 => ?_) (fun hb207 => ?_)
  ·have hm := ite_t' hb207 hm
   obtain ⟨r208, hc209, hm⟩ := bind_some hm
   obtain ⟨r214, hc215, hm⟩ := bind_some hm
   refine C_region_tok0 5 (phiT [(fun H rs v => [] = rs ∧ .agg [.bool (r120.minus), v147].toArray = v), (fun H rs v => ∃ v220 : Value, [] = rs ∧ .agg [.bool (r208.minus), v220].toArray = v ∧ RdS H v220 r208.words), (fun H rs v => ∃ v224 : Value, [] = rs ∧ .agg [.bool (r214.minus), v224].toArray = v ∧ RdS H v224 r214.words), (fun H rs v => [] = rs ∧ .agg [.bool (r133.minus), v157].toArray = v), (fun H rs v => [] = rs ∧ .agg [.bool (p1_b.minus), v1].toArray = v)]) [[], [], [], [], []] [[], [], [], [], []] [] [0, 1, 2, 3, 4] Facts.mixed (by kernel_rfl) (by rfl) (by rfl) (by rfl) (by kernel_rfl) (phiT_mono ⟨eq_monoT _ _, (by rintro H1 H2 rs v hle ⟨v220, rfl, rfl, h221⟩; exact ⟨v220, rfl, rfl, (h221.mono hle)⟩), (by rintro H1 H2 rs v hle ⟨v224, rfl, rfl, h225⟩; exact ⟨v224, rfl, rfl, (h225.mono hle)⟩), eq_monoT _ _, eq_monoT _ _, trivial⟩) ⟨?_, ?_, ?_, ?_, ?_, trivial⟩ ?_
   ·intro HX hX X Rest hR
    intro hU hUp
    refine W_loadAgg rfl rfl isAgg47 sizeOf47 rfl (own_all (hR _ (List.mem_cons_of_mem _ (List.mem_cons_self ..)))) rfl ?_
    exact W_end (OneT_end [] (Hp.le_refl _) ⟨rfl, rfl⟩)
   ·intro HX hX X Rest hR
    intro hU hUp
    refine W_call call40 rfl rfl rfl (fun w ht => by have h := m_large_Of_c (hm := hc209)  ht; exact h) ?_
    rintro _ H222 _ ⟨hle223, v220, rfl, rfl, h221⟩
    exact W_end (OneT_end [] hle223 ⟨v220, rfl, rfl, (h221)⟩)
   ·intro HX hX X Rest hR
    rintro _ _ ⟨rfl, rfl⟩
    rintro _ _ ⟨v220, rfl, rfl, h221⟩
    rintro _ _ ⟨v220, rfl, rfl, h221⟩
    intro hU hUp
    refine W_call call71 rfl rfl rfl (fun w ht => by have h := m_large_Int_Sub_c (hm := hc215) (h148.mono hX) h221 ht; exact h) ?_
    rintro _ H226 _ ⟨hle227, v224, rfl, rfl, h225⟩
    exact W_end (OneT_end [] hle227 ⟨v224, rfl, rfl, (h225)⟩)
   ·intro HX hX X Rest hR
    intro hU hUp
    refine W_loadAgg rfl rfl isAgg47 sizeOf47 rfl (own_all (hR _ (List.mem_cons_self ..))) rfl ?_
    exact W_end (OneT_end [] (Hp.le_refl _) ⟨rfl, rfl⟩)
   ·intro HX hX X Rest hR
    intro hU hUp
    refine W_loadAgg rfl rfl isAgg47 sizeOf47 rfl (own_all (hR _ (List.mem_cons_of_mem _ (List.mem_cons_of_mem _ (List.mem_cons_of_mem _ (List.mem_cons_of_mem _ (List.mem_cons_self ..))))))) rfl ?_
    exact W_end (OneT_end [] (Hp.le_refl _) ⟨rfl, rfl⟩)
   intro H228 hle229
   rintro _ _ ⟨rfl, rfl⟩
   rintro _ _ ⟨v220, rfl, rfl, h221⟩
   rintro _ _ ⟨v224, rfl, rfl, h225⟩
   rintro _ _ ⟨rfl, rfl⟩
   rintro _ _ ⟨rfl, rfl⟩
   obtain ⟨r230, hc231, hm⟩ := bind_some hm
   refine W_call call48 rfl rfl rfl (fun w ht => by have h := m_large_Int_Add_c (hm := hc231) (h158.mono hle229) (((h1.mono hle112).mono hle164).mono hle229) ht; exact h) ?_
   rintro _ H234 _ ⟨hle235, v232, rfl, rfl, h233⟩
   refine W_perm (List.Perm.swap _ _ _) ?_
   refine W_store (cs := [.bool (r214.minus), v224]) (out := [.bool (r214.minus), v224]) rfl sizeOf47 rfl rfl rfl rfl rfl (all_cons rfl (all_cons (RdS.one1 (h225.mono hle235)) all_nil)) (over_all rfl) ?_
   refine W_perm (List.Perm.swap _ _ _) ?_
   refine W_store (cs := [.bool (r230.minus), v232]) (out := [.bool (r230.minus), v232]) rfl sizeOf47 rfl rfl rfl rfl rfl (all_cons rfl (all_cons (RdS.one1 h233) all_nil)) (over_all rfl) ?_
   refine W_end ?_
   refine E_drop (List.Sublist.cons_cons _ (List.Sublist.cons_cons _ (List.Sublist.cons_cons _ (List.Sublist.cons_cons _ (List.Sublist.cons _ (List.Sublist.cons _ (List.Sublist.refl _))))))) ?_
   exact E_keepJ (J204 _ _ _ ⟨r230.minus, r230.words, r214.minus, r214.words, v232, v224, hm, h233, (h225.mono hle235), (Hp.le_trans hle229 hle235), rfl, rfl⟩) (List.Perm.refl _) ⟨rfl, rfl, rfl, rfl, trivial⟩
  ·have hm := ite_f' hb207 hm
   refine C_skip ?_
   refine E_drop (List.Sublist.cons_cons _ (List.Sublist.cons_cons _ (List.Sublist.cons_cons _ (List.Sublist.cons_cons _ (List.Sublist.cons _ (List.Sublist.cons _ (List.Sublist.refl _))))))) ?_
   exact E_keepJ (J204 _ _ _ ⟨r133.minus, r133.words, r120.minus, r120.words, v157, v147, hm, h158, h148, (Hp.le_refl _), rfl, rfl⟩) (List.Perm.refl _) ⟨rfl, rfl, rfl, rfl, trivial⟩
end Go.Sim
