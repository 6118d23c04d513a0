/-
  Printed by a program: each Go function computes its model.
-/
import Derived.Test.YtbgeolhghncnbaaDoorConK3
namespace Go.Sim
open Go
set_option linter.unusedVariables false
set_option linter.unusedSimpArgs false
set_option maxRecDepth 100000
theorem m_slices_Equal_int_int_c {B : Nat} {w0 w : World} {H : Hp} {M : List Res} {p0_s1 : (List Int)} {p1_s2 : (List Int)} {v0 : Value} {v1 : Value} {r : Bool} (hm : m_slices_Equal_int_int p0_s1 p1_s2 = some r) (h0 : RdS H v0 p0_s1) (h1 : RdS H v1 p1_s2) (ht : St B w0 H (M) w) :
    Calls Proofs.Tryd.prog 23 [v0, v1].toArray w (Ret B w0 fun H' M' v => H = H' ∧ M = M' ∧ .bool (r) = v) := by
  unfold m_slices_Equal_int_int at hm
  refine enter Proofs.Tryd.func23 rfl rfl rfl ht ?_
  refine C_seq ?_
  refine C_region ?_
  refine W_assign rfl rfl rfl ?_
  refine W_end ?_
  refine E_then ?_
  refine C_seq ?_
  refine C_seq ?_
  refine C_region ?_
  refine W_move rfl rfl rfl ?_
  refine W_lenR rfl rfl Proofs.Tryd.runUnderlying52 rfl h0 ?_
  refine W_move rfl rfl rfl ?_
  refine W_lenR rfl rfl Proofs.Tryd.runUnderlying52 rfl h1 ?_
  refine W_bin rfl rfl rfl rfl rfl ?_
  refine W_end ?_
  refine E_then ?_
  refine C_cond (b := !decide ((p0_s1.length : Int) = (p1_s2.length : Int))) rfl (fun hb101 => ?_) (fun hb101 => ?_)
  · have hm := ite_t' hb101 hm
    refine C_seq ?_
    refine C_region ?_
    refine W_assign rfl rfl rfl ?_
    refine W_end ?_
    refine E_then ?_
    refine C_ret ?_
    refine E_ret_then ?_
    obtain rfl := Option.some.inj hm
    refine E_weak (Hp.le_refl _) ?_
    exact end1 rfl rfl ⟨rfl, rfl, rfl⟩
  · have hm := ite_f' hb101 hm
    refine C_skip ?_
    refine E_then ?_
    refine C_seq ?_
    refine C_seq ?_
    refine C_region ?_
    refine W_move rfl rfl rfl ?_
    refine W_lenR rfl rfl Proofs.Tryd.runUnderlying52 rfl h0 ?_
    refine W_move rfl rfl rfl ?_
    refine W_end ?_
    refine E_then ?_
    refine C_block ?_
    refine C_keep (L' := [(0, v0), (1, v1), (12, .int .i64 ((p0_s1.length : Int))), (13, .int .i64 (((0 : Nat) : Int)))]) ⟨rfl, rfl, rfl, rfl, trivial⟩ (List.Perm.refl _) ?_
    refine C_loop (fun n H' M' L' => ∃ (k102 : Nat) (zs136' : Nat), k102 + zs136' = ((p0_s1.length : Int) : Int).toNat ∧ zs136' = n ∧ forN (fun k s131 n => m_slices_Equal_int_int_b1 p0_s1 p1_s2 k n) (fun _ => some true) zs136' k102 () = some r ∧ H.le H' ∧ M = M' ∧ [(0, v0), (1, v1), (12, .int .i64 ((p0_s1.length : Int))), (13, .int .i64 ((k102 : Int)))] = L') _ ⟨0, _, Nat.zero_add _, rfl, hm, (Hp.le_refl _), rfl, rfl⟩ ?_
    rintro _ H129 _ _ ⟨k102, zs136', hd138, rfl, hm, hle130, rfl, rfl⟩
    refine C_seq ?_
    refine C_region ?_
    refine W_bin rfl rfl rfl rfl rfl ?_
    refine W_end (E_then ?_)
    refine C_seq ?_
    refine C_cond (b := decide ((k102 : Int) < (p0_s1.length : Int))) rfl (fun hb140 => ?_) (fun hb140 => ?_)
    · obtain ⟨zs136, rfl, hd139, hy137⟩ := rngN_t hd138 hb140
      have hm : m_slices_Equal_int_int_b1 p0_s1 p1_s2 k102 (forN (fun k s131 n => m_slices_Equal_int_int_b1 p0_s1 p1_s2 k n) (fun _ => some true) zs136 (k102 + 1)) = some r := hm
      generalize hn133 : forN (fun k s131 n => m_slices_Equal_int_int_b1 p0_s1 p1_s2 k n) (fun _ => some true) zs136 (k102 + 1) = nx132 at hm
      unfold m_slices_Equal_int_int_b1 at hm
      refine C_skip (E_then ?_)
      refine C_seq ?_
      refine C_block ?_
      refine C_seq ?_
      refine C_region ?_
      refine W_move rfl rfl rfl ?_
      refine W_assign rfl rfl rfl ?_
      refine W_end ?_
      refine E_then ?_
      refine C_seq ?_
      obtain ⟨y141, h142, he143, hm⟩ := idx_some hm
      obtain ⟨_, rfl, hc144⟩ := (h0).elem he143
      obtain ⟨y145, h146, he147, hm⟩ := idx_some hm
      obtain ⟨_, rfl, hc148⟩ := (h1).elem he147
      refine C_region_tok0 8 (phiT [(fun H rs v => [] = rs ∧ v0 = v), (fun H rs v => [] = rs ∧ .int .i64 ((k102 : Int)) = v), (fun H rs v => [] = rs ∧ .pointer (some ((Value.base (v0)).add (((k102 : Int) : Int).toNat * 1))) = v), (fun H rs v => [] = rs ∧ .int .i64 (y141) = v), (fun H rs v => [] = rs ∧ v1 = v), (fun H rs v => [] = rs ∧ .int .i64 ((k102 : Int)) = v), (fun H rs v => [] = rs ∧ .pointer (some ((Value.base (v1)).add (((k102 : Int) : Int).toNat * 1))) = v), (fun H rs v => [] = rs ∧ .int .i64 (y145) = v)]) [[], [], [], [], [], [], [], []] [[], [], [], [], [], [], [], []] [] [0, 1, 2, 3, 4, 5, 6, 7] Facts.mixed (by kernel_rfl) rfl rfl rfl (by kernel_rfl) (phiT_mono ⟨eq_monoT _ _, eq_monoT _ _, eq_monoT _ _, eq_monoT _ _, eq_monoT _ _, eq_monoT _ _, eq_monoT _ _, eq_monoT _ _, trivial⟩) ⟨?_, ?_, ?_, ?_, ?_, ?_, ?_, ?_, trivial⟩ ?_
      · intro HX hX X Rest hR
        intro hU hUp
        refine W_move rfl rfl rfl ?_
        exact W_end (OneT_end [] (Hp.le_refl _) ⟨rfl, rfl⟩)
      · intro HX hX X Rest hR
        intro hU hUp
        refine W_move rfl rfl rfl ?_
        exact W_end (OneT_end [] (Hp.le_refl _) ⟨rfl, rfl⟩)
      · intro HX hX X Rest hR
        rintro _ _ ⟨rfl, rfl⟩
        rintro _ _ ⟨rfl, rfl⟩
        intro hU hUp
        refine W_indexS rfl rfl Proofs.Tryd.runUnderlying52 Proofs.Tryd.sizeOf3 rfl ((h0.mono hle130).mono hX) rfl h142 he143 ?_
        exact W_end (OneT_end [] (Hp.le_refl _) ⟨rfl, rfl⟩)
      · intro HX hX X Rest hR
        rintro _ _ ⟨rfl, rfl⟩
        intro hU hUp
        refine W_load rfl rfl Proofs.Tryd.isAgg3 rfl (HCells.one ((hc144.mono hle130).mono hX) 0 rfl).at ?_
        exact W_end (OneT_end [] (Hp.le_refl _) ⟨rfl, rfl⟩)
      · intro HX hX X Rest hR
        intro hU hUp
        refine W_move rfl rfl rfl ?_
        exact W_end (OneT_end [] (Hp.le_refl _) ⟨rfl, rfl⟩)
      · intro HX hX X Rest hR
        intro hU hUp
        refine W_move rfl rfl rfl ?_
        exact W_end (OneT_end [] (Hp.le_refl _) ⟨rfl, rfl⟩)
      · intro HX hX X Rest hR
        rintro _ _ ⟨rfl, rfl⟩
        rintro _ _ ⟨rfl, rfl⟩
        intro hU hUp
        refine W_indexS rfl rfl Proofs.Tryd.runUnderlying52 Proofs.Tryd.sizeOf3 rfl ((h1.mono hle130).mono hX) rfl h146 he147 ?_
        exact W_end (OneT_end [] (Hp.le_refl _) ⟨rfl, rfl⟩)
      · intro HX hX X Rest hR
        rintro _ _ ⟨rfl, rfl⟩
        intro hU hUp
        refine W_load rfl rfl Proofs.Tryd.isAgg3 rfl (HCells.one ((hc148.mono hle130).mono hX) 0 rfl).at ?_
        exact W_end (OneT_end [] (Hp.le_refl _) ⟨rfl, rfl⟩)
      intro H149 hle150
      rintro _ _ ⟨rfl, rfl⟩
      rintro _ _ ⟨rfl, rfl⟩
      rintro _ _ ⟨rfl, rfl⟩
      rintro _ _ ⟨rfl, rfl⟩
      rintro _ _ ⟨rfl, rfl⟩
      rintro _ _ ⟨rfl, rfl⟩
      rintro _ _ ⟨rfl, rfl⟩
      rintro _ _ ⟨rfl, rfl⟩
      refine W_bin rfl rfl rfl rfl rfl ?_
      refine W_end ?_
      refine E_then ?_
      refine C_cond (b := !decide (y141 = y145)) rfl (fun hb151 => ?_) (fun hb151 => ?_)
      · have hm := ite_t' hb151 hm
        refine C_seq ?_
        refine C_region ?_
        refine W_assign rfl rfl rfl ?_
        refine W_end ?_
        refine E_then ?_
        refine C_ret ?_
        refine E_ret_block ?_
        refine E_ret_then ?_
        refine E_ret_then ?_
        refine E_ret_block ?_
        refine E_ret_then ?_
        obtain rfl := Option.some.inj hm
        refine E_weak (Hp.le_trans hle130 hle150) ?_
        exact end1 rfl rfl ⟨rfl, rfl, rfl⟩
      · have hm := ite_f' hb151 hm
        refine C_skip ?_
        refine E_normal_block ?_
        refine E_then ?_
        refine C_region ?_
        refine W_bin rfl rfl rfl rfl rfl ?_
        refine W_move rfl rfl rfl ?_
        refine W_end ?_
        exact E_keepJ (E_back (Nat.lt_succ_self _) ⟨k102 + 1, zs136, hd139, rfl, (by rw [hn133]; exact hm), (Hp.le_trans hle130 hle150), rfl, rfl⟩) (List.Perm.refl _) ⟨rfl, rfl, rfl, (congrArg (fun z => some (Value.int .i64 z)) (i64_succN hy137 (toNat_max (len_max (h0).lenMax)))), trivial⟩
    · obtain rfl := rngN_f hd138 hb140
      have hm : (some true) = some r := hm
      refine C_exit (E_exit_then ?_)
      refine E_exit_then ?_
      refine E_exit_hit ?_
      refine E_then ?_
      refine C_seq ?_
      refine C_region ?_
      refine W_assign rfl rfl rfl ?_
      refine W_end ?_
      refine E_then ?_
      refine C_ret ?_
      obtain rfl := Option.some.inj hm
      refine E_weak hle130 ?_
      exact end1 rfl rfl ⟨rfl, rfl, rfl⟩

theorem m_gridhallkeep4_interlockFact_c {B : Nat} {w0 w : World} {H : Hp} {M : List Res} {r : Bool} (hm : m_gridhallkeep4_interlockFact = some r) (ht : St B w0 H (M) w) :
    Calls Proofs.Tryd.prog 18 [].toArray w (Ret B w0 fun H' M' v => H = H' ∧ M = M' ∧ .bool (r) = v) := by
  unfold m_gridhallkeep4_interlockFact at hm
  refine enter Proofs.Tryd.func18 rfl rfl rfl ht ?_
  refine C_seq ?_
  refine C_region ?_
  refine W_assign rfl rfl rfl ?_
  refine W_end ?_
  refine E_then ?_
  refine C_seq ?_
  refine C_region ?_
  obtain ⟨r101, hc102, hm⟩ := bind_some hm
  refine W_call Proofs.Tryd.call32 rfl rfl rfl (fun w ht => by have h := m_interlock_Parse_c (hm := hc102)  ht; exact h) ?_
  rintro _ H106 _ ⟨hle107, v103, xs104, rfl, rfl, h105⟩
  refine W_move rfl rfl rfl ?_
  refine W_extract rfl rfl rfl rfl ?_
  refine W_extract rfl rfl rfl rfl ?_
  refine W_extract rfl rfl rfl rfl ?_
  refine W_assign rfl rfl rfl ?_
  refine W_assign rfl rfl rfl ?_
  refine W_assign rfl rfl rfl ?_
  refine W_end ?_
  refine E_then ?_
  refine C_seq ?_
  refine C_region ?_
  refine W_move rfl rfl rfl ?_
  refine W_build (css := [[.string (⟨#[65]⟩)]]) (zs := [.string (⟨#[]⟩), .bool (false)]) (out := [.string (⟨#[65]⟩), .bool (false)]) (places := [(0, 1), (1, 1)]) rfl rfl rfl ⟨rfl, trivial⟩ Proofs.Tryd.zeroValue49 rfl Proofs.Tryd.runUnderlying49 (fun w => by kernel_rfl) rfl ?_
  refine W_build (css := [[.string (⟨#[66]⟩)], [.bool (true)]]) (zs := [.string (⟨#[]⟩), .bool (false)]) (out := [.string (⟨#[66]⟩), .bool (true)]) (places := [(0, 1), (1, 1)]) rfl rfl rfl ⟨rfl, rfl, trivial⟩ Proofs.Tryd.zeroValue49 rfl Proofs.Tryd.runUnderlying49 (fun w => by kernel_rfl) rfl ?_
  refine W_buildSliceO (α := S_api_InterlockState) (css := [[.string (⟨#[65]⟩), .bool (false)], [.string (⟨#[66]⟩), .bool (true)]]) (zs := [.string (⟨#[]⟩), .bool (false), .string (⟨#[]⟩), .bool (false)]) (out := [.string (⟨#[65]⟩), .bool (false), .string (⟨#[66]⟩), .bool (true)]) (ys := [(S_api_InterlockState.mk (⟨#[65]⟩) false), (S_api_InterlockState.mk (⟨#[66]⟩) true)]) rfl rfl rfl ⟨rfl, rfl, trivial⟩ Proofs.Tryd.runUnderlying39 Proofs.Tryd.sizeOf49 rfl Proofs.Tryd.zeroValue49 (by kernel_rfl) rfl rfl rfl rfl ⟨[.string (⟨#[65]⟩), .bool (false)], [.string (⟨#[66]⟩), .bool (true)], rfl, rfl, ⟨[.string (⟨#[66]⟩), .bool (true)], [], rfl, rfl, rfl⟩⟩ rfl ?_
  intro v108 xs109 hr110
  refine W_perm (List.Perm.swap _ _ _) ?_
  obtain ⟨r111, hc112, hm⟩ := bind_some hm
  refine W_call Proofs.Tryd.call21 rfl rfl rfl (fun w ht => by obtain ⟨H0_, hl0_, ht0_, hr0_, bk0_⟩ := ht.lendRow h105 rfl; obtain ⟨H1_, hl1_, ht1_, hr1_, bk1_⟩ := ht0_.lendRow (hr110.mono hl0_) rfl; have h := m_interlock_Explain_c (hm := hc112) (hr0_.mono hl1_) hr1_ ht1_; exact lend_back bk0_ (lend_back bk1_ (h))) ?_
  rintro _ _ _ ⟨rfl, ⟨_, rfl, ⟨_, rfl, v113, xs114, rfl, rfl, h115⟩⟩⟩
  have h115 := h115 H106
  refine W_move rfl rfl rfl ?_
  refine W_extract rfl rfl rfl rfl ?_
  refine W_extract rfl rfl rfl rfl ?_
  refine W_assign rfl rfl rfl ?_
  refine W_assign rfl rfl rfl ?_
  refine W_end ?_
  refine E_then ?_
  refine C_seq ?_
  refine C_region ?_
  refine W_move rfl rfl rfl ?_
  refine W_bin rfl rfl rfl rfl rfl ?_
  refine W_move rfl rfl rfl ?_
  cases hb116 : (decide (r101.2.2 = 0))
  · have hm := ite_f' hb116 hm
    refine W_no rfl rfl rfl ?_
    refine W_no rfl rfl rfl ?_
    refine W_pick rfl rfl rfl rfl ?_
    refine W_move rfl rfl rfl ?_
    refine W_no rfl rfl rfl ?_
    refine W_no rfl rfl rfl ?_
    refine W_pick rfl rfl rfl rfl ?_
    refine W_move rfl rfl rfl ?_
    refine W_no rfl rfl rfl ?_
    refine W_no rfl rfl rfl ?_
    refine W_no rfl rfl rfl ?_
    refine W_pick rfl rfl rfl rfl ?_
    refine W_move rfl rfl rfl ?_
    refine W_no rfl rfl rfl ?_
    refine W_no rfl rfl rfl ?_
    refine W_no rfl rfl rfl ?_
    refine W_pick rfl rfl rfl rfl ?_
    refine W_assign rfl rfl rfl ?_
    refine W_end ?_
    refine E_then ?_
    refine C_ret ?_
    obtain rfl := Option.some.inj hm
    refine E_drop (List.Sublist.cons _ (List.Sublist.cons _ (List.Sublist.cons _ (List.Sublist.refl _)))) ?_
    refine E_weak hle107 ?_
    exact end1 rfl rfl ⟨rfl, rfl, rfl⟩
  · have hm := ite_t' hb116 hm
    refine W_move rfl rfl rfl ?_
    refine W_bin rfl rfl rfl rfl rfl ?_
    refine W_pick rfl rfl rfl rfl ?_
    refine W_move rfl rfl rfl ?_
    cases hb117 : (decide (r101.2.1 = 0))
    · have hm := ite_f' hb117 hm
      refine W_no rfl rfl rfl ?_
      refine W_no rfl rfl rfl ?_
      refine W_pick rfl rfl rfl rfl ?_
      refine W_move rfl rfl rfl ?_
      refine W_no rfl rfl rfl ?_
      refine W_no rfl rfl rfl ?_
      refine W_no rfl rfl rfl ?_
      refine W_pick rfl rfl rfl rfl ?_
      refine W_move rfl rfl rfl ?_
      refine W_no rfl rfl rfl ?_
      refine W_no rfl rfl rfl ?_
      refine W_no rfl rfl rfl ?_
      refine W_pick rfl rfl rfl rfl ?_
      refine W_assign rfl rfl rfl ?_
      refine W_end ?_
      refine E_then ?_
      refine C_ret ?_
      obtain rfl := Option.some.inj hm
      refine E_drop (List.Sublist.cons _ (List.Sublist.cons _ (List.Sublist.cons _ (List.Sublist.refl _)))) ?_
      refine E_weak hle107 ?_
      exact end1 rfl rfl ⟨rfl, rfl, rfl⟩
    · have hm := ite_t' hb117 hm
      refine W_move rfl rfl rfl ?_
      refine W_bin rfl rfl rfl rfl rfl ?_
      refine W_pick rfl rfl rfl rfl ?_
      refine W_move rfl rfl rfl ?_
      cases hb118 : (decide (r111.2 = 0))
      · have hm := ite_f' hb118 hm
        refine W_no rfl rfl rfl ?_
        refine W_no rfl rfl rfl ?_
        refine W_no rfl rfl rfl ?_
        refine W_pick rfl rfl rfl rfl ?_
        refine W_move rfl rfl rfl ?_
        refine W_no rfl rfl rfl ?_
        refine W_no rfl rfl rfl ?_
        refine W_no rfl rfl rfl ?_
        refine W_pick rfl rfl rfl rfl ?_
        refine W_assign rfl rfl rfl ?_
        refine W_end ?_
        refine E_then ?_
        refine C_ret ?_
        obtain rfl := Option.some.inj hm
        refine E_drop (List.Sublist.cons _ (List.Sublist.cons _ (List.Sublist.cons _ (List.Sublist.refl _)))) ?_
        refine E_weak hle107 ?_
        exact end1 rfl rfl ⟨rfl, rfl, rfl⟩
      · have hm := ite_t' hb118 hm
        refine W_move rfl rfl rfl ?_
        refine W_lenO (List.mem_cons_self ..) rfl rfl Proofs.Tryd.runUnderlying44 rfl ?_
        refine W_bin rfl rfl rfl rfl rfl ?_
        refine W_pick rfl rfl rfl rfl ?_
        refine W_move rfl rfl rfl ?_
        cases hb119 : (decide ((r101.1.length : Int) = 1))
        · have hm := ite_f' hb119 hm
          refine W_no rfl rfl rfl ?_
          refine W_no rfl rfl rfl ?_
          refine W_no rfl rfl rfl ?_
          refine W_pick rfl rfl rfl rfl ?_
          refine W_assign rfl rfl rfl ?_
          refine W_end ?_
          refine E_then ?_
          refine C_ret ?_
          obtain rfl := Option.some.inj hm
          refine E_drop (List.Sublist.cons _ (List.Sublist.cons _ (List.Sublist.cons _ (List.Sublist.refl _)))) ?_
          refine E_weak hle107 ?_
          exact end1 rfl rfl ⟨rfl, rfl, rfl⟩
        · have hm := ite_t' hb119 hm
          refine W_move rfl rfl rfl ?_
          refine W_buildSliceO (α := Int) (css := [[.int .i64 (0)]]) (zs := [.int .i64 (0)]) (out := [.int .i64 (0)]) (ys := [0]) rfl rfl rfl ⟨rfl, trivial⟩ Proofs.Tryd.runUnderlying52 Proofs.Tryd.sizeOf3 rfl Proofs.Tryd.zeroValue3 (by kernel_rfl) rfl rfl rfl rfl ⟨[.int .i64 (0)], [], rfl, rfl, rfl⟩ rfl ?_
          intro v120 xs121 hr122
          refine W_perm (List.Perm.trans (List.Perm.cons _ (List.Perm.cons _ (List.Perm.swap _ _ _))) (List.Perm.trans (List.Perm.cons _ (List.Perm.swap _ _ _)) (List.Perm.swap _ _ _))) ?_
          obtain ⟨r123, hc124, hm⟩ := bind_some hm
          refine W_call Proofs.Tryd.call23 rfl rfl rfl (fun w ht => by obtain ⟨H0_, hl0_, ht0_, hr0_, bk0_⟩ := ht.lendRow h115 rfl; obtain ⟨H1_, hl1_, ht1_, hr1_, bk1_⟩ := ht0_.lendRow (hr122.mono hl0_) rfl; have h := m_slices_Equal_int_int_c (hm := hc124) (hr0_.mono hl1_) hr1_ ht1_; exact lend_back bk0_ (lend_back bk1_ (h))) ?_
          rintro _ _ _ ⟨rfl, ⟨_, rfl, ⟨_, rfl, rfl, rfl⟩⟩⟩
          refine W_pick rfl rfl rfl rfl ?_
          refine W_assign rfl rfl rfl ?_
          refine W_end ?_
          refine E_then ?_
          refine C_ret ?_
          obtain rfl := Option.some.inj hm
          refine E_drop (List.Sublist.cons _ (List.Sublist.cons _ (List.Sublist.cons _ (List.Sublist.cons _ (List.Sublist.refl _))))) ?_
          refine E_weak hle107 ?_
          exact end1 rfl rfl ⟨rfl, rfl, rfl⟩

theorem m_gridhallkeep4_InterlockNot_c {B : Nat} {w0 w : World} {H : Hp} {M : List Res} {p0_r : S_api_InterlockRule} {states : (List S_api_InterlockState)} {v0 : Value} {v1 : Value} {r : Bool} (hm : m_gridhallkeep4_InterlockNot p0_r states = some r) (h0 : RdS H v0 p0_r.Cond) (h1 : RdS H v1 states) (ht : St B w0 H (M) w) :
    Calls Proofs.Tryd.prog 4 [.agg [.bool (p0_r.Close), .string (p0_r.Switch), v0].toArray, v1].toArray w (Ret B w0 fun H' M' v => H = H' ∧ M = M' ∧ .bool (r) = v) := by
  unfold m_gridhallkeep4_InterlockNot at hm
  refine enter Proofs.Tryd.func4 rfl rfl rfl ht ?_
  refine C_seq ?_
  refine C_region ?_
  refine W_box (cs := [.bool (p0_r.Close), .string (p0_r.Switch), v0]) rfl rfl rfl rfl (fun b101 => ?_)
  refine W_assign rfl rfl rfl ?_
  refine W_end ?_
  refine E_then ?_
  refine C_seq ?_
  refine C_region ?_
  refine W_loadAgg rfl rfl Proofs.Tryd.isAgg38 Proofs.Tryd.sizeOf38 rfl (own_all (List.mem_cons_self ..)) rfl ?_
  obtain ⟨r102, hc103, hm⟩ := bind_some hm
  refine W_call Proofs.Tryd.call16 rfl rfl rfl (fun w ht => by have h := m_gridhallkeep4_negated_c (hm := hc103) h0 ht; exact h) ?_
  rintro _ _ _ ⟨rfl, v104, xs105, rfl, rfl, h106⟩
  have h106 := h106 H
  refine W_alloc (cs := [.bool (false), .string (⟨#[]⟩), .slice none 0 0]) rfl rfl Proofs.Tryd.zeroValue38 rfl (fun b107 => ?_)
  refine W_store (cs := [.bool (r102.Close), .string (r102.Switch), v104]) (out := [.bool (r102.Close), .string (r102.Switch), v104]) rfl Proofs.Tryd.sizeOf38 rfl rfl rfl rfl rfl (all_cons rfl (all_cons rfl (all_cons (Rw.one h106) all_nil))) (over_all rfl) ?_
  refine W_end ?_
  refine E_then ?_
  refine C_seq ?_
  refine C_region ?_
  refine W_loadAgg rfl rfl Proofs.Tryd.isAgg38 Proofs.Tryd.sizeOf38 rfl (own_all (List.mem_cons_of_mem _ (List.mem_cons_of_mem _ (List.mem_cons_self ..)))) rfl ?_
  refine W_buildSliceO (α := S_api_InterlockRule) (css := [[.bool (p0_r.Close), .string (p0_r.Switch), v0]]) (zs := [.bool (false), .string (⟨#[]⟩), .slice none 0 0]) (out := [.bool (p0_r.Close), .string (p0_r.Switch), v0]) (ys := [p0_r]) rfl rfl rfl ⟨rfl, trivial⟩ Proofs.Tryd.runUnderlying44 Proofs.Tryd.sizeOf38 rfl Proofs.Tryd.zeroValue38 (by kernel_rfl) rfl rfl rfl rfl ⟨[.bool (p0_r.Close), .string (p0_r.Switch), v0], [], rfl, ⟨v0, rfl, h0⟩, rfl⟩ rfl ?_
  intro v108 xs109 hr110
  refine W_move rfl rfl rfl ?_
  refine W_field (o := 0) rfl rfl Proofs.Tryd.runUnderlying38 rfl Proofs.Tryd.sizeOf4 rfl rfl rfl ?_
  refine W_load rfl rfl Proofs.Tryd.isAgg4 rfl (own_at (List.mem_cons_of_mem _ (List.mem_cons_of_mem _ (List.mem_cons_of_mem _ (List.mem_cons_self ..)))) rfl) ?_
  refine W_field (o := 1) rfl rfl Proofs.Tryd.runUnderlying38 rfl Proofs.Tryd.sizeOf9 rfl rfl rfl ?_
  refine W_load rfl rfl Proofs.Tryd.isAgg9 rfl (own_at (List.mem_cons_of_mem _ (List.mem_cons_of_mem _ (List.mem_cons_of_mem _ (List.mem_cons_self ..)))) rfl) ?_
  obtain ⟨r111, hc112, hm⟩ := bind_some hm
  refine W_call Proofs.Tryd.call17 rfl rfl rfl (fun w ht => by obtain ⟨H0_, hl0_, ht0_, hr0_, bk0_⟩ := ht.lendRow hr110 rfl; have h := m_interlock_Permitted_c (hm := hc112) hr0_ (h1.mono hl0_) ht0_; exact lend_back bk0_ (h)) ?_
  rintro _ _ _ ⟨rfl, ⟨_, rfl, rfl, rfl⟩⟩
  refine W_move rfl rfl rfl ?_
  refine W_extract rfl rfl rfl rfl ?_
  refine W_extract rfl rfl rfl rfl ?_
  refine W_assign rfl rfl rfl ?_
  refine W_assign rfl rfl rfl ?_
  refine W_end ?_
  refine E_then ?_
  refine C_seq ?_
  refine C_region ?_
  refine W_loadAgg rfl rfl Proofs.Tryd.isAgg38 Proofs.Tryd.sizeOf38 rfl (own_all (List.mem_cons_of_mem _ (List.mem_cons_self ..))) rfl ?_
  refine W_perm (List.Perm.trans (List.Perm.cons _ (List.Perm.swap _ _ _)) (List.Perm.swap _ _ _)) ?_
  refine W_freeze (h106).rd rfl (fun H113 hle114 h115 => ?_)
  refine W_buildSliceO (α := S_api_InterlockRule) (css := [[.bool (r102.Close), .string (r102.Switch), v104]]) (zs := [.bool (false), .string (⟨#[]⟩), .slice none 0 0]) (out := [.bool (r102.Close), .string (r102.Switch), v104]) (ys := [r102]) rfl rfl rfl ⟨rfl, trivial⟩ Proofs.Tryd.runUnderlying44 Proofs.Tryd.sizeOf38 rfl Proofs.Tryd.zeroValue38 (by kernel_rfl) rfl rfl rfl rfl ⟨[.bool (r102.Close), .string (r102.Switch), v104], [], rfl, ⟨v104, rfl, h115⟩, rfl⟩ rfl ?_
  intro v116 xs117 hr118
  refine W_move rfl rfl rfl ?_
  refine W_field (o := 0) rfl rfl Proofs.Tryd.runUnderlying38 rfl Proofs.Tryd.sizeOf4 rfl rfl rfl ?_
  refine W_load rfl rfl Proofs.Tryd.isAgg4 rfl (own_at (List.mem_cons_of_mem _ (List.mem_cons_of_mem _ (List.mem_cons_of_mem _ (List.mem_cons_self ..)))) rfl) ?_
  refine W_field (o := 1) rfl rfl Proofs.Tryd.runUnderlying38 rfl Proofs.Tryd.sizeOf9 rfl rfl rfl ?_
  refine W_load rfl rfl Proofs.Tryd.isAgg9 rfl (own_at (List.mem_cons_of_mem _ (List.mem_cons_of_mem _ (List.mem_cons_of_mem _ (List.mem_cons_self ..)))) rfl) ?_
  obtain ⟨r119, hc120, hm⟩ := bind_some hm
  refine W_call Proofs.Tryd.call17 rfl rfl rfl (fun w ht => by obtain ⟨H0_, hl0_, ht0_, hr0_, bk0_⟩ := ht.lendRow hr118 rfl; have h := m_interlock_Permitted_c (hm := hc120) hr0_ ((h1.mono hle114).mono hl0_) ht0_; exact lend_back bk0_ (h)) ?_
  rintro _ _ _ ⟨rfl, ⟨_, rfl, rfl, rfl⟩⟩
  refine W_move rfl rfl rfl ?_
  refine W_extract rfl rfl rfl rfl ?_
  refine W_extract rfl rfl rfl rfl ?_
  refine W_assign rfl rfl rfl ?_
  refine W_assign rfl rfl rfl ?_
  refine W_end ?_
  refine E_then ?_
  refine C_seq ?_
  refine C_seq_join (fun H' M' L' => H113 = H' ∧ M = M' ∧ [(6, .bool (r111.1)), (8, .bool (r119.1)), (39, .bool ((!decide (r111.2 = 0)) || (!decide (r119.2 = 0))))] = L') ?_ (fun J122 => ?_)
  · rintro _ _ _ ⟨rfl, rfl, rfl⟩
    refine C_cond (b := (!decide (r111.2 = 0)) || (!decide (r119.2 = 0))) rfl (fun hb123 => ?_) (fun hb123 => ?_)
    · have hm := ite_t' hb123 hm
      obtain ⟨r128, hc129, hm⟩ := bind_some hm
      refine C_seq_join (fun H' M' L' => H113 = H' ∧ M = M' ∧ [(4, .bool (r128 && (!(r111.1 && r119.1))))] = L') ?_ (fun J130 => ?_)
      · rintro _ _ _ ⟨rfl, rfl, rfl⟩
        refine C_ret ?_
        refine E_ret_then ?_
        obtain rfl := Option.some.inj hm
        refine E_weak hle114 ?_
        exact end1 rfl rfl ⟨rfl, rfl, rfl⟩
      · refine C_region ?_
        refine W_call Proofs.Tryd.call18 rfl rfl rfl (fun w ht => by have h := m_gridhallkeep4_interlockFact_c (hm := hc129)  ht; exact h) ?_
        rintro _ _ _ ⟨rfl, rfl, rfl⟩
        refine W_move rfl rfl rfl ?_
        cases hb131 : (r128)
        · refine W_no rfl rfl rfl ?_
          refine W_no rfl rfl rfl ?_
          refine W_no rfl rfl rfl ?_
          refine W_no rfl rfl rfl ?_
          refine W_no rfl rfl rfl ?_
          refine W_pick rfl rfl rfl rfl ?_
          refine W_assign rfl rfl rfl ?_
          refine W_end ?_
          exact E_keepJ (J130 _ _ _ ⟨rfl, rfl, rfl⟩) (List.Perm.refl _) ⟨(by show some (Value.bool (false)) = some (Value.bool (r128 && (!(r111.1 && r119.1)))); simp only [hb123, hb131, Bool.and_true, Bool.true_and, Bool.false_and, Bool.and_false, Bool.or_true, Bool.true_or, Bool.or_false, Bool.false_or, Bool.not_true, Bool.not_false]), trivial⟩
        · refine W_move rfl rfl rfl ?_
          refine W_move rfl rfl rfl ?_
          cases hb132 : (r111.1)
          · refine W_no rfl rfl rfl ?_
            refine W_pick rfl rfl rfl rfl ?_
            refine W_un rfl rfl rfl rfl ?_
            refine W_pick rfl rfl rfl rfl ?_
            refine W_assign rfl rfl rfl ?_
            refine W_end ?_
            exact E_keepJ (J130 _ _ _ ⟨rfl, rfl, rfl⟩) (List.Perm.refl _) ⟨(by show some (Value.bool (true)) = some (Value.bool (r128 && (!(r111.1 && r119.1)))); simp only [hb123, hb131, hb132, Bool.and_true, Bool.true_and, Bool.false_and, Bool.and_false, Bool.or_true, Bool.true_or, Bool.or_false, Bool.false_or, Bool.not_true, Bool.not_false]), trivial⟩
          · refine W_move rfl rfl rfl ?_
            refine W_pick rfl rfl rfl rfl ?_
            refine W_un rfl rfl rfl rfl ?_
            refine W_pick rfl rfl rfl rfl ?_
            refine W_assign rfl rfl rfl ?_
            refine W_end ?_
            exact E_keepJ (J130 _ _ _ ⟨rfl, rfl, rfl⟩) (List.Perm.refl _) ⟨(by show some (Value.bool (!r119.1)) = some (Value.bool (r128 && (!(r111.1 && r119.1)))); simp only [hb123, hb131, hb132, Bool.and_true, Bool.true_and, Bool.false_and, Bool.and_false, Bool.or_true, Bool.true_or, Bool.or_false, Bool.false_or, Bool.not_true, Bool.not_false]), trivial⟩
    · have hm := ite_f' hb123 hm
      refine C_skip ?_
      refine E_then ?_
      obtain ⟨r136, hc137, hm⟩ := bind_some hm
      refine C_seq_join (fun H' M' L' => H113 = H' ∧ M = M' ∧ [(4, .bool (r136 && (!decide (r111.1 = r119.1))))] = L') ?_ (fun J138 => ?_)
      · rintro _ _ _ ⟨rfl, rfl, rfl⟩
        refine C_ret ?_
        obtain rfl := Option.some.inj hm
        refine E_weak hle114 ?_
        exact end1 rfl rfl ⟨rfl, rfl, rfl⟩
      · refine C_region ?_
        refine W_call Proofs.Tryd.call18 rfl rfl rfl (fun w ht => by have h := m_gridhallkeep4_interlockFact_c (hm := hc137)  ht; exact h) ?_
        rintro _ _ _ ⟨rfl, rfl, rfl⟩
        refine W_move rfl rfl rfl ?_
        cases hb139 : (r136)
        · refine W_no rfl rfl rfl ?_
          refine W_no rfl rfl rfl ?_
          refine W_no rfl rfl rfl ?_
          refine W_pick rfl rfl rfl rfl ?_
          refine W_assign rfl rfl rfl ?_
          refine W_end ?_
          exact E_keepJ (J138 _ _ _ ⟨rfl, rfl, rfl⟩) (List.Perm.refl _) ⟨(by show some (Value.bool (false)) = some (Value.bool (r136 && (!decide (r111.1 = r119.1)))); simp only [hb123, hb139, Bool.and_true, Bool.true_and, Bool.false_and, Bool.and_false, Bool.or_true, Bool.true_or, Bool.or_false, Bool.false_or, Bool.not_true, Bool.not_false]), trivial⟩
        · refine W_move rfl rfl rfl ?_
          refine W_move rfl rfl rfl ?_
          refine W_neBool rfl rfl Proofs.Tryd.runUnderlying4 rfl rfl ?_
          refine W_pick rfl rfl rfl rfl ?_
          refine W_assign rfl rfl rfl ?_
          refine W_end ?_
          exact E_keepJ (J138 _ _ _ ⟨rfl, rfl, rfl⟩) (List.Perm.refl _) ⟨(by show some (Value.bool (!decide (r111.1 = r119.1))) = some (Value.bool (r136 && (!decide (r111.1 = r119.1)))); simp only [hb123, hb139, Bool.and_true, Bool.true_and, Bool.false_and, Bool.and_false, Bool.or_true, Bool.true_or, Bool.or_false, Bool.false_or, Bool.not_true, Bool.not_false]), trivial⟩
  · refine C_region ?_
    refine W_move rfl rfl rfl ?_
    refine W_bin rfl rfl rfl rfl rfl ?_
    refine W_move rfl rfl rfl ?_
    cases hb140 : (decide (r111.2 = 0))
    · refine W_no rfl rfl rfl ?_
      refine W_no rfl rfl rfl ?_
      refine W_pick rfl rfl rfl rfl ?_
      refine W_end ?_
      refine E_drop (List.Sublist.cons _ (List.Sublist.cons _ (List.Sublist.cons _ (List.Sublist.cons _ (List.Sublist.refl _))))) ?_
      exact E_keepJ (J122 _ _ _ ⟨rfl, rfl, rfl⟩) (List.Perm.refl _) ⟨rfl, rfl, (by show some (Value.bool (true)) = some (Value.bool ((!decide (r111.2 = 0)) || (!decide (r119.2 = 0)))); simp only [hb140, Bool.and_true, Bool.true_and, Bool.false_and, Bool.and_false, Bool.or_true, Bool.true_or, Bool.or_false, Bool.false_or, Bool.not_true, Bool.not_false]), trivial⟩
    · refine W_move rfl rfl rfl ?_
      refine W_bin rfl rfl rfl rfl rfl ?_
      refine W_pick rfl rfl rfl rfl ?_
      refine W_end ?_
      refine E_drop (List.Sublist.cons _ (List.Sublist.cons _ (List.Sublist.cons _ (List.Sublist.cons _ (List.Sublist.refl _))))) ?_
      exact E_keepJ (J122 _ _ _ ⟨rfl, rfl, rfl⟩) (List.Perm.refl _) ⟨rfl, rfl, (by show some (Value.bool (!decide (r119.2 = 0))) = some (Value.bool ((!decide (r111.2 = 0)) || (!decide (r119.2 = 0)))); simp only [hb140, Bool.and_true, Bool.true_and, Bool.false_and, Bool.and_false, Bool.or_true, Bool.true_or, Bool.or_false, Bool.false_or, Bool.not_true, Bool.not_false]), trivial⟩

theorem clone35_c {B : Nat} {w0 w : World} {H : Hp} {M : List Res} {s : List S_api_InterlockState} {v0 : Value} (h0 : RdS H v0 s) (hz : s.length * 24 ≤ 140737488355328) (ht : St B w0 H M w) :
    Calls Proofs.Tryd.prog 35 [v0].toArray w (Ret B w0 fun H' M' v => H = H' ∧ ∃ (v' : Value) (xs' : List Value), .row v' 49 (Rep.sz S_api_InterlockState) s.length xs' :: M = M' ∧ v' = v ∧ RwF v' xs' s) := by
  refine enter Proofs.Tryd.func35 rfl rfl rfl ht ?_
  obtain ⟨o, n, c, rfl⟩ := h0.shape
  refine C_seq ?_
  refine C_region ?_
  refine W_assign rfl rfl rfl ?_
  refine W_end (E_then ?_)
  refine C_seq ?_
  refine C_seq ?_
  refine C_region ?_
  refine W_move rfl rfl rfl ?_
  refine W_eqNil rfl rfl Proofs.Tryd.runUnderlying39 rfl rfl ?_
  refine W_end (E_then ?_)
  cases o with
  | none =>
    refine C_cond (b := true) rfl (fun _ => ?_) (fun hb => Bool.noConfusion hb)
    obtain rfl := h0.isNil
    refine C_seq ?_
    refine C_region ?_
    refine W_assign rfl rfl rfl ?_
    refine W_end (E_then ?_)
    refine C_ret (E_ret_then ?_)
    refine E_nilRow 49 (Rep.sz S_api_InterlockState) ?_
    exact end1 rfl rfl ⟨rfl, .slice none 0 0, [], rfl, rfl, (Rw.nil (H := H)).toF⟩
  | some a =>
    refine C_cond (b := false) rfl (fun hb => Bool.noConfusion hb) (fun _ => ?_)
    refine C_skip (E_then ?_)
    refine C_seq ?_
    refine C_region ?_
    refine W_build0 S_api_InterlockState rfl rfl Proofs.Tryd.runUnderlying39 Proofs.Tryd.sizeOf49 ?_
    intro v1 xs1 h1
    refine W_move rfl rfl rfl ?_
    refine W_appendO (α := S_api_InterlockState) (l := []) (ys := s) (bytes := 24) rfl rfl Proofs.Tryd.underlying39 ⟨_, rfl, rfl, rfl, rfl⟩ rfl rfl rfl rfl rfl h1 h0 (by simpa using hz) ?_
    intro v2 xs2 h2
    refine W_assign rfl rfl rfl ?_
    refine W_end (E_then ?_)
    refine C_ret ?_
    exact end1 rfl rfl ⟨rfl, v2, xs2, rfl, rfl, h2.toF⟩

theorem m_interlock_Set_c {B : Nat} {w0 w : World} {H : Hp} {M : List Res} {states : (List S_api_InterlockState)} {closing : Bool} {name : ByteArray} {v0 : Value} {r : (List S_api_InterlockState) × Int} (hm : m_interlock_Set states closing name = some r) (h0 : RdS H v0 states) (ht : St B w0 H (M) w) :
    Calls Proofs.Tryd.prog 19 [v0, .bool (closing), .string (name)].toArray w (Ret B w0 fun H' M' v => H = H' ∧ ∃ qv0 : Value, ∃ qxs0 : List Value, .row qv0 49 (Rep.sz S_api_InterlockState) r.1.length qxs0 :: M = M' ∧ .tuple #[qv0, .int .i64 (r.2)] = v ∧ RwF qv0 qxs0 r.1) := by
  unfold m_interlock_Set at hm
  refine enter Proofs.Tryd.func19 rfl rfl rfl ht ?_
  refine C_seq ?_
  refine C_region ?_
  refine W_assign rfl rfl rfl ?_
  refine W_assign rfl rfl rfl ?_
  refine W_end ?_
  refine E_then ?_
  refine C_seq ?_
  refine C_seq ?_
  refine C_region ?_
  refine W_move rfl rfl rfl ?_
  obtain ⟨r101, hc102, hm⟩ := bind_some hm
  refine W_call Proofs.Tryd.call33 rfl rfl rfl (fun w ht => by have h := m_interlock_CheckStates_c (hm := hc102) h0 ht; exact h) ?_
  rintro _ _ _ ⟨rfl, rfl, rfl⟩
  refine W_assign rfl rfl rfl ?_
  refine W_end ?_
  refine E_then ?_
  refine C_seq ?_
  refine C_region ?_
  refine W_move rfl rfl rfl ?_
  refine W_bin rfl rfl rfl rfl rfl ?_
  refine W_end ?_
  refine E_then ?_
  refine C_cond (b := !decide (r101 = 0)) rfl (fun hb103 => ?_) (fun hb103 => ?_)
  · have hm := ite_t' hb103 hm
    refine C_seq ?_
    refine C_region ?_
    refine W_move rfl rfl rfl ?_
    refine W_assign rfl rfl rfl ?_
    refine W_assign rfl rfl rfl ?_
    refine W_end ?_
    refine E_then ?_
    refine C_ret ?_
    refine E_ret_then ?_
    refine E_nilRow 49 (Rep.sz S_api_InterlockState) ?_
    obtain rfl := Option.some.inj hm
    refine E_weak (Hp.le_refl _) ?_
    exact end2 rfl rfl rfl ⟨rfl, (.slice none 0 0), [], rfl, rfl, (Rw.nil (H := H)).toF⟩
  · have hm := ite_f' hb103 hm
    refine C_skip ?_
    refine E_then ?_
    refine C_seq ?_
    refine C_region ?_
    refine W_move rfl rfl rfl ?_
    refine W_move rfl rfl rfl ?_
    obtain ⟨r104, hc105, hm⟩ := bind_some hm
    refine W_call Proofs.Tryd.call34 rfl rfl rfl (fun w ht => by have h := m_interlock_index_c (hm := hc105) h0 ht; exact h) ?_
    rintro _ _ _ ⟨rfl, rfl, rfl⟩
    refine W_assign rfl rfl rfl ?_
    refine W_end ?_
    refine E_then ?_
    refine C_seq ?_
    refine C_block ?_
    refine C_seq ?_
    refine C_region ?_
    refine W_move rfl rfl rfl ?_
    refine W_bin rfl rfl rfl rfl rfl ?_
    refine W_assign rfl rfl rfl ?_
    refine W_end ?_
    refine E_then ?_
    refine C_cond (b := decide (r104 < 0)) rfl (fun hb106 => ?_) (fun hb106 => ?_)
    · have hm := ite_t' hb106 hm
      refine C_seq ?_
      refine C_region ?_
      refine W_assign rfl rfl rfl ?_
      refine W_assign rfl rfl rfl ?_
      refine W_end ?_
      refine E_then ?_
      refine C_ret ?_
      refine E_ret_block ?_
      refine E_ret_then ?_
      refine E_nilRow 49 (Rep.sz S_api_InterlockState) ?_
      obtain rfl := Option.some.inj hm
      refine E_weak (Hp.le_refl _) ?_
      exact end2 rfl rfl rfl ⟨rfl, (.slice none 0 0), [], rfl, rfl, (Rw.nil (H := H)).toF⟩
    · have hm := ite_f' hb106 hm
      refine C_seq ?_
      refine C_region ?_
      refine W_move rfl rfl rfl ?_
      refine W_move rfl rfl rfl ?_
      obtain ⟨y107, h108, he109, hm⟩ := idx_some hm
      obtain ⟨_, ⟨rfl⟩, hc110⟩ := (h0).elem he109
      refine W_indexS rfl rfl Proofs.Tryd.runUnderlying39 Proofs.Tryd.sizeOf49 rfl h0 rfl h108 he109 ?_
      refine W_field (o := 1) rfl rfl Proofs.Tryd.runUnderlying49 rfl Proofs.Tryd.sizeOf4 rfl rfl rfl ?_
      refine W_load rfl rfl Proofs.Tryd.isAgg4 rfl (HCells.one hc110 1 rfl).at ?_
      refine W_move rfl rfl rfl ?_
      refine W_eqBool rfl rfl Proofs.Tryd.runUnderlying4 rfl rfl ?_
      refine W_assign rfl rfl rfl ?_
      refine W_end ?_
      refine E_then ?_
      refine C_cond (b := decide (y107.Closed = closing)) rfl (fun hb111 => ?_) (fun hb111 => ?_)
      · have hm := ite_t' hb111 hm
        refine C_seq ?_
        refine C_region ?_
        refine W_assign rfl rfl rfl ?_
        refine W_assign rfl rfl rfl ?_
        refine W_end ?_
        refine E_then ?_
        refine C_ret ?_
        refine E_ret_block ?_
        refine E_ret_then ?_
        refine E_nilRow 49 (Rep.sz S_api_InterlockState) ?_
        obtain rfl := Option.some.inj hm
        refine E_weak (Hp.le_refl _) ?_
        exact end2 rfl rfl rfl ⟨rfl, (.slice none 0 0), [], rfl, rfl, (Rw.nil (H := H)).toF⟩
      · have hm := ite_f' hb111 hm
        refine C_skip ?_
        refine E_normal_block ?_
        refine E_then ?_
        refine C_seq ?_
        refine C_region ?_
        refine W_move rfl rfl rfl ?_
        obtain ⟨hz112, hm⟩ := need_some hm
        refine W_call Proofs.Tryd.call35 rfl rfl rfl (fun w ht => by have h := clone35_c (s := states) h0 hz112 ht; exact h) ?_
        rintro _ _ _ ⟨rfl, v113, xs114, rfl, rfl, hr115⟩
        have hr115 := hr115 H
        refine W_assign rfl rfl rfl ?_
        refine W_end ?_
        refine E_then ?_
        refine C_seq ?_
        refine C_region ?_
        refine W_move rfl rfl rfl ?_
        refine W_move rfl rfl rfl ?_
        refine W_move rfl rfl rfl ?_
        obtain ⟨y116, h117, he118, hm⟩ := idx_some hm
        refine W_indexO (List.mem_cons_self ..) rfl rfl Proofs.Tryd.runUnderlying39 Proofs.Tryd.sizeOf49 rfl rfl h117 (List.getElem?_eq_some_iff.1 he118).1 ?_
        obtain ⟨_, rfl, hg119⟩ := (hr115).elem he118
        refine W_field (o := 1) rfl rfl Proofs.Tryd.runUnderlying49 rfl Proofs.Tryd.sizeOf4 rfl rfl rfl ?_
        obtain ⟨hr120, he121, hg122⟩ := Rw.put (cs := [.bool (closing)]) (o := 1) (c := [.string (y116.Name), .bool (y116.Closed)]) (out := [.string (y116.Name), .bool (closing)]) (e2 := (S_api_InterlockState.mk y116.Name closing)) hr115 he118 rfl hg119 rfl rfl rfl
        refine W_storeO2 (i := (r104 : Int).toNat * Rep.sz S_api_InterlockState + 1) (cs := [.bool (closing)]) rfl Proofs.Tryd.sizeOf4 rfl (row_ad _ _ _) rfl rfl rfl (Rw.room hr115 he118 rfl) rfl (all_cons rfl all_nil) (n' := (states.set ((r104 : Int).toNat) (S_api_InterlockState.mk y116.Name closing)).length) List.length_set ?_
        generalize over xs114 ((r104 : Int).toNat * Rep.sz S_api_InterlockState + 1) [.bool (closing)] = xs123 at hr120 hg122 ⊢
        refine W_end ?_
        refine E_then ?_
        refine C_seq ?_
        refine C_region ?_
        refine W_move rfl rfl rfl ?_
        refine W_assign rfl rfl rfl ?_
        refine W_assign rfl rfl rfl ?_
        refine W_end ?_
        refine E_then ?_
        refine C_ret ?_
        obtain rfl := Option.some.inj hm
        refine E_weak (Hp.le_refl _) ?_
        exact end2 rfl rfl rfl ⟨rfl, v113, xs123, rfl, rfl, (hr120).toF⟩

theorem m_slices_Equal_api_InterlockState_api_InterlockState_c {B : Nat} {w0 w : World} {H : Hp} {M : List Res} {p0_s1 : (List S_api_InterlockState)} {p1_s2 : (List S_api_InterlockState)} {v0 : Value} {v1 : Value} {r : Bool} (hm : m_slices_Equal_api_InterlockState_api_InterlockState p0_s1 p1_s2 = some r) (h0 : RdS H v0 p0_s1) (h1 : RdS H v1 p1_s2) (ht : St B w0 H (M) w) :
    Calls Proofs.Tryd.prog 20 [v0, v1].toArray w (Ret B w0 fun H' M' v => H = H' ∧ M = M' ∧ .bool (r) = v) := by
  unfold m_slices_Equal_api_InterlockState_api_InterlockState at hm
  refine enter Proofs.Tryd.func20 rfl rfl rfl ht ?_
  refine C_seq ?_
  refine C_region ?_
  refine W_assign rfl rfl rfl ?_
  refine W_end ?_
  refine E_then ?_
  refine C_seq ?_
  refine C_seq ?_
  refine C_region ?_
  refine W_move rfl rfl rfl ?_
  refine W_lenR rfl rfl Proofs.Tryd.runUnderlying39 rfl h0 ?_
  refine W_move rfl rfl rfl ?_
  refine W_lenR rfl rfl Proofs.Tryd.runUnderlying39 rfl h1 ?_
  refine W_bin rfl rfl rfl rfl rfl ?_
  refine W_end ?_
  refine E_then ?_
  refine C_cond (b := !decide ((p0_s1.length : Int) = (p1_s2.length : Int))) rfl (fun hb101 => ?_) (fun hb101 => ?_)
  · have hm := ite_t' hb101 hm
    refine C_seq ?_
    refine C_region ?_
    refine W_assign rfl rfl rfl ?_
    refine W_end ?_
    refine E_then ?_
    refine C_ret ?_
    refine E_ret_then ?_
    obtain rfl := Option.some.inj hm
    refine E_weak (Hp.le_refl _) ?_
    exact end1 rfl rfl ⟨rfl, rfl, rfl⟩
  · have hm := ite_f' hb101 hm
    refine C_skip ?_
    refine E_then ?_
    refine C_seq ?_
    refine C_seq ?_
    refine C_region ?_
    refine W_move rfl rfl rfl ?_
    refine W_lenR rfl rfl Proofs.Tryd.runUnderlying39 rfl h0 ?_
    refine W_move rfl rfl rfl ?_
    refine W_end ?_
    refine E_then ?_
    refine C_block ?_
    refine C_keep (L' := [(0, v0), (1, v1), (12, .int .i64 ((p0_s1.length : Int))), (13, .int .i64 (((0 : Nat) : Int)))]) ⟨rfl, rfl, rfl, rfl, trivial⟩ (List.Perm.refl _) ?_
    refine C_loop (fun n H' M' L' => ∃ (k102 : Nat) (zs136' : Nat), k102 + zs136' = ((p0_s1.length : Int) : Int).toNat ∧ zs136' = n ∧ forN (fun k s131 n => m_slices_Equal_api_InterlockState_api_InterlockState_b1 p0_s1 p1_s2 k n) (fun _ => some true) zs136' k102 () = some r ∧ H.le H' ∧ M = M' ∧ [(0, v0), (1, v1), (12, .int .i64 ((p0_s1.length : Int))), (13, .int .i64 ((k102 : Int)))] = L') _ ⟨0, _, Nat.zero_add _, rfl, hm, (Hp.le_refl _), rfl, rfl⟩ ?_
    rintro _ H129 _ _ ⟨k102, zs136', hd138, rfl, hm, hle130, rfl, rfl⟩
    refine C_seq ?_
    refine C_region ?_
    refine W_bin rfl rfl rfl rfl rfl ?_
    refine W_end (E_then ?_)
    refine C_seq ?_
    refine C_cond (b := decide ((k102 : Int) < (p0_s1.length : Int))) rfl (fun hb140 => ?_) (fun hb140 => ?_)
    · obtain ⟨zs136, rfl, hd139, hy137⟩ := rngN_t hd138 hb140
      have hm : m_slices_Equal_api_InterlockState_api_InterlockState_b1 p0_s1 p1_s2 k102 (forN (fun k s131 n => m_slices_Equal_api_InterlockState_api_InterlockState_b1 p0_s1 p1_s2 k n) (fun _ => some true) zs136 (k102 + 1)) = some r := hm
      generalize hn133 : forN (fun k s131 n => m_slices_Equal_api_InterlockState_api_InterlockState_b1 p0_s1 p1_s2 k n) (fun _ => some true) zs136 (k102 + 1) = nx132 at hm
      unfold m_slices_Equal_api_InterlockState_api_InterlockState_b1 at hm
      refine C_skip (E_then ?_)
      refine C_seq ?_
      refine C_block ?_
      refine C_seq ?_
      refine C_region ?_
      refine W_move rfl rfl rfl ?_
      refine W_assign rfl rfl rfl ?_
      refine W_end ?_
      refine E_then ?_
      refine C_seq ?_
      obtain ⟨y141, h142, he143, hm⟩ := idx_some hm
      obtain ⟨_, ⟨rfl⟩, hc144⟩ := (h0).elem he143
      obtain ⟨y145, h146, he147, hm⟩ := idx_some hm
      obtain ⟨_, ⟨rfl⟩, hc148⟩ := (h1).elem he147
      refine C_region_tok0 8 (phiT [(fun H rs v => [] = rs ∧ v0 = v), (fun H rs v => [] = rs ∧ .int .i64 ((k102 : Int)) = v), (fun H rs v => [] = rs ∧ .pointer (some ((Value.base (v0)).add (((k102 : Int) : Int).toNat * 2))) = v), (fun H rs v => [] = rs ∧ .agg [.string (y141.Name), .bool (y141.Closed)].toArray = v), (fun H rs v => [] = rs ∧ v1 = v), (fun H rs v => [] = rs ∧ .int .i64 ((k102 : Int)) = v), (fun H rs v => [] = rs ∧ .pointer (some ((Value.base (v1)).add (((k102 : Int) : Int).toNat * 2))) = v), (fun H rs v => [] = rs ∧ .agg [.string (y145.Name), .bool (y145.Closed)].toArray = v)]) [[], [], [], [], [], [], [], []] [[], [], [], [], [], [], [], []] [] [0, 1, 2, 3, 4, 5, 6, 7] Facts.mixed (by kernel_rfl) rfl rfl rfl (by kernel_rfl) (phiT_mono ⟨eq_monoT _ _, eq_monoT _ _, eq_monoT _ _, eq_monoT _ _, eq_monoT _ _, eq_monoT _ _, eq_monoT _ _, eq_monoT _ _, trivial⟩) ⟨?_, ?_, ?_, ?_, ?_, ?_, ?_, ?_, trivial⟩ ?_
      · intro HX hX X Rest hR
        intro hU hUp
        refine W_move rfl rfl rfl ?_
        exact W_end (OneT_end [] (Hp.le_refl _) ⟨rfl, rfl⟩)
      · intro HX hX X Rest hR
        intro hU hUp
        refine W_move rfl rfl rfl ?_
        exact W_end (OneT_end [] (Hp.le_refl _) ⟨rfl, rfl⟩)
      · intro HX hX X Rest hR
        rintro _ _ ⟨rfl, rfl⟩
        rintro _ _ ⟨rfl, rfl⟩
        intro hU hUp
        refine W_indexS rfl rfl Proofs.Tryd.runUnderlying39 Proofs.Tryd.sizeOf49 rfl ((h0.mono hle130).mono hX) rfl h142 he143 ?_
        exact W_end (OneT_end [] (Hp.le_refl _) ⟨rfl, rfl⟩)
      · intro HX hX X Rest hR
        rintro _ _ ⟨rfl, rfl⟩
        intro hU hUp
        refine W_loadAgg rfl rfl Proofs.Tryd.isAgg49 Proofs.Tryd.sizeOf49 rfl ((hc144.mono hle130).mono hX).at rfl ?_
        exact W_end (OneT_end [] (Hp.le_refl _) ⟨rfl, rfl⟩)
      · intro HX hX X Rest hR
        intro hU hUp
        refine W_move rfl rfl rfl ?_
        exact W_end (OneT_end [] (Hp.le_refl _) ⟨rfl, rfl⟩)
      · intro HX hX X Rest hR
        intro hU hUp
        refine W_move rfl rfl rfl ?_
        exact W_end (OneT_end [] (Hp.le_refl _) ⟨rfl, rfl⟩)
      · intro HX hX X Rest hR
        rintro _ _ ⟨rfl, rfl⟩
        rintro _ _ ⟨rfl, rfl⟩
        intro hU hUp
        refine W_indexS rfl rfl Proofs.Tryd.runUnderlying39 Proofs.Tryd.sizeOf49 rfl ((h1.mono hle130).mono hX) rfl h146 he147 ?_
        exact W_end (OneT_end [] (Hp.le_refl _) ⟨rfl, rfl⟩)
      · intro HX hX X Rest hR
        rintro _ _ ⟨rfl, rfl⟩
        intro hU hUp
        refine W_loadAgg rfl rfl Proofs.Tryd.isAgg49 Proofs.Tryd.sizeOf49 rfl ((hc148.mono hle130).mono hX).at rfl ?_
        exact W_end (OneT_end [] (Hp.le_refl _) ⟨rfl, rfl⟩)
      intro H149 hle150
      rintro _ _ ⟨rfl, rfl⟩
      rintro _ _ ⟨rfl, rfl⟩
      rintro _ _ ⟨rfl, rfl⟩
      rintro _ _ ⟨rfl, rfl⟩
      rintro _ _ ⟨rfl, rfl⟩
      rintro _ _ ⟨rfl, rfl⟩
      rintro _ _ ⟨rfl, rfl⟩
      rintro _ _ ⟨rfl, rfl⟩
      refine W_neAgg (b := decide (y141.Name = y145.Name) && (decide (y141.Closed = y145.Closed) && true)) rfl rfl (by kernel_rfl) rfl rfl (fun w => run_equal_struct (bs := [decide (y141.Name = y145.Name), decide (y141.Closed = y145.Closed)]) Proofs.Tryd.runUnderlying49 (by kernel_rfl) ⟨(by decide), (fldEq_str Proofs.Tryd.isAgg9 Proofs.Tryd.runUnderlying9 rfl rfl), (by decide), (fldEq_bool Proofs.Tryd.isAgg4 Proofs.Tryd.runUnderlying4 rfl rfl), trivial⟩) ?_
      refine W_end ?_
      refine E_then ?_
      refine C_cond (b := !(decide (y141.Name = y145.Name) && (decide (y141.Closed = y145.Closed) && true))) rfl (fun hb151 => ?_) (fun hb151 => ?_)
      · have hm := ite_t' hb151 hm
        refine C_seq ?_
        refine C_region ?_
        refine W_assign rfl rfl rfl ?_
        refine W_end ?_
        refine E_then ?_
        refine C_ret ?_
        refine E_ret_block ?_
        refine E_ret_then ?_
        refine E_ret_then ?_
        refine E_ret_block ?_
        refine E_ret_then ?_
        obtain rfl := Option.some.inj hm
        refine E_weak (Hp.le_trans hle130 hle150) ?_
        exact end1 rfl rfl ⟨rfl, rfl, rfl⟩
      · have hm := ite_f' hb151 hm
        refine C_skip ?_
        refine E_normal_block ?_
        refine E_then ?_
        refine C_region ?_
        refine W_bin rfl rfl rfl rfl rfl ?_
        refine W_move rfl rfl rfl ?_
        refine W_end ?_
        exact E_keepJ (E_back (Nat.lt_succ_self _) ⟨k102 + 1, zs136, hd139, rfl, (by rw [hn133]; exact hm), (Hp.le_trans hle130 hle150), rfl, rfl⟩) (List.Perm.refl _) ⟨rfl, rfl, rfl, (congrArg (fun z => some (Value.int .i64 z)) (i64_succN hy137 (toNat_max (len_max (h0).lenMax)))), trivial⟩
    · obtain rfl := rngN_f hd138 hb140
      have hm : (some true) = some r := hm
      refine C_exit (E_exit_then ?_)
      refine E_exit_then ?_
      refine E_exit_hit ?_
      refine E_then ?_
      refine C_seq ?_
      refine C_region ?_
      refine W_assign rfl rfl rfl ?_
      refine W_end ?_
      refine E_then ?_
      refine C_ret ?_
      obtain rfl := Option.some.inj hm
      refine E_weak hle130 ?_
      exact end1 rfl rfl ⟨rfl, rfl, rfl⟩

theorem m_gridhallkeep4_InterlockSets_c {B : Nat} {w0 w : World} {H : Hp} {M : List Res} {states : (List S_api_InterlockState)} {closing : Bool} {name : ByteArray} {v0 : Value} {r : Bool} (hm : m_gridhallkeep4_InterlockSets states closing name = some r) (h0 : RdS H v0 states) (ht : St B w0 H (M) w) :
    Calls Proofs.Tryd.prog 5 [v0, .bool (closing), .string (name)].toArray w (Ret B w0 fun H' M' v => H = H' ∧ M = M' ∧ .bool (r) = v) := by
  unfold m_gridhallkeep4_InterlockSets at hm
  refine enter Proofs.Tryd.func5 rfl rfl rfl ht ?_
  refine C_seq ?_
  refine C_region ?_
  refine W_assign rfl rfl rfl ?_
  refine W_end ?_
  refine E_then ?_
  refine C_seq ?_
  refine C_region ?_
  refine W_move rfl rfl rfl ?_
  refine W_move rfl rfl rfl ?_
  refine W_move rfl rfl rfl ?_
  obtain ⟨r101, hc102, hm⟩ := bind_some hm
  refine W_call Proofs.Tryd.call19 rfl rfl rfl (fun w ht => by have h := m_interlock_Set_c (hm := hc102) h0 ht; exact h) ?_
  rintro _ _ _ ⟨rfl, v103, xs104, rfl, rfl, h105⟩
  have h105 := h105 H
  refine W_move rfl rfl rfl ?_
  refine W_extract rfl rfl rfl rfl ?_
  refine W_extract rfl rfl rfl rfl ?_
  refine W_assign rfl rfl rfl ?_
  refine W_assign rfl rfl rfl ?_
  refine W_end ?_
  refine E_then ?_
  refine C_seq ?_
  refine C_seq ?_
  refine C_region ?_
  refine W_move rfl rfl rfl ?_
  refine W_bin rfl rfl rfl rfl rfl ?_
  refine W_end ?_
  refine E_then ?_
  refine C_cond (b := !decide (r101.2 = 0)) rfl (fun hb106 => ?_) (fun hb106 => ?_)
  · have hm := ite_t' hb106 hm
    obtain ⟨r110, hc111, hm⟩ := bind_some hm
    refine C_seq_join (fun H' M' L' => H = H' ∧ M = M' ∧ [(6, .bool (r110 && (decide ((r101.1.length : Int) = 0))))] = L') ?_ (fun J112 => ?_)
    · rintro _ _ _ ⟨rfl, rfl, rfl⟩
      refine C_ret ?_
      refine E_ret_then ?_
      obtain rfl := Option.some.inj hm
      refine E_weak (Hp.le_refl _) ?_
      exact end1 rfl rfl ⟨rfl, rfl, rfl⟩
    · refine C_region ?_
      refine W_call Proofs.Tryd.call18 rfl rfl rfl (fun w ht => by have h := m_gridhallkeep4_interlockFact_c (hm := hc111)  ht; exact h) ?_
      rintro _ _ _ ⟨rfl, rfl, rfl⟩
      refine W_move rfl rfl rfl ?_
      cases hb113 : (r110)
      · refine W_no rfl rfl rfl ?_
        refine W_no rfl rfl rfl ?_
        refine W_no rfl rfl rfl ?_
        refine W_pick rfl rfl rfl rfl ?_
        refine W_assign rfl rfl rfl ?_
        refine W_end ?_
        refine E_drop (List.Sublist.cons _ (List.Sublist.refl _)) ?_
        exact E_keepJ (J112 _ _ _ ⟨rfl, rfl, rfl⟩) (List.Perm.refl _) ⟨(by show some (Value.bool (false)) = some (Value.bool (r110 && (decide ((r101.1.length : Int) = 0)))); simp only [hb106, hb113, Bool.and_true, Bool.true_and, Bool.false_and, Bool.and_false, Bool.or_true, Bool.true_or, Bool.or_false, Bool.false_or, Bool.not_true, Bool.not_false]), trivial⟩
      · refine W_move rfl rfl rfl ?_
        refine W_lenO (List.mem_cons_self ..) rfl rfl Proofs.Tryd.runUnderlying39 rfl ?_
        refine W_bin rfl rfl rfl rfl rfl ?_
        refine W_pick rfl rfl rfl rfl ?_
        refine W_assign rfl rfl rfl ?_
        refine W_end ?_
        refine E_drop (List.Sublist.cons _ (List.Sublist.refl _)) ?_
        exact E_keepJ (J112 _ _ _ ⟨rfl, rfl, rfl⟩) (List.Perm.refl _) ⟨(by show some (Value.bool (decide ((r101.1.length : Int) = 0))) = some (Value.bool (r110 && (decide ((r101.1.length : Int) = 0)))); simp only [hb106, hb113, Bool.and_true, Bool.true_and, Bool.false_and, Bool.and_false, Bool.or_true, Bool.true_or, Bool.or_false, Bool.false_or, Bool.not_true, Bool.not_false]), trivial⟩
  · have hm := ite_f' hb106 hm
    refine C_skip ?_
    refine E_then ?_
    refine C_seq ?_
    refine C_seq ?_
    refine C_region ?_
    refine W_move rfl rfl rfl ?_
    refine W_lenO (List.mem_cons_self ..) rfl rfl Proofs.Tryd.runUnderlying39 rfl ?_
    refine W_move rfl rfl rfl ?_
    refine W_lenR rfl rfl Proofs.Tryd.runUnderlying39 rfl h0 ?_
    refine W_bin rfl rfl rfl rfl rfl ?_
    refine W_end ?_
    refine E_then ?_
    refine C_cond (b := !decide ((r101.1.length : Int) = (states.length : Int))) rfl (fun hb114 => ?_) (fun hb114 => ?_)
    · have hm := ite_t' hb114 hm
      refine C_seq ?_
      refine C_region ?_
      refine W_assign rfl rfl rfl ?_
      refine W_end ?_
      refine E_then ?_
      refine C_ret ?_
      refine E_ret_then ?_
      obtain rfl := Option.some.inj hm
      refine E_drop (List.Sublist.cons _ (List.Sublist.refl _)) ?_
      refine E_weak (Hp.le_refl _) ?_
      exact end1 rfl rfl ⟨rfl, rfl, rfl⟩
    · have hm := ite_f' hb114 hm
      refine C_skip ?_
      refine E_then ?_
      refine C_seq ?_
      refine C_seq ?_
      refine C_region ?_
      refine W_move rfl rfl rfl ?_
      refine W_lenO (List.mem_cons_self ..) rfl rfl Proofs.Tryd.runUnderlying39 rfl ?_
      refine W_move rfl rfl rfl ?_
      refine W_end ?_
      refine E_then ?_
      refine C_block ?_
      refine C_rowMax (List.mem_cons_self ..) (fun hmx174 => ?_)
      refine C_keep (L' := [(0, v0), (1, .bool (closing)), (2, .string (name)), (7, v103), (35, v103), (36, .int .i64 ((r101.1.length : Int))), (37, .int .i64 (((0 : Nat) : Int)))]) ⟨rfl, rfl, rfl, rfl, rfl, rfl, rfl, trivial⟩ (List.Perm.refl _) ?_
      refine C_loop (fun n H' M' L' => ∃ (k115 : Nat) (zs176' : List S_api_InterlockState), (r101.1).drop k115 = zs176' ∧ zs176'.length = n ∧ forI (fun k y s170 n => m_gridhallkeep4_InterlockSets_b1 states closing name k y n) (fun _ => (m_interlock_Set r101.1 (!closing) name).bind fun r205 => (m_interlock_Set r101.1 closing name).bind fun r210 => (m_gridhallkeep4_interlockFact).bind fun r215 => if r215 then (if decide (r205.2 = 0) then (if decide (r210.2 = 11) then ((m_slices_Equal_api_InterlockState_api_InterlockState r205.1 states).bind fun r220 => some r220) else (some false)) else (some false)) else (some false)) k115 zs176' () = some r ∧ H.le H' ∧ .row v103 49 (Rep.sz S_api_InterlockState) r101.1.length xs104 :: M = M' ∧ [(0, v0), (1, .bool (closing)), (2, .string (name)), (7, v103), (35, v103), (36, .int .i64 ((r101.1.length : Int))), (37, .int .i64 ((k115 : Int)))] = L') _ ⟨0, _, rfl, rfl, hm, (Hp.le_refl _), rfl, rfl⟩ ?_
      rintro _ H168 _ _ ⟨k115, zs176', hd178, rfl, hm, hle169, rfl, rfl⟩
      refine C_seq ?_
      refine C_region ?_
      refine W_bin rfl rfl rfl rfl rfl ?_
      refine W_end (E_then ?_)
      refine C_seq ?_
      refine C_cond (b := decide ((k115 : Int) < (r101.1.length : Int))) rfl (fun hb180 => ?_) (fun hb180 => ?_)
      · obtain ⟨y175, zs176, rfl, hy177, hd179⟩ := rng_t hd178 hb180
        have hm : m_gridhallkeep4_InterlockSets_b1 states closing name k115 y175 (forI (fun k y s170 n => m_gridhallkeep4_InterlockSets_b1 states closing name k y n) (fun _ => (m_interlock_Set r101.1 (!closing) name).bind fun r205 => (m_interlock_Set r101.1 closing name).bind fun r210 => (m_gridhallkeep4_interlockFact).bind fun r215 => if r215 then (if decide (r205.2 = 0) then (if decide (r210.2 = 11) then ((m_slices_Equal_api_InterlockState_api_InterlockState r205.1 states).bind fun r220 => some r220) else (some false)) else (some false)) else (some false)) (k115 + 1) zs176) = some r := hm
        generalize hn172 : forI (fun k y s170 n => m_gridhallkeep4_InterlockSets_b1 states closing name k y n) (fun _ => (m_interlock_Set r101.1 (!closing) name).bind fun r205 => (m_interlock_Set r101.1 closing name).bind fun r210 => (m_gridhallkeep4_interlockFact).bind fun r215 => if r215 then (if decide (r205.2 = 0) then (if decide (r210.2 = 11) then ((m_slices_Equal_api_InterlockState_api_InterlockState r205.1 states).bind fun r220 => some r220) else (some false)) else (some false)) else (some false)) (k115 + 1) zs176 = nx171 at hm
        unfold m_gridhallkeep4_InterlockSets_b1 at hm
        refine C_skip (E_then ?_)
        refine C_seq ?_
        refine C_block ?_
        refine C_seq ?_
        refine C_region ?_
        refine W_move rfl rfl rfl ?_
        refine W_indexO (List.mem_cons_self ..) rfl rfl Proofs.Tryd.runUnderlying39 Proofs.Tryd.sizeOf49 rfl rfl (Int.natCast_nonneg _) (List.getElem?_eq_some_iff.1 hy177).1 ?_
        obtain ⟨_, rfl, hg181⟩ := (h105).elem hy177
        refine W_loadAgg (cs := [.string (y175.Name), .bool (y175.Closed)]) rfl rfl Proofs.Tryd.isAgg49 Proofs.Tryd.sizeOf49 rfl (row_cells (List.mem_cons_self ..) hg181) rfl ?_
        refine W_alloc (cs := [.string (⟨#[]⟩), .bool (false)]) rfl rfl Proofs.Tryd.zeroValue49 rfl (fun b182 => ?_)
        refine W_assign rfl rfl rfl ?_
        refine W_store (cs := [.string (y175.Name), .bool (y175.Closed)]) (out := [.string (y175.Name), .bool (y175.Closed)]) rfl Proofs.Tryd.sizeOf49 rfl rfl rfl rfl rfl (all_cons rfl (all_cons rfl all_nil)) (over_all rfl) ?_
        refine W_end ?_
        refine E_then ?_
        refine C_seq ?_
        obtain ⟨y183, h184, he185, hm⟩ := idx_some hm
        obtain ⟨_, ⟨rfl⟩, hc186⟩ := (h0).elem he185
        cases hb187 : (decide (y175.Name = y183.Name))
        · have hm := ite_f' hb187 hm
          refine C_region_tok0 31 (phiT [(fun H rs v => [] = rs ∧ .pointer (some ⟨b182, 0, none⟩) = v), (fun H rs v => [] = rs ∧ .string (y175.Name) = v), (fun H rs v => [] = rs ∧ v0 = v), (fun H rs v => [] = rs ∧ .int .i64 ((k115 : Int)) = v), (fun H rs v => [] = rs ∧ .pointer (some ((Value.base (v0)).add (((k115 : Int) : Int).toNat * 2))) = v), (fun H rs v => [] = rs ∧ .pointer (some ((Value.base (v0)).add (((k115 : Int) : Int).toNat * 2))) = v), (fun H rs v => [] = rs ∧ .string (y183.Name) = v), (fun H rs v => [] = rs ∧ .bool (true) = v), (fun H rs v => [] = rs ∧ .bool (true) = v), (fun H rs v => [] = rs ∧ undef = v), (fun H rs v => [] = rs ∧ undef = v), (fun H rs v => [] = rs ∧ undef = v), (fun H rs v => [] = rs ∧ undef = v), (fun H rs v => [] = rs ∧ undef = v), (fun H rs v => [] = rs ∧ undef = v), (fun H rs v => [] = rs ∧ undef = v), (fun H rs v => [] = rs ∧ undef = v), (fun H rs v => [] = rs ∧ undef = v), (fun H rs v => [] = rs ∧ undef = v), (fun H rs v => [] = rs ∧ undef = v), (fun H rs v => [] = rs ∧ undef = v), (fun H rs v => [] = rs ∧ undef = v), (fun H rs v => [] = rs ∧ undef = v), (fun H rs v => [] = rs ∧ undef = v), (fun H rs v => [] = rs ∧ undef = v), (fun H rs v => [] = rs ∧ undef = v), (fun H rs v => [] = rs ∧ undef = v), (fun H rs v => [] = rs ∧ undef = v), (fun H rs v => [] = rs ∧ undef = v), (fun H rs v => [] = rs ∧ undef = v), (fun H rs v => [] = rs ∧ undef = v)]) [[], [], [], [], [], [], [], [], [], [], [], [], [], [], [], [], [], [], [], [], [], [], [], [], [], [], [], [], [], [], []] [[], [], [], [], [], [], [], [], [], [], [], [], [], [], [], [], [], [], [], [], [], [], [], [], [], [], [], [], [], [], []] [] [0, 1, 2, 3, 4, 5, 6, 7, 8, 9, 10, 11, 12, 13, 14, 15, 16, 17, 18, 19, 20, 21, 22, 23, 24, 25, 26, 27, 28, 29, 30] Facts.mixed (by kernel_rfl) rfl rfl rfl (by kernel_rfl) (phiT_mono ⟨eq_monoT _ _, eq_monoT _ _, eq_monoT _ _, eq_monoT _ _, eq_monoT _ _, eq_monoT _ _, eq_monoT _ _, eq_monoT _ _, eq_monoT _ _, eq_monoT _ _, eq_monoT _ _, eq_monoT _ _, eq_monoT _ _, eq_monoT _ _, eq_monoT _ _, eq_monoT _ _, eq_monoT _ _, eq_monoT _ _, eq_monoT _ _, eq_monoT _ _, eq_monoT _ _, eq_monoT _ _, eq_monoT _ _, eq_monoT _ _, eq_monoT _ _, eq_monoT _ _, eq_monoT _ _, eq_monoT _ _, eq_monoT _ _, eq_monoT _ _, eq_monoT _ _, trivial⟩) ⟨?_, ?_, ?_, ?_, ?_, ?_, ?_, ?_, ?_, ?_, ?_, ?_, ?_, ?_, ?_, ?_, ?_, ?_, ?_, ?_, ?_, ?_, ?_, ?_, ?_, ?_, ?_, ?_, ?_, ?_, ?_, trivial⟩ ?_
          · intro HX hX X Rest hR
            intro hU hUp
            refine W_field (o := 0) rfl rfl Proofs.Tryd.runUnderlying49 rfl Proofs.Tryd.sizeOf9 rfl rfl rfl ?_
            exact W_end (OneT_end [] (Hp.le_refl _) ⟨rfl, rfl⟩)
          · intro HX hX X Rest hR
            rintro _ _ ⟨rfl, rfl⟩
            intro hU hUp
            refine W_load rfl rfl Proofs.Tryd.isAgg9 rfl (own_at (hR _ (List.mem_cons_self ..)) rfl) ?_
            exact W_end (OneT_end [] (Hp.le_refl _) ⟨rfl, rfl⟩)
          · intro HX hX X Rest hR
            intro hU hUp
            refine W_move rfl rfl rfl ?_
            exact W_end (OneT_end [] (Hp.le_refl _) ⟨rfl, rfl⟩)
          · intro HX hX X Rest hR
            intro hU hUp
            refine W_move rfl rfl rfl ?_
            exact W_end (OneT_end [] (Hp.le_refl _) ⟨rfl, rfl⟩)
          · intro HX hX X Rest hR
            rintro _ _ ⟨rfl, rfl⟩
            rintro _ _ ⟨rfl, rfl⟩
            intro hU hUp
            refine W_indexS rfl rfl Proofs.Tryd.runUnderlying39 Proofs.Tryd.sizeOf49 rfl ((h0.mono hle169).mono hX) rfl h184 he185 ?_
            exact W_end (OneT_end [] (Hp.le_refl _) ⟨rfl, rfl⟩)
          · intro HX hX X Rest hR
            rintro _ _ ⟨rfl, rfl⟩
            intro hU hUp
            refine W_field (o := 0) rfl rfl Proofs.Tryd.runUnderlying49 rfl Proofs.Tryd.sizeOf9 rfl rfl rfl ?_
            exact W_end (OneT_end [] (Hp.le_refl _) ⟨rfl, rfl⟩)
          · intro HX hX X Rest hR
            rintro _ _ ⟨rfl, rfl⟩
            intro hU hUp
            refine W_load rfl rfl Proofs.Tryd.isAgg9 rfl (HCells.one ((hc186.mono hle169).mono hX) 0 rfl).at ?_
            exact W_end (OneT_end [] (Hp.le_refl _) ⟨rfl, rfl⟩)
          · intro HX hX X Rest hR
            rintro _ _ ⟨rfl, rfl⟩
            rintro _ _ ⟨rfl, rfl⟩
            intro hU hUp
            refine W_bin rfl rfl rfl rfl rfl ?_
            exact W_end (OneT_end [] (Hp.le_refl _) ⟨rfl, (by first | rfl | (rw [hb187]; try rfl))⟩)
          · intro HX hX X Rest hR
            rintro _ _ ⟨rfl, rfl⟩
            intro hU hUp
            refine W_move rfl rfl rfl ?_
            exact W_end (OneT_end [] (Hp.le_refl _) ⟨rfl, rfl⟩)
          · intro HX hX X Rest hR
            rintro _ _ ⟨rfl, rfl⟩
            intro hU hUp
            refine W_no rfl rfl rfl ?_
            exact W_end (OneT_end [] (Hp.le_refl _) ⟨rfl, rfl⟩)
          · intro HX hX X Rest hR
            rintro _ _ ⟨rfl, rfl⟩
            rintro _ _ ⟨rfl, rfl⟩
            intro hU hUp
            refine W_no rfl rfl rfl ?_
            exact W_end (OneT_end [] (Hp.le_refl _) ⟨rfl, rfl⟩)
          · intro HX hX X Rest hR
            rintro _ _ ⟨rfl, rfl⟩
            intro hU hUp
            refine W_no rfl rfl rfl ?_
            exact W_end (OneT_end [] (Hp.le_refl _) ⟨rfl, rfl⟩)
          · intro HX hX X Rest hR
            rintro _ _ ⟨rfl, rfl⟩
            rintro _ _ ⟨rfl, rfl⟩
            intro hU hUp
            refine W_no rfl rfl rfl ?_
            exact W_end (OneT_end [] (Hp.le_refl _) ⟨rfl, rfl⟩)
          · intro HX hX X Rest hR
            rintro _ _ ⟨rfl, rfl⟩
            intro hU hUp
            refine W_no rfl rfl rfl ?_
            exact W_end (OneT_end [] (Hp.le_refl _) ⟨rfl, rfl⟩)
          · intro HX hX X Rest hR
            rintro _ _ ⟨rfl, rfl⟩
            rintro _ _ ⟨rfl, rfl⟩
            rintro _ _ ⟨rfl, rfl⟩
            intro hU hUp
            refine W_no rfl rfl rfl ?_
            exact W_end (OneT_end [] (Hp.le_refl _) ⟨rfl, rfl⟩)
          · intro HX hX X Rest hR
            rintro _ _ ⟨rfl, rfl⟩
            rintro _ _ ⟨rfl, rfl⟩
            rintro _ _ ⟨rfl, rfl⟩
            intro hU hUp
            refine W_no rfl rfl rfl ?_
            exact W_end (OneT_end [] (Hp.le_refl _) ⟨rfl, rfl⟩)
          · intro HX hX X Rest hR
            rintro _ _ ⟨rfl, rfl⟩
            intro hU hUp
            refine W_no rfl rfl rfl ?_
            exact W_end (OneT_end [] (Hp.le_refl _) ⟨rfl, rfl⟩)
          · intro HX hX X Rest hR
            rintro _ _ ⟨rfl, rfl⟩
            rintro _ _ ⟨rfl, rfl⟩
            rintro _ _ ⟨rfl, rfl⟩
            intro hU hUp
            refine W_no rfl rfl rfl ?_
            exact W_end (OneT_end [] (Hp.le_refl _) ⟨rfl, rfl⟩)
          · intro HX hX X Rest hR
            rintro _ _ ⟨rfl, rfl⟩
            rintro _ _ ⟨rfl, rfl⟩
            rintro _ _ ⟨rfl, rfl⟩
            intro hU hUp
            refine W_no rfl rfl rfl ?_
            exact W_end (OneT_end [] (Hp.le_refl _) ⟨rfl, rfl⟩)
          · intro HX hX X Rest hR
            rintro _ _ ⟨rfl, rfl⟩
            intro hU hUp
            refine W_no rfl rfl rfl ?_
            exact W_end (OneT_end [] (Hp.le_refl _) ⟨rfl, rfl⟩)
          · intro HX hX X Rest hR
            rintro _ _ ⟨rfl, rfl⟩
            rintro _ _ ⟨rfl, rfl⟩
            intro hU hUp
            refine W_no rfl rfl rfl ?_
            exact W_end (OneT_end [] (Hp.le_refl _) ⟨rfl, rfl⟩)
          · intro HX hX X Rest hR
            rintro _ _ ⟨rfl, rfl⟩
            intro hU hUp
            refine W_no rfl rfl rfl ?_
            exact W_end (OneT_end [] (Hp.le_refl _) ⟨rfl, rfl⟩)
          · intro HX hX X Rest hR
            rintro _ _ ⟨rfl, rfl⟩
            rintro _ _ ⟨rfl, rfl⟩
            rintro _ _ ⟨rfl, rfl⟩
            intro hU hUp
            refine W_no rfl rfl rfl ?_
            exact W_end (OneT_end [] (Hp.le_refl _) ⟨rfl, rfl⟩)
          · intro HX hX X Rest hR
            rintro _ _ ⟨rfl, rfl⟩
            rintro _ _ ⟨rfl, rfl⟩
            rintro _ _ ⟨rfl, rfl⟩
            intro hU hUp
            refine W_no rfl rfl rfl ?_
            exact W_end (OneT_end [] (Hp.le_refl _) ⟨rfl, rfl⟩)
          · intro HX hX X Rest hR
            rintro _ _ ⟨rfl, rfl⟩
            intro hU hUp
            refine W_no rfl rfl rfl ?_
            exact W_end (OneT_end [] (Hp.le_refl _) ⟨rfl, rfl⟩)
          · intro HX hX X Rest hR
            rintro _ _ ⟨rfl, rfl⟩
            intro hU hUp
            refine W_no rfl rfl rfl ?_
            exact W_end (OneT_end [] (Hp.le_refl _) ⟨rfl, rfl⟩)
          · intro HX hX X Rest hR
            rintro _ _ ⟨rfl, rfl⟩
            rintro _ _ ⟨rfl, rfl⟩
            rintro _ _ ⟨rfl, rfl⟩
            intro hU hUp
            refine W_no rfl rfl rfl ?_
            exact W_end (OneT_end [] (Hp.le_refl _) ⟨rfl, rfl⟩)
          · intro HX hX X Rest hR
            rintro _ _ ⟨rfl, rfl⟩
            rintro _ _ ⟨rfl, rfl⟩
            intro hU hUp
            refine W_no rfl rfl rfl ?_
            exact W_end (OneT_end [] (Hp.le_refl _) ⟨rfl, rfl⟩)
          · intro HX hX X Rest hR
            rintro _ _ ⟨rfl, rfl⟩
            rintro _ _ ⟨rfl, rfl⟩
            intro hU hUp
            refine W_no rfl rfl rfl ?_
            exact W_end (OneT_end [] (Hp.le_refl _) ⟨rfl, rfl⟩)
          · intro HX hX X Rest hR
            rintro _ _ ⟨rfl, rfl⟩
            rintro _ _ ⟨rfl, rfl⟩
            rintro _ _ ⟨rfl, rfl⟩
            intro hU hUp
            refine W_no rfl rfl rfl ?_
            exact W_end (OneT_end [] (Hp.le_refl _) ⟨rfl, rfl⟩)
          · intro HX hX X Rest hR
            rintro _ _ ⟨rfl, rfl⟩
            rintro _ _ ⟨rfl, rfl⟩
            rintro _ _ ⟨rfl, rfl⟩
            intro hU hUp
            refine W_no rfl rfl rfl ?_
            exact W_end (OneT_end [] (Hp.le_refl _) ⟨rfl, rfl⟩)
          intro H188 hle189
          rintro _ _ ⟨rfl, rfl⟩
          rintro _ _ ⟨rfl, rfl⟩
          rintro _ _ ⟨rfl, rfl⟩
          rintro _ _ ⟨rfl, rfl⟩
          rintro _ _ ⟨rfl, rfl⟩
          rintro _ _ ⟨rfl, rfl⟩
          rintro _ _ ⟨rfl, rfl⟩
          rintro _ _ ⟨rfl, rfl⟩
          rintro _ _ ⟨rfl, rfl⟩
          rintro _ _ ⟨rfl, rfl⟩
          rintro _ _ ⟨rfl, rfl⟩
          rintro _ _ ⟨rfl, rfl⟩
          rintro _ _ ⟨rfl, rfl⟩
          rintro _ _ ⟨rfl, rfl⟩
          rintro _ _ ⟨rfl, rfl⟩
          rintro _ _ ⟨rfl, rfl⟩
          rintro _ _ ⟨rfl, rfl⟩
          rintro _ _ ⟨rfl, rfl⟩
          rintro _ _ ⟨rfl, rfl⟩
          rintro _ _ ⟨rfl, rfl⟩
          rintro _ _ ⟨rfl, rfl⟩
          rintro _ _ ⟨rfl, rfl⟩
          rintro _ _ ⟨rfl, rfl⟩
          rintro _ _ ⟨rfl, rfl⟩
          rintro _ _ ⟨rfl, rfl⟩
          rintro _ _ ⟨rfl, rfl⟩
          rintro _ _ ⟨rfl, rfl⟩
          rintro _ _ ⟨rfl, rfl⟩
          rintro _ _ ⟨rfl, rfl⟩
          rintro _ _ ⟨rfl, rfl⟩
          rintro _ _ ⟨rfl, rfl⟩
          refine W_no rfl rfl rfl ?_
          refine W_pick rfl rfl rfl rfl ?_
          refine W_end ?_
          refine E_then ?_
          refine C_cond (b := true) rfl (fun _ => ?_) (fun hb => Bool.noConfusion hb)
          refine C_seq ?_
          refine C_region ?_
          refine W_assign rfl rfl rfl ?_
          refine W_end ?_
          refine E_then ?_
          refine C_ret ?_
          refine E_ret_block ?_
          refine E_ret_then ?_
          refine E_ret_then ?_
          refine E_ret_block ?_
          refine E_ret_then ?_
          obtain rfl := Option.some.inj hm
          refine E_drop (List.Sublist.cons _ (List.Sublist.cons _ (List.Sublist.refl _))) ?_
          refine E_weak (Hp.le_trans hle169 hle189) ?_
          exact end1 rfl rfl ⟨rfl, rfl, rfl⟩
        · have hm := ite_t' hb187 hm
          cases hb190 : (decide (y175.Name = name))
          · have hm := ite_f' hb190 hm
            obtain ⟨y191, h192, he193, hm⟩ := idx_some hm
            obtain ⟨_, ⟨rfl⟩, hc194⟩ := (h0).elem he193
            refine C_region_tok0 31 (phiT [(fun H rs v => [] = rs ∧ .pointer (some ⟨b182, 0, none⟩) = v), (fun H rs v => [] = rs ∧ .string (y175.Name) = v), (fun H rs v => [] = rs ∧ v0 = v), (fun H rs v => [] = rs ∧ .int .i64 ((k115 : Int)) = v), (fun H rs v => [] = rs ∧ .pointer (some ((Value.base (v0)).add (((k115 : Int) : Int).toNat * 2))) = v), (fun H rs v => [] = rs ∧ .pointer (some ((Value.base (v0)).add (((k115 : Int) : Int).toNat * 2))) = v), (fun H rs v => [] = rs ∧ .string (y183.Name) = v), (fun H rs v => [] = rs ∧ .bool (false) = v), (fun H rs v => [] = rs ∧ .bool (false) = v), (fun H rs v => [] = rs ∧ .pointer (some ⟨b182, 1, none⟩) = v), (fun H rs v => [] = rs ∧ .bool (y175.Closed) = v), (fun H rs v => [] = rs ∧ .pointer (some ⟨b182, 0, none⟩) = v), (fun H rs v => [] = rs ∧ .string (y175.Name) = v), (fun H rs v => [] = rs ∧ .string (name) = v), (fun H rs v => [] = rs ∧ .bool (false) = v), (fun H rs v => [] = rs ∧ .bool (false) = v), (fun H rs v => [] = rs ∧ undef = v), (fun H rs v => [] = rs ∧ .bool (false) = v), (fun H rs v => [] = rs ∧ .bool (false) = v), (fun H rs v => [] = rs ∧ .pointer (some ⟨b182, 0, none⟩) = v), (fun H rs v => [] = rs ∧ .string (y175.Name) = v), (fun H rs v => [] = rs ∧ .string (name) = v), (fun H rs v => [] = rs ∧ .bool (true) = v), (fun H rs v => [] = rs ∧ .bool (true) = v), (fun H rs v => [] = rs ∧ v0 = v), (fun H rs v => [] = rs ∧ .int .i64 ((k115 : Int)) = v), (fun H rs v => [] = rs ∧ .pointer (some ((Value.base (v0)).add (((k115 : Int) : Int).toNat * 2))) = v), (fun H rs v => [] = rs ∧ .pointer (some (((Value.base (v0)).add (((k115 : Int) : Int).toNat * 2)).add 1)) = v), (fun H rs v => [] = rs ∧ .bool (y191.Closed) = v), (fun H rs v => [] = rs ∧ .bool (y191.Closed) = v), (fun H rs v => [] = rs ∧ .bool (y191.Closed) = v)]) [[], [], [], [], [], [], [], [], [], [], [], [], [], [], [], [], [], [], [], [], [], [], [], [], [], [], [], [], [], [], []] [[], [], [], [], [], [], [], [], [], [], [], [], [], [], [], [], [], [], [], [], [], [], [], [], [], [], [], [], [], [], []] [] [0, 1, 2, 3, 4, 5, 6, 7, 8, 9, 10, 11, 12, 13, 14, 15, 16, 17, 18, 19, 20, 21, 22, 23, 24, 25, 26, 27, 28, 29, 30] Facts.mixed (by kernel_rfl) rfl rfl rfl (by kernel_rfl) (phiT_mono ⟨eq_monoT _ _, eq_monoT _ _, eq_monoT _ _, eq_monoT _ _, eq_monoT _ _, eq_monoT _ _, eq_monoT _ _, eq_monoT _ _, eq_monoT _ _, eq_monoT _ _, eq_monoT _ _, eq_monoT _ _, eq_monoT _ _, eq_monoT _ _, eq_monoT _ _, eq_monoT _ _, eq_monoT _ _, eq_monoT _ _, eq_monoT _ _, eq_monoT _ _, eq_monoT _ _, eq_monoT _ _, eq_monoT _ _, eq_monoT _ _, eq_monoT _ _, eq_monoT _ _, eq_monoT _ _, eq_monoT _ _, eq_monoT _ _, eq_monoT _ _, eq_monoT _ _, trivial⟩) ⟨?_, ?_, ?_, ?_, ?_, ?_, ?_, ?_, ?_, ?_, ?_, ?_, ?_, ?_, ?_, ?_, ?_, ?_, ?_, ?_, ?_, ?_, ?_, ?_, ?_, ?_, ?_, ?_, ?_, ?_, ?_, trivial⟩ ?_
            · intro HX hX X Rest hR
              intro hU hUp
              refine W_field (o := 0) rfl rfl Proofs.Tryd.runUnderlying49 rfl Proofs.Tryd.sizeOf9 rfl rfl rfl ?_
              exact W_end (OneT_end [] (Hp.le_refl _) ⟨rfl, rfl⟩)
            · intro HX hX X Rest hR
              rintro _ _ ⟨rfl, rfl⟩
              intro hU hUp
              refine W_load rfl rfl Proofs.Tryd.isAgg9 rfl (own_at (hR _ (List.mem_cons_self ..)) rfl) ?_
              exact W_end (OneT_end [] (Hp.le_refl _) ⟨rfl, rfl⟩)
            · intro HX hX X Rest hR
              intro hU hUp
              refine W_move rfl rfl rfl ?_
              exact W_end (OneT_end [] (Hp.le_refl _) ⟨rfl, rfl⟩)
            · intro HX hX X Rest hR
              intro hU hUp
              refine W_move rfl rfl rfl ?_
              exact W_end (OneT_end [] (Hp.le_refl _) ⟨rfl, rfl⟩)
            · intro HX hX X Rest hR
              rintro _ _ ⟨rfl, rfl⟩
              rintro _ _ ⟨rfl, rfl⟩
              intro hU hUp
              refine W_indexS rfl rfl Proofs.Tryd.runUnderlying39 Proofs.Tryd.sizeOf49 rfl ((h0.mono hle169).mono hX) rfl h184 he185 ?_
              exact W_end (OneT_end [] (Hp.le_refl _) ⟨rfl, rfl⟩)
            · intro HX hX X Rest hR
              rintro _ _ ⟨rfl, rfl⟩
              intro hU hUp
              refine W_field (o := 0) rfl rfl Proofs.Tryd.runUnderlying49 rfl Proofs.Tryd.sizeOf9 rfl rfl rfl ?_
              exact W_end (OneT_end [] (Hp.le_refl _) ⟨rfl, rfl⟩)
            · intro HX hX X Rest hR
              rintro _ _ ⟨rfl, rfl⟩
              intro hU hUp
              refine W_load rfl rfl Proofs.Tryd.isAgg9 rfl (HCells.one ((hc186.mono hle169).mono hX) 0 rfl).at ?_
              exact W_end (OneT_end [] (Hp.le_refl _) ⟨rfl, rfl⟩)
            · intro HX hX X Rest hR
              rintro _ _ ⟨rfl, rfl⟩
              rintro _ _ ⟨rfl, rfl⟩
              intro hU hUp
              refine W_bin rfl rfl rfl rfl rfl ?_
              exact W_end (OneT_end [] (Hp.le_refl _) ⟨rfl, (by first | rfl | (rw [hb187]; try rfl))⟩)
            · intro HX hX X Rest hR
              rintro _ _ ⟨rfl, rfl⟩
              intro hU hUp
              refine W_move rfl rfl rfl ?_
              exact W_end (OneT_end [] (Hp.le_refl _) ⟨rfl, rfl⟩)
            · intro HX hX X Rest hR
              rintro _ _ ⟨rfl, rfl⟩
              intro hU hUp
              refine W_field (o := 1) rfl rfl Proofs.Tryd.runUnderlying49 rfl Proofs.Tryd.sizeOf4 rfl rfl rfl ?_
              exact W_end (OneT_end [] (Hp.le_refl _) ⟨rfl, rfl⟩)
            · intro HX hX X Rest hR
              rintro _ _ ⟨rfl, rfl⟩
              rintro _ _ ⟨rfl, rfl⟩
              intro hU hUp
              refine W_load rfl rfl Proofs.Tryd.isAgg4 rfl (own_at (hR _ (List.mem_cons_self ..)) rfl) ?_
              exact W_end (OneT_end [] (Hp.le_refl _) ⟨rfl, rfl⟩)
            · intro HX hX X Rest hR
              rintro _ _ ⟨rfl, rfl⟩
              intro hU hUp
              refine W_field (o := 0) rfl rfl Proofs.Tryd.runUnderlying49 rfl Proofs.Tryd.sizeOf9 rfl rfl rfl ?_
              exact W_end (OneT_end [] (Hp.le_refl _) ⟨rfl, rfl⟩)
            · intro HX hX X Rest hR
              rintro _ _ ⟨rfl, rfl⟩
              rintro _ _ ⟨rfl, rfl⟩
              intro hU hUp
              refine W_load rfl rfl Proofs.Tryd.isAgg9 rfl (own_at (hR _ (List.mem_cons_self ..)) rfl) ?_
              exact W_end (OneT_end [] (Hp.le_refl _) ⟨rfl, rfl⟩)
            · intro HX hX X Rest hR
              rintro _ _ ⟨rfl, rfl⟩
              intro hU hUp
              refine W_move rfl rfl rfl ?_
              exact W_end (OneT_end [] (Hp.le_refl _) ⟨rfl, rfl⟩)
            · intro HX hX X Rest hR
              rintro _ _ ⟨rfl, rfl⟩
              rintro _ _ ⟨rfl, rfl⟩
              rintro _ _ ⟨rfl, rfl⟩
              intro hU hUp
              refine W_bin rfl rfl rfl rfl rfl ?_
              exact W_end (OneT_end [] (Hp.le_refl _) ⟨rfl, (by first | rfl | (rw [hb190]; try rfl))⟩)
            · intro HX hX X Rest hR
              rintro _ _ ⟨rfl, rfl⟩
              rintro _ _ ⟨rfl, rfl⟩
              rintro _ _ ⟨rfl, rfl⟩
              intro hU hUp
              refine W_move rfl rfl rfl ?_
              exact W_end (OneT_end [] (Hp.le_refl _) ⟨rfl, rfl⟩)
            · intro HX hX X Rest hR
              rintro _ _ ⟨rfl, rfl⟩
              intro hU hUp
              refine W_no rfl rfl rfl ?_
              exact W_end (OneT_end [] (Hp.le_refl _) ⟨rfl, rfl⟩)
            · intro HX hX X Rest hR
              rintro _ _ ⟨rfl, rfl⟩
              rintro _ _ ⟨rfl, rfl⟩
              rintro _ _ ⟨rfl, rfl⟩
              intro hU hUp
              refine W_pick rfl rfl rfl rfl ?_
              exact W_end (OneT_end [] (Hp.le_refl _) ⟨rfl, rfl⟩)
            · intro HX hX X Rest hR
              rintro _ _ ⟨rfl, rfl⟩
              rintro _ _ ⟨rfl, rfl⟩
              rintro _ _ ⟨rfl, rfl⟩
              intro hU hUp
              refine W_move rfl rfl rfl ?_
              exact W_end (OneT_end [] (Hp.le_refl _) ⟨rfl, rfl⟩)
            · intro HX hX X Rest hR
              rintro _ _ ⟨rfl, rfl⟩
              intro hU hUp
              refine W_field (o := 0) rfl rfl Proofs.Tryd.runUnderlying49 rfl Proofs.Tryd.sizeOf9 rfl rfl rfl ?_
              exact W_end (OneT_end [] (Hp.le_refl _) ⟨rfl, rfl⟩)
            · intro HX hX X Rest hR
              rintro _ _ ⟨rfl, rfl⟩
              rintro _ _ ⟨rfl, rfl⟩
              intro hU hUp
              refine W_load rfl rfl Proofs.Tryd.isAgg9 rfl (own_at (hR _ (List.mem_cons_self ..)) rfl) ?_
              exact W_end (OneT_end [] (Hp.le_refl _) ⟨rfl, rfl⟩)
            · intro HX hX X Rest hR
              rintro _ _ ⟨rfl, rfl⟩
              intro hU hUp
              refine W_move rfl rfl rfl ?_
              exact W_end (OneT_end [] (Hp.le_refl _) ⟨rfl, rfl⟩)
            · intro HX hX X Rest hR
              rintro _ _ ⟨rfl, rfl⟩
              rintro _ _ ⟨rfl, rfl⟩
              rintro _ _ ⟨rfl, rfl⟩
              intro hU hUp
              refine W_bin rfl rfl rfl rfl rfl ?_
              exact W_end (OneT_end [] (Hp.le_refl _) ⟨rfl, (by first | rfl | (rw [hb190]; try rfl))⟩)
            · intro HX hX X Rest hR
              rintro _ _ ⟨rfl, rfl⟩
              rintro _ _ ⟨rfl, rfl⟩
              rintro _ _ ⟨rfl, rfl⟩
              intro hU hUp
              refine W_move rfl rfl rfl ?_
              exact W_end (OneT_end [] (Hp.le_refl _) ⟨rfl, rfl⟩)
            · intro HX hX X Rest hR
              rintro _ _ ⟨rfl, rfl⟩
              intro hU hUp
              refine W_move rfl rfl rfl ?_
              exact W_end (OneT_end [] (Hp.le_refl _) ⟨rfl, rfl⟩)
            · intro HX hX X Rest hR
              rintro _ _ ⟨rfl, rfl⟩
              intro hU hUp
              refine W_move rfl rfl rfl ?_
              exact W_end (OneT_end [] (Hp.le_refl _) ⟨rfl, rfl⟩)
            · intro HX hX X Rest hR
              rintro _ _ ⟨rfl, rfl⟩
              rintro _ _ ⟨rfl, rfl⟩
              rintro _ _ ⟨rfl, rfl⟩
              intro hU hUp
              refine W_indexS rfl rfl Proofs.Tryd.runUnderlying39 Proofs.Tryd.sizeOf49 rfl ((h0.mono hle169).mono hX) rfl h192 he193 ?_
              exact W_end (OneT_end [] (Hp.le_refl _) ⟨rfl, rfl⟩)
            · intro HX hX X Rest hR
              rintro _ _ ⟨rfl, rfl⟩
              rintro _ _ ⟨rfl, rfl⟩
              intro hU hUp
              refine W_field (o := 1) rfl rfl Proofs.Tryd.runUnderlying49 rfl Proofs.Tryd.sizeOf4 rfl rfl rfl ?_
              exact W_end (OneT_end [] (Hp.le_refl _) ⟨rfl, rfl⟩)
            · intro HX hX X Rest hR
              rintro _ _ ⟨rfl, rfl⟩
              rintro _ _ ⟨rfl, rfl⟩
              intro hU hUp
              refine W_load rfl rfl Proofs.Tryd.isAgg4 rfl (HCells.one ((hc194.mono hle169).mono hX) 1 rfl).at ?_
              exact W_end (OneT_end [] (Hp.le_refl _) ⟨rfl, rfl⟩)
            · intro HX hX X Rest hR
              rintro _ _ ⟨rfl, rfl⟩
              rintro _ _ ⟨rfl, rfl⟩
              rintro _ _ ⟨rfl, rfl⟩
              intro hU hUp
              refine W_pick rfl rfl rfl rfl ?_
              exact W_end (OneT_end [] (Hp.le_refl _) ⟨rfl, rfl⟩)
            · intro HX hX X Rest hR
              rintro _ _ ⟨rfl, rfl⟩
              rintro _ _ ⟨rfl, rfl⟩
              rintro _ _ ⟨rfl, rfl⟩
              intro hU hUp
              refine W_pick rfl rfl rfl rfl ?_
              exact W_end (OneT_end [] (Hp.le_refl _) ⟨rfl, rfl⟩)
            intro H195 hle196
            rintro _ _ ⟨rfl, rfl⟩
            rintro _ _ ⟨rfl, rfl⟩
            rintro _ _ ⟨rfl, rfl⟩
            rintro _ _ ⟨rfl, rfl⟩
            rintro _ _ ⟨rfl, rfl⟩
            rintro _ _ ⟨rfl, rfl⟩
            rintro _ _ ⟨rfl, rfl⟩
            rintro _ _ ⟨rfl, rfl⟩
            rintro _ _ ⟨rfl, rfl⟩
            rintro _ _ ⟨rfl, rfl⟩
            rintro _ _ ⟨rfl, rfl⟩
            rintro _ _ ⟨rfl, rfl⟩
            rintro _ _ ⟨rfl, rfl⟩
            rintro _ _ ⟨rfl, rfl⟩
            rintro _ _ ⟨rfl, rfl⟩
            rintro _ _ ⟨rfl, rfl⟩
            rintro _ _ ⟨rfl, rfl⟩
            rintro _ _ ⟨rfl, rfl⟩
            rintro _ _ ⟨rfl, rfl⟩
            rintro _ _ ⟨rfl, rfl⟩
            rintro _ _ ⟨rfl, rfl⟩
            rintro _ _ ⟨rfl, rfl⟩
            rintro _ _ ⟨rfl, rfl⟩
            rintro _ _ ⟨rfl, rfl⟩
            rintro _ _ ⟨rfl, rfl⟩
            rintro _ _ ⟨rfl, rfl⟩
            rintro _ _ ⟨rfl, rfl⟩
            rintro _ _ ⟨rfl, rfl⟩
            rintro _ _ ⟨rfl, rfl⟩
            rintro _ _ ⟨rfl, rfl⟩
            rintro _ _ ⟨rfl, rfl⟩
            refine W_neBool rfl rfl Proofs.Tryd.runUnderlying4 rfl rfl ?_
            refine W_pick rfl rfl rfl rfl ?_
            refine W_end ?_
            refine E_then ?_
            refine C_cond (b := !decide (y175.Closed = y191.Closed)) rfl (fun hb197 => ?_) (fun hb197 => ?_)
            · have hm := ite_t' hb197 hm
              refine C_seq ?_
              refine C_region ?_
              refine W_assign rfl rfl rfl ?_
              refine W_end ?_
              refine E_then ?_
              refine C_ret ?_
              refine E_ret_block ?_
              refine E_ret_then ?_
              refine E_ret_then ?_
              refine E_ret_block ?_
              refine E_ret_then ?_
              obtain rfl := Option.some.inj hm
              refine E_drop (List.Sublist.cons _ (List.Sublist.cons _ (List.Sublist.refl _))) ?_
              refine E_weak (Hp.le_trans hle169 hle196) ?_
              exact end1 rfl rfl ⟨rfl, rfl, rfl⟩
            · have hm := ite_f' hb197 hm
              refine C_skip ?_
              refine E_normal_block ?_
              refine E_then ?_
              refine C_region ?_
              refine W_bin rfl rfl rfl rfl rfl ?_
              refine W_move rfl rfl rfl ?_
              refine W_end ?_
              refine E_drop (List.Sublist.cons _ (List.Sublist.refl _)) ?_
              exact E_keepJ (E_back (Nat.lt_succ_self _) ⟨k115 + 1, zs176, hd179, rfl, (by rw [hn172]; exact hm), (Hp.le_trans hle169 hle196), rfl, rfl⟩) (List.Perm.refl _) ⟨rfl, rfl, rfl, rfl, rfl, rfl, (congrArg (fun z => some (Value.int .i64 z)) (i64_succ hy177 hmx174)), trivial⟩
          · have hm := ite_t' hb190 hm
            rcases (Bool.eq_false_or_eq_true (closing)).symm with hb198 | hb198
            · have hm := ite_f' hb198 hm
              refine C_region_tok0 31 (phiT [(fun H rs v => [] = rs ∧ .pointer (some ⟨b182, 0, none⟩) = v), (fun H rs v => [] = rs ∧ .string (y175.Name) = v), (fun H rs v => [] = rs ∧ v0 = v), (fun H rs v => [] = rs ∧ .int .i64 ((k115 : Int)) = v), (fun H rs v => [] = rs ∧ .pointer (some ((Value.base (v0)).add (((k115 : Int) : Int).toNat * 2))) = v), (fun H rs v => [] = rs ∧ .pointer (some ((Value.base (v0)).add (((k115 : Int) : Int).toNat * 2))) = v), (fun H rs v => [] = rs ∧ .string (y183.Name) = v), (fun H rs v => [] = rs ∧ .bool (false) = v), (fun H rs v => [] = rs ∧ .bool (false) = v), (fun H rs v => [] = rs ∧ .pointer (some ⟨b182, 1, none⟩) = v), (fun H rs v => [] = rs ∧ .bool (y175.Closed) = v), (fun H rs v => [] = rs ∧ .pointer (some ⟨b182, 0, none⟩) = v), (fun H rs v => [] = rs ∧ .string (y175.Name) = v), (fun H rs v => [] = rs ∧ .string (name) = v), (fun H rs v => [] = rs ∧ .bool (true) = v), (fun H rs v => [] = rs ∧ .bool (true) = v), (fun H rs v => [] = rs ∧ .bool (false) = v), (fun H rs v => [] = rs ∧ .bool (false) = v), (fun H rs v => [] = rs ∧ .bool (false) = v), (fun H rs v => [] = rs ∧ .pointer (some ⟨b182, 0, none⟩) = v), (fun H rs v => [] = rs ∧ .string (y175.Name) = v), (fun H rs v => [] = rs ∧ .string (name) = v), (fun H rs v => [] = rs ∧ .bool (false) = v), (fun H rs v => [] = rs ∧ .bool (false) = v), (fun H rs v => [] = rs ∧ undef = v), (fun H rs v => [] = rs ∧ undef = v), (fun H rs v => [] = rs ∧ undef = v), (fun H rs v => [] = rs ∧ undef = v), (fun H rs v => [] = rs ∧ undef = v), (fun H rs v => [] = rs ∧ .bool (false) = v), (fun H rs v => [] = rs ∧ .bool (false) = v)]) [[], [], [], [], [], [], [], [], [], [], [], [], [], [], [], [], [], [], [], [], [], [], [], [], [], [], [], [], [], [], []] [[], [], [], [], [], [], [], [], [], [], [], [], [], [], [], [], [], [], [], [], [], [], [], [], [], [], [], [], [], [], []] [] [0, 1, 2, 3, 4, 5, 6, 7, 8, 9, 10, 11, 12, 13, 14, 15, 16, 17, 18, 19, 20, 21, 22, 23, 24, 25, 26, 27, 28, 29, 30] Facts.mixed (by kernel_rfl) rfl rfl rfl (by kernel_rfl) (phiT_mono ⟨eq_monoT _ _, eq_monoT _ _, eq_monoT _ _, eq_monoT _ _, eq_monoT _ _, eq_monoT _ _, eq_monoT _ _, eq_monoT _ _, eq_monoT _ _, eq_monoT _ _, eq_monoT _ _, eq_monoT _ _, eq_monoT _ _, eq_monoT _ _, eq_monoT _ _, eq_monoT _ _, eq_monoT _ _, eq_monoT _ _, eq_monoT _ _, eq_monoT _ _, eq_monoT _ _, eq_monoT _ _, eq_monoT _ _, eq_monoT _ _, eq_monoT _ _, eq_monoT _ _, eq_monoT _ _, eq_monoT _ _, eq_monoT _ _, eq_monoT _ _, eq_monoT _ _, trivial⟩) ⟨?_, ?_, ?_, ?_, ?_, ?_, ?_, ?_, ?_, ?_, ?_, ?_, ?_, ?_, ?_, ?_, ?_, ?_, ?_, ?_, ?_, ?_, ?_, ?_, ?_, ?_, ?_, ?_, ?_, ?_, ?_, trivial⟩ ?_
              · intro HX hX X Rest hR
                intro hU hUp
                refine W_field (o := 0) rfl rfl Proofs.Tryd.runUnderlying49 rfl Proofs.Tryd.sizeOf9 rfl rfl rfl ?_
                exact W_end (OneT_end [] (Hp.le_refl _) ⟨rfl, rfl⟩)
              · intro HX hX X Rest hR
                rintro _ _ ⟨rfl, rfl⟩
                intro hU hUp
                refine W_load rfl rfl Proofs.Tryd.isAgg9 rfl (own_at (hR _ (List.mem_cons_self ..)) rfl) ?_
                exact W_end (OneT_end [] (Hp.le_refl _) ⟨rfl, rfl⟩)
              · intro HX hX X Rest hR
                intro hU hUp
                refine W_move rfl rfl rfl ?_
                exact W_end (OneT_end [] (Hp.le_refl _) ⟨rfl, rfl⟩)
              · intro HX hX X Rest hR
                intro hU hUp
                refine W_move rfl rfl rfl ?_
                exact W_end (OneT_end [] (Hp.le_refl _) ⟨rfl, rfl⟩)
              · intro HX hX X Rest hR
                rintro _ _ ⟨rfl, rfl⟩
                rintro _ _ ⟨rfl, rfl⟩
                intro hU hUp
                refine W_indexS rfl rfl Proofs.Tryd.runUnderlying39 Proofs.Tryd.sizeOf49 rfl ((h0.mono hle169).mono hX) rfl h184 he185 ?_
                exact W_end (OneT_end [] (Hp.le_refl _) ⟨rfl, rfl⟩)
              · intro HX hX X Rest hR
                rintro _ _ ⟨rfl, rfl⟩
                intro hU hUp
                refine W_field (o := 0) rfl rfl Proofs.Tryd.runUnderlying49 rfl Proofs.Tryd.sizeOf9 rfl rfl rfl ?_
                exact W_end (OneT_end [] (Hp.le_refl _) ⟨rfl, rfl⟩)
              · intro HX hX X Rest hR
                rintro _ _ ⟨rfl, rfl⟩
                intro hU hUp
                refine W_load rfl rfl Proofs.Tryd.isAgg9 rfl (HCells.one ((hc186.mono hle169).mono hX) 0 rfl).at ?_
                exact W_end (OneT_end [] (Hp.le_refl _) ⟨rfl, rfl⟩)
              · intro HX hX X Rest hR
                rintro _ _ ⟨rfl, rfl⟩
                rintro _ _ ⟨rfl, rfl⟩
                intro hU hUp
                refine W_bin rfl rfl rfl rfl rfl ?_
                exact W_end (OneT_end [] (Hp.le_refl _) ⟨rfl, (by first | rfl | (rw [hb187]; try rfl))⟩)
              · intro HX hX X Rest hR
                rintro _ _ ⟨rfl, rfl⟩
                intro hU hUp
                refine W_move rfl rfl rfl ?_
                exact W_end (OneT_end [] (Hp.le_refl _) ⟨rfl, rfl⟩)
              · intro HX hX X Rest hR
                rintro _ _ ⟨rfl, rfl⟩
                intro hU hUp
                refine W_field (o := 1) rfl rfl Proofs.Tryd.runUnderlying49 rfl Proofs.Tryd.sizeOf4 rfl rfl rfl ?_
                exact W_end (OneT_end [] (Hp.le_refl _) ⟨rfl, rfl⟩)
              · intro HX hX X Rest hR
                rintro _ _ ⟨rfl, rfl⟩
                rintro _ _ ⟨rfl, rfl⟩
                intro hU hUp
                refine W_load rfl rfl Proofs.Tryd.isAgg4 rfl (own_at (hR _ (List.mem_cons_self ..)) rfl) ?_
                exact W_end (OneT_end [] (Hp.le_refl _) ⟨rfl, rfl⟩)
              · intro HX hX X Rest hR
                rintro _ _ ⟨rfl, rfl⟩
                intro hU hUp
                refine W_field (o := 0) rfl rfl Proofs.Tryd.runUnderlying49 rfl Proofs.Tryd.sizeOf9 rfl rfl rfl ?_
                exact W_end (OneT_end [] (Hp.le_refl _) ⟨rfl, rfl⟩)
              · intro HX hX X Rest hR
                rintro _ _ ⟨rfl, rfl⟩
                rintro _ _ ⟨rfl, rfl⟩
                intro hU hUp
                refine W_load rfl rfl Proofs.Tryd.isAgg9 rfl (own_at (hR _ (List.mem_cons_self ..)) rfl) ?_
                exact W_end (OneT_end [] (Hp.le_refl _) ⟨rfl, rfl⟩)
              · intro HX hX X Rest hR
                rintro _ _ ⟨rfl, rfl⟩
                intro hU hUp
                refine W_move rfl rfl rfl ?_
                exact W_end (OneT_end [] (Hp.le_refl _) ⟨rfl, rfl⟩)
              · intro HX hX X Rest hR
                rintro _ _ ⟨rfl, rfl⟩
                rintro _ _ ⟨rfl, rfl⟩
                rintro _ _ ⟨rfl, rfl⟩
                intro hU hUp
                refine W_bin rfl rfl rfl rfl rfl ?_
                exact W_end (OneT_end [] (Hp.le_refl _) ⟨rfl, (by first | rfl | (rw [hb190]; try rfl))⟩)
              · intro HX hX X Rest hR
                rintro _ _ ⟨rfl, rfl⟩
                rintro _ _ ⟨rfl, rfl⟩
                rintro _ _ ⟨rfl, rfl⟩
                intro hU hUp
                refine W_move rfl rfl rfl ?_
                exact W_end (OneT_end [] (Hp.le_refl _) ⟨rfl, rfl⟩)
              · intro HX hX X Rest hR
                rintro _ _ ⟨rfl, rfl⟩
                intro hU hUp
                refine W_move rfl rfl rfl ?_
                exact W_end (OneT_end [] (Hp.le_refl _) ⟨rfl, (by first | rfl | (rw [hb198]; try rfl))⟩)
              · intro HX hX X Rest hR
                rintro _ _ ⟨rfl, rfl⟩
                rintro _ _ ⟨rfl, rfl⟩
                rintro _ _ ⟨rfl, rfl⟩
                intro hU hUp
                refine W_pick rfl rfl rfl rfl ?_
                exact W_end (OneT_end [] (Hp.le_refl _) ⟨rfl, rfl⟩)
              · intro HX hX X Rest hR
                rintro _ _ ⟨rfl, rfl⟩
                rintro _ _ ⟨rfl, rfl⟩
                rintro _ _ ⟨rfl, rfl⟩
                intro hU hUp
                refine W_move rfl rfl rfl ?_
                exact W_end (OneT_end [] (Hp.le_refl _) ⟨rfl, rfl⟩)
              · intro HX hX X Rest hR
                rintro _ _ ⟨rfl, rfl⟩
                intro hU hUp
                refine W_field (o := 0) rfl rfl Proofs.Tryd.runUnderlying49 rfl Proofs.Tryd.sizeOf9 rfl rfl rfl ?_
                exact W_end (OneT_end [] (Hp.le_refl _) ⟨rfl, rfl⟩)
              · intro HX hX X Rest hR
                rintro _ _ ⟨rfl, rfl⟩
                rintro _ _ ⟨rfl, rfl⟩
                intro hU hUp
                refine W_load rfl rfl Proofs.Tryd.isAgg9 rfl (own_at (hR _ (List.mem_cons_self ..)) rfl) ?_
                exact W_end (OneT_end [] (Hp.le_refl _) ⟨rfl, rfl⟩)
              · intro HX hX X Rest hR
                rintro _ _ ⟨rfl, rfl⟩
                intro hU hUp
                refine W_move rfl rfl rfl ?_
                exact W_end (OneT_end [] (Hp.le_refl _) ⟨rfl, rfl⟩)
              · intro HX hX X Rest hR
                rintro _ _ ⟨rfl, rfl⟩
                rintro _ _ ⟨rfl, rfl⟩
                rintro _ _ ⟨rfl, rfl⟩
                intro hU hUp
                refine W_bin rfl rfl rfl rfl rfl ?_
                exact W_end (OneT_end [] (Hp.le_refl _) ⟨rfl, (by first | rfl | (rw [hb190]; try rfl))⟩)
              · intro HX hX X Rest hR
                rintro _ _ ⟨rfl, rfl⟩
                rintro _ _ ⟨rfl, rfl⟩
                rintro _ _ ⟨rfl, rfl⟩
                intro hU hUp
                refine W_move rfl rfl rfl ?_
                exact W_end (OneT_end [] (Hp.le_refl _) ⟨rfl, rfl⟩)
              · intro HX hX X Rest hR
                rintro _ _ ⟨rfl, rfl⟩
                intro hU hUp
                refine W_no rfl rfl rfl ?_
                exact W_end (OneT_end [] (Hp.le_refl _) ⟨rfl, rfl⟩)
              · intro HX hX X Rest hR
                rintro _ _ ⟨rfl, rfl⟩
                intro hU hUp
                refine W_no rfl rfl rfl ?_
                exact W_end (OneT_end [] (Hp.le_refl _) ⟨rfl, rfl⟩)
              · intro HX hX X Rest hR
                rintro _ _ ⟨rfl, rfl⟩
                rintro _ _ ⟨rfl, rfl⟩
                rintro _ _ ⟨rfl, rfl⟩
                intro hU hUp
                refine W_no rfl rfl rfl ?_
                exact W_end (OneT_end [] (Hp.le_refl _) ⟨rfl, rfl⟩)
              · intro HX hX X Rest hR
                rintro _ _ ⟨rfl, rfl⟩
                rintro _ _ ⟨rfl, rfl⟩
                intro hU hUp
                refine W_no rfl rfl rfl ?_
                exact W_end (OneT_end [] (Hp.le_refl _) ⟨rfl, rfl⟩)
              · intro HX hX X Rest hR
                rintro _ _ ⟨rfl, rfl⟩
                rintro _ _ ⟨rfl, rfl⟩
                intro hU hUp
                refine W_no rfl rfl rfl ?_
                exact W_end (OneT_end [] (Hp.le_refl _) ⟨rfl, rfl⟩)
              · intro HX hX X Rest hR
                rintro _ _ ⟨rfl, rfl⟩
                rintro _ _ ⟨rfl, rfl⟩
                rintro _ _ ⟨rfl, rfl⟩
                intro hU hUp
                refine W_pick rfl rfl rfl rfl ?_
                exact W_end (OneT_end [] (Hp.le_refl _) ⟨rfl, rfl⟩)
              · intro HX hX X Rest hR
                rintro _ _ ⟨rfl, rfl⟩
                rintro _ _ ⟨rfl, rfl⟩
                rintro _ _ ⟨rfl, rfl⟩
                intro hU hUp
                refine W_pick rfl rfl rfl rfl ?_
                exact W_end (OneT_end [] (Hp.le_refl _) ⟨rfl, rfl⟩)
              intro H199 hle200
              rintro _ _ ⟨rfl, rfl⟩
              rintro _ _ ⟨rfl, rfl⟩
              rintro _ _ ⟨rfl, rfl⟩
              rintro _ _ ⟨rfl, rfl⟩
              rintro _ _ ⟨rfl, rfl⟩
              rintro _ _ ⟨rfl, rfl⟩
              rintro _ _ ⟨rfl, rfl⟩
              rintro _ _ ⟨rfl, rfl⟩
              rintro _ _ ⟨rfl, rfl⟩
              rintro _ _ ⟨rfl, rfl⟩
              rintro _ _ ⟨rfl, rfl⟩
              rintro _ _ ⟨rfl, rfl⟩
              rintro _ _ ⟨rfl, rfl⟩
              rintro _ _ ⟨rfl, rfl⟩
              rintro _ _ ⟨rfl, rfl⟩
              rintro _ _ ⟨rfl, rfl⟩
              rintro _ _ ⟨rfl, rfl⟩
              rintro _ _ ⟨rfl, rfl⟩
              rintro _ _ ⟨rfl, rfl⟩
              rintro _ _ ⟨rfl, rfl⟩
              rintro _ _ ⟨rfl, rfl⟩
              rintro _ _ ⟨rfl, rfl⟩
              rintro _ _ ⟨rfl, rfl⟩
              rintro _ _ ⟨rfl, rfl⟩
              rintro _ _ ⟨rfl, rfl⟩
              rintro _ _ ⟨rfl, rfl⟩
              rintro _ _ ⟨rfl, rfl⟩
              rintro _ _ ⟨rfl, rfl⟩
              rintro _ _ ⟨rfl, rfl⟩
              rintro _ _ ⟨rfl, rfl⟩
              rintro _ _ ⟨rfl, rfl⟩
              refine W_neBool rfl rfl Proofs.Tryd.runUnderlying4 rfl rfl ?_
              refine W_pick rfl rfl rfl rfl ?_
              refine W_end ?_
              refine E_then ?_
              refine C_cond (b := !decide (y175.Closed = false)) rfl (fun hb201 => ?_) (fun hb201 => ?_)
              · have hm := ite_t' hb201 hm
                refine C_seq ?_
                refine C_region ?_
                refine W_assign rfl rfl rfl ?_
                refine W_end ?_
                refine E_then ?_
                refine C_ret ?_
                refine E_ret_block ?_
                refine E_ret_then ?_
                refine E_ret_then ?_
                refine E_ret_block ?_
                refine E_ret_then ?_
                obtain rfl := Option.some.inj hm
                refine E_drop (List.Sublist.cons _ (List.Sublist.cons _ (List.Sublist.refl _))) ?_
                refine E_weak (Hp.le_trans hle169 hle200) ?_
                exact end1 rfl rfl ⟨rfl, rfl, rfl⟩
              · have hm := ite_f' hb201 hm
                refine C_skip ?_
                refine E_normal_block ?_
                refine E_then ?_
                refine C_region ?_
                refine W_bin rfl rfl rfl rfl rfl ?_
                refine W_move rfl rfl rfl ?_
                refine W_end ?_
                refine E_drop (List.Sublist.cons _ (List.Sublist.refl _)) ?_
                exact E_keepJ (E_back (Nat.lt_succ_self _) ⟨k115 + 1, zs176, hd179, rfl, (by rw [hn172]; exact hm), (Hp.le_trans hle169 hle200), rfl, rfl⟩) (List.Perm.refl _) ⟨rfl, rfl, rfl, rfl, rfl, rfl, (congrArg (fun z => some (Value.int .i64 z)) (i64_succ hy177 hmx174)), trivial⟩
            · have hm := ite_t' hb198 hm
              refine C_region_tok0 31 (phiT [(fun H rs v => [] = rs ∧ .pointer (some ⟨b182, 0, none⟩) = v), (fun H rs v => [] = rs ∧ .string (y175.Name) = v), (fun H rs v => [] = rs ∧ v0 = v), (fun H rs v => [] = rs ∧ .int .i64 ((k115 : Int)) = v), (fun H rs v => [] = rs ∧ .pointer (some ((Value.base (v0)).add (((k115 : Int) : Int).toNat * 2))) = v), (fun H rs v => [] = rs ∧ .pointer (some ((Value.base (v0)).add (((k115 : Int) : Int).toNat * 2))) = v), (fun H rs v => [] = rs ∧ .string (y183.Name) = v), (fun H rs v => [] = rs ∧ .bool (false) = v), (fun H rs v => [] = rs ∧ .bool (false) = v), (fun H rs v => [] = rs ∧ .pointer (some ⟨b182, 1, none⟩) = v), (fun H rs v => [] = rs ∧ .bool (y175.Closed) = v), (fun H rs v => [] = rs ∧ .pointer (some ⟨b182, 0, none⟩) = v), (fun H rs v => [] = rs ∧ .string (y175.Name) = v), (fun H rs v => [] = rs ∧ .string (name) = v), (fun H rs v => [] = rs ∧ .bool (true) = v), (fun H rs v => [] = rs ∧ .bool (true) = v), (fun H rs v => [] = rs ∧ .bool (true) = v), (fun H rs v => [] = rs ∧ .bool (true) = v), (fun H rs v => [] = rs ∧ .bool (true) = v), (fun H rs v => [] = rs ∧ undef = v), (fun H rs v => [] = rs ∧ undef = v), (fun H rs v => [] = rs ∧ undef = v), (fun H rs v => [] = rs ∧ undef = v), (fun H rs v => [] = rs ∧ undef = v), (fun H rs v => [] = rs ∧ undef = v), (fun H rs v => [] = rs ∧ undef = v), (fun H rs v => [] = rs ∧ undef = v), (fun H rs v => [] = rs ∧ undef = v), (fun H rs v => [] = rs ∧ undef = v), (fun H rs v => [] = rs ∧ undef = v), (fun H rs v => [] = rs ∧ .bool (true) = v)]) [[], [], [], [], [], [], [], [], [], [], [], [], [], [], [], [], [], [], [], [], [], [], [], [], [], [], [], [], [], [], []] [[], [], [], [], [], [], [], [], [], [], [], [], [], [], [], [], [], [], [], [], [], [], [], [], [], [], [], [], [], [], []] [] [0, 1, 2, 3, 4, 5, 6, 7, 8, 9, 10, 11, 12, 13, 14, 15, 16, 17, 18, 19, 20, 21, 22, 23, 24, 25, 26, 27, 28, 29, 30] Facts.mixed (by kernel_rfl) rfl rfl rfl (by kernel_rfl) (phiT_mono ⟨eq_monoT _ _, eq_monoT _ _, eq_monoT _ _, eq_monoT _ _, eq_monoT _ _, eq_monoT _ _, eq_monoT _ _, eq_monoT _ _, eq_monoT _ _, eq_monoT _ _, eq_monoT _ _, eq_monoT _ _, eq_monoT _ _, eq_monoT _ _, eq_monoT _ _, eq_monoT _ _, eq_monoT _ _, eq_monoT _ _, eq_monoT _ _, eq_monoT _ _, eq_monoT _ _, eq_monoT _ _, eq_monoT _ _, eq_monoT _ _, eq_monoT _ _, eq_monoT _ _, eq_monoT _ _, eq_monoT _ _, eq_monoT _ _, eq_monoT _ _, eq_monoT _ _, trivial⟩) ⟨?_, ?_, ?_, ?_, ?_, ?_, ?_, ?_, ?_, ?_, ?_, ?_, ?_, ?_, ?_, ?_, ?_, ?_, ?_, ?_, ?_, ?_, ?_, ?_, ?_, ?_, ?_, ?_, ?_, ?_, ?_, trivial⟩ ?_
              · intro HX hX X Rest hR
                intro hU hUp
                refine W_field (o := 0) rfl rfl Proofs.Tryd.runUnderlying49 rfl Proofs.Tryd.sizeOf9 rfl rfl rfl ?_
                exact W_end (OneT_end [] (Hp.le_refl _) ⟨rfl, rfl⟩)
              · intro HX hX X Rest hR
                rintro _ _ ⟨rfl, rfl⟩
                intro hU hUp
                refine W_load rfl rfl Proofs.Tryd.isAgg9 rfl (own_at (hR _ (List.mem_cons_self ..)) rfl) ?_
                exact W_end (OneT_end [] (Hp.le_refl _) ⟨rfl, rfl⟩)
              · intro HX hX X Rest hR
                intro hU hUp
                refine W_move rfl rfl rfl ?_
                exact W_end (OneT_end [] (Hp.le_refl _) ⟨rfl, rfl⟩)
              · intro HX hX X Rest hR
                intro hU hUp
                refine W_move rfl rfl rfl ?_
                exact W_end (OneT_end [] (Hp.le_refl _) ⟨rfl, rfl⟩)
              · intro HX hX X Rest hR
                rintro _ _ ⟨rfl, rfl⟩
                rintro _ _ ⟨rfl, rfl⟩
                intro hU hUp
                refine W_indexS rfl rfl Proofs.Tryd.runUnderlying39 Proofs.Tryd.sizeOf49 rfl ((h0.mono hle169).mono hX) rfl h184 he185 ?_
                exact W_end (OneT_end [] (Hp.le_refl _) ⟨rfl, rfl⟩)
              · intro HX hX X Rest hR
                rintro _ _ ⟨rfl, rfl⟩
                intro hU hUp
                refine W_field (o := 0) rfl rfl Proofs.Tryd.runUnderlying49 rfl Proofs.Tryd.sizeOf9 rfl rfl rfl ?_
                exact W_end (OneT_end [] (Hp.le_refl _) ⟨rfl, rfl⟩)
              · intro HX hX X Rest hR
                rintro _ _ ⟨rfl, rfl⟩
                intro hU hUp
                refine W_load rfl rfl Proofs.Tryd.isAgg9 rfl (HCells.one ((hc186.mono hle169).mono hX) 0 rfl).at ?_
                exact W_end (OneT_end [] (Hp.le_refl _) ⟨rfl, rfl⟩)
              · intro HX hX X Rest hR
                rintro _ _ ⟨rfl, rfl⟩
                rintro _ _ ⟨rfl, rfl⟩
                intro hU hUp
                refine W_bin rfl rfl rfl rfl rfl ?_
                exact W_end (OneT_end [] (Hp.le_refl _) ⟨rfl, (by first | rfl | (rw [hb187]; try rfl))⟩)
              · intro HX hX X Rest hR
                rintro _ _ ⟨rfl, rfl⟩
                intro hU hUp
                refine W_move rfl rfl rfl ?_
                exact W_end (OneT_end [] (Hp.le_refl _) ⟨rfl, rfl⟩)
              · intro HX hX X Rest hR
                rintro _ _ ⟨rfl, rfl⟩
                intro hU hUp
                refine W_field (o := 1) rfl rfl Proofs.Tryd.runUnderlying49 rfl Proofs.Tryd.sizeOf4 rfl rfl rfl ?_
                exact W_end (OneT_end [] (Hp.le_refl _) ⟨rfl, rfl⟩)
              · intro HX hX X Rest hR
                rintro _ _ ⟨rfl, rfl⟩
                rintro _ _ ⟨rfl, rfl⟩
                intro hU hUp
                refine W_load rfl rfl Proofs.Tryd.isAgg4 rfl (own_at (hR _ (List.mem_cons_self ..)) rfl) ?_
                exact W_end (OneT_end [] (Hp.le_refl _) ⟨rfl, rfl⟩)
              · intro HX hX X Rest hR
                rintro _ _ ⟨rfl, rfl⟩
                intro hU hUp
                refine W_field (o := 0) rfl rfl Proofs.Tryd.runUnderlying49 rfl Proofs.Tryd.sizeOf9 rfl rfl rfl ?_
                exact W_end (OneT_end [] (Hp.le_refl _) ⟨rfl, rfl⟩)
              · intro HX hX X Rest hR
                rintro _ _ ⟨rfl, rfl⟩
                rintro _ _ ⟨rfl, rfl⟩
                intro hU hUp
                refine W_load rfl rfl Proofs.Tryd.isAgg9 rfl (own_at (hR _ (List.mem_cons_self ..)) rfl) ?_
                exact W_end (OneT_end [] (Hp.le_refl _) ⟨rfl, rfl⟩)
              · intro HX hX X Rest hR
                rintro _ _ ⟨rfl, rfl⟩
                intro hU hUp
                refine W_move rfl rfl rfl ?_
                exact W_end (OneT_end [] (Hp.le_refl _) ⟨rfl, rfl⟩)
              · intro HX hX X Rest hR
                rintro _ _ ⟨rfl, rfl⟩
                rintro _ _ ⟨rfl, rfl⟩
                rintro _ _ ⟨rfl, rfl⟩
                intro hU hUp
                refine W_bin rfl rfl rfl rfl rfl ?_
                exact W_end (OneT_end [] (Hp.le_refl _) ⟨rfl, (by first | rfl | (rw [hb190]; try rfl))⟩)
              · intro HX hX X Rest hR
                rintro _ _ ⟨rfl, rfl⟩
                rintro _ _ ⟨rfl, rfl⟩
                rintro _ _ ⟨rfl, rfl⟩
                intro hU hUp
                refine W_move rfl rfl rfl ?_
                exact W_end (OneT_end [] (Hp.le_refl _) ⟨rfl, rfl⟩)
              · intro HX hX X Rest hR
                rintro _ _ ⟨rfl, rfl⟩
                intro hU hUp
                refine W_move rfl rfl rfl ?_
                exact W_end (OneT_end [] (Hp.le_refl _) ⟨rfl, (by first | rfl | (rw [hb198]; try rfl))⟩)
              · intro HX hX X Rest hR
                rintro _ _ ⟨rfl, rfl⟩
                rintro _ _ ⟨rfl, rfl⟩
                rintro _ _ ⟨rfl, rfl⟩
                intro hU hUp
                refine W_pick rfl rfl rfl rfl ?_
                exact W_end (OneT_end [] (Hp.le_refl _) ⟨rfl, rfl⟩)
              · intro HX hX X Rest hR
                rintro _ _ ⟨rfl, rfl⟩
                rintro _ _ ⟨rfl, rfl⟩
                rintro _ _ ⟨rfl, rfl⟩
                intro hU hUp
                refine W_move rfl rfl rfl ?_
                exact W_end (OneT_end [] (Hp.le_refl _) ⟨rfl, rfl⟩)
              · intro HX hX X Rest hR
                rintro _ _ ⟨rfl, rfl⟩
                intro hU hUp
                refine W_no rfl rfl rfl ?_
                exact W_end (OneT_end [] (Hp.le_refl _) ⟨rfl, rfl⟩)
              · intro HX hX X Rest hR
                rintro _ _ ⟨rfl, rfl⟩
                rintro _ _ ⟨rfl, rfl⟩
                intro hU hUp
                refine W_no rfl rfl rfl ?_
                exact W_end (OneT_end [] (Hp.le_refl _) ⟨rfl, rfl⟩)
              · intro HX hX X Rest hR
                rintro _ _ ⟨rfl, rfl⟩
                intro hU hUp
                refine W_no rfl rfl rfl ?_
                exact W_end (OneT_end [] (Hp.le_refl _) ⟨rfl, rfl⟩)
              · intro HX hX X Rest hR
                rintro _ _ ⟨rfl, rfl⟩
                rintro _ _ ⟨rfl, rfl⟩
                rintro _ _ ⟨rfl, rfl⟩
                intro hU hUp
                refine W_no rfl rfl rfl ?_
                exact W_end (OneT_end [] (Hp.le_refl _) ⟨rfl, rfl⟩)
              · intro HX hX X Rest hR
                rintro _ _ ⟨rfl, rfl⟩
                rintro _ _ ⟨rfl, rfl⟩
                rintro _ _ ⟨rfl, rfl⟩
                intro hU hUp
                refine W_no rfl rfl rfl ?_
                exact W_end (OneT_end [] (Hp.le_refl _) ⟨rfl, rfl⟩)
              · intro HX hX X Rest hR
                rintro _ _ ⟨rfl, rfl⟩
                intro hU hUp
                refine W_no rfl rfl rfl ?_
                exact W_end (OneT_end [] (Hp.le_refl _) ⟨rfl, rfl⟩)
              · intro HX hX X Rest hR
                rintro _ _ ⟨rfl, rfl⟩
                intro hU hUp
                refine W_no rfl rfl rfl ?_
                exact W_end (OneT_end [] (Hp.le_refl _) ⟨rfl, rfl⟩)
              · intro HX hX X Rest hR
                rintro _ _ ⟨rfl, rfl⟩
                rintro _ _ ⟨rfl, rfl⟩
                rintro _ _ ⟨rfl, rfl⟩
                intro hU hUp
                refine W_no rfl rfl rfl ?_
                exact W_end (OneT_end [] (Hp.le_refl _) ⟨rfl, rfl⟩)
              · intro HX hX X Rest hR
                rintro _ _ ⟨rfl, rfl⟩
                rintro _ _ ⟨rfl, rfl⟩
                intro hU hUp
                refine W_no rfl rfl rfl ?_
                exact W_end (OneT_end [] (Hp.le_refl _) ⟨rfl, rfl⟩)
              · intro HX hX X Rest hR
                rintro _ _ ⟨rfl, rfl⟩
                rintro _ _ ⟨rfl, rfl⟩
                intro hU hUp
                refine W_no rfl rfl rfl ?_
                exact W_end (OneT_end [] (Hp.le_refl _) ⟨rfl, rfl⟩)
              · intro HX hX X Rest hR
                rintro _ _ ⟨rfl, rfl⟩
                rintro _ _ ⟨rfl, rfl⟩
                rintro _ _ ⟨rfl, rfl⟩
                intro hU hUp
                refine W_no rfl rfl rfl ?_
                exact W_end (OneT_end [] (Hp.le_refl _) ⟨rfl, rfl⟩)
              · intro HX hX X Rest hR
                rintro _ _ ⟨rfl, rfl⟩
                rintro _ _ ⟨rfl, rfl⟩
                rintro _ _ ⟨rfl, rfl⟩
                intro hU hUp
                refine W_pick rfl rfl rfl rfl ?_
                exact W_end (OneT_end [] (Hp.le_refl _) ⟨rfl, rfl⟩)
              intro H202 hle203
              rintro _ _ ⟨rfl, rfl⟩
              rintro _ _ ⟨rfl, rfl⟩
              rintro _ _ ⟨rfl, rfl⟩
              rintro _ _ ⟨rfl, rfl⟩
              rintro _ _ ⟨rfl, rfl⟩
              rintro _ _ ⟨rfl, rfl⟩
              rintro _ _ ⟨rfl, rfl⟩
              rintro _ _ ⟨rfl, rfl⟩
              rintro _ _ ⟨rfl, rfl⟩
              rintro _ _ ⟨rfl, rfl⟩
              rintro _ _ ⟨rfl, rfl⟩
              rintro _ _ ⟨rfl, rfl⟩
              rintro _ _ ⟨rfl, rfl⟩
              rintro _ _ ⟨rfl, rfl⟩
              rintro _ _ ⟨rfl, rfl⟩
              rintro _ _ ⟨rfl, rfl⟩
              rintro _ _ ⟨rfl, rfl⟩
              rintro _ _ ⟨rfl, rfl⟩
              rintro _ _ ⟨rfl, rfl⟩
              rintro _ _ ⟨rfl, rfl⟩
              rintro _ _ ⟨rfl, rfl⟩
              rintro _ _ ⟨rfl, rfl⟩
              rintro _ _ ⟨rfl, rfl⟩
              rintro _ _ ⟨rfl, rfl⟩
              rintro _ _ ⟨rfl, rfl⟩
              rintro _ _ ⟨rfl, rfl⟩
              rintro _ _ ⟨rfl, rfl⟩
              rintro _ _ ⟨rfl, rfl⟩
              rintro _ _ ⟨rfl, rfl⟩
              rintro _ _ ⟨rfl, rfl⟩
              rintro _ _ ⟨rfl, rfl⟩
              refine W_neBool rfl rfl Proofs.Tryd.runUnderlying4 rfl rfl ?_
              refine W_pick rfl rfl rfl rfl ?_
              refine W_end ?_
              refine E_then ?_
              refine C_cond (b := !decide (y175.Closed = true)) rfl (fun hb204 => ?_) (fun hb204 => ?_)
              · have hm := ite_t' hb204 hm
                refine C_seq ?_
                refine C_region ?_
                refine W_assign rfl rfl rfl ?_
                refine W_end ?_
                refine E_then ?_
                refine C_ret ?_
                refine E_ret_block ?_
                refine E_ret_then ?_
                refine E_ret_then ?_
                refine E_ret_block ?_
                refine E_ret_then ?_
                obtain rfl := Option.some.inj hm
                refine E_drop (List.Sublist.cons _ (List.Sublist.cons _ (List.Sublist.refl _))) ?_
                refine E_weak (Hp.le_trans hle169 hle203) ?_
                exact end1 rfl rfl ⟨rfl, rfl, rfl⟩
              · have hm := ite_f' hb204 hm
                refine C_skip ?_
                refine E_normal_block ?_
                refine E_then ?_
                refine C_region ?_
                refine W_bin rfl rfl rfl rfl rfl ?_
                refine W_move rfl rfl rfl ?_
                refine W_end ?_
                refine E_drop (List.Sublist.cons _ (List.Sublist.refl _)) ?_
                exact E_keepJ (E_back (Nat.lt_succ_self _) ⟨k115 + 1, zs176, hd179, rfl, (by rw [hn172]; exact hm), (Hp.le_trans hle169 hle203), rfl, rfl⟩) (List.Perm.refl _) ⟨rfl, rfl, rfl, rfl, rfl, rfl, (congrArg (fun z => some (Value.int .i64 z)) (i64_succ hy177 hmx174)), trivial⟩
      · obtain rfl := rng_f hd178 hb180
        have hm : ((m_interlock_Set r101.1 (!closing) name).bind fun r205 => (m_interlock_Set r101.1 closing name).bind fun r210 => (m_gridhallkeep4_interlockFact).bind fun r215 => if r215 then (if decide (r205.2 = 0) then (if decide (r210.2 = 11) then ((m_slices_Equal_api_InterlockState_api_InterlockState r205.1 states).bind fun r220 => some r220) else (some false)) else (some false)) else (some false)) = some r := hm
        refine C_exit (E_exit_then ?_)
        refine E_exit_then ?_
        refine E_exit_hit ?_
        refine E_then ?_
        refine C_seq ?_
        refine C_region ?_
        refine W_move rfl rfl rfl ?_
        refine W_move rfl rfl rfl ?_
        refine W_un rfl rfl rfl rfl ?_
        refine W_move rfl rfl rfl ?_
        obtain ⟨r205, hc206, hm⟩ := bind_some hm
        refine W_call Proofs.Tryd.call19 rfl rfl rfl (fun w ht => by obtain ⟨H0_, hl0_, ht0_, hr0_, bk0_⟩ := ht.lendRow (h105.mono hle169) rfl; have h := m_interlock_Set_c (hm := hc206) hr0_ ht0_; exact lend_back bk0_ (h)) ?_
        rintro _ _ _ ⟨rfl, ⟨_, rfl, v207, xs208, rfl, rfl, h209⟩⟩
        have h209 := h209 H168
        refine W_move rfl rfl rfl ?_
        refine W_extract rfl rfl rfl rfl ?_
        refine W_extract rfl rfl rfl rfl ?_
        refine W_assign rfl rfl rfl ?_
        refine W_assign rfl rfl rfl ?_
        refine W_end ?_
        refine E_then ?_
        refine C_seq ?_
        refine C_region ?_
        refine W_move rfl rfl rfl ?_
        refine W_move rfl rfl rfl ?_
        refine W_move rfl rfl rfl ?_
        obtain ⟨r210, hc211, hm⟩ := bind_some hm
        refine W_call Proofs.Tryd.call19 rfl rfl rfl (fun w ht => by obtain ⟨H0_, hl0_, ht0_, hr0_, bk0_⟩ := ht.lendRow (h105.mono hle169) rfl; have h := m_interlock_Set_c (hm := hc211) hr0_ ht0_; exact lend_back bk0_ (h)) ?_
        rintro _ _ _ ⟨rfl, ⟨_, rfl, v212, xs213, rfl, rfl, h214⟩⟩
        have h214 := h214 H168
        refine W_move rfl rfl rfl ?_
        refine W_extract rfl rfl rfl rfl ?_
        refine W_extract rfl rfl rfl rfl ?_
        refine W_assign rfl rfl rfl ?_
        refine W_assign rfl rfl rfl ?_
        refine W_end ?_
        refine E_then ?_
        refine C_seq ?_
        refine C_region ?_
        obtain ⟨r215, hc216, hm⟩ := bind_some hm
        refine W_call Proofs.Tryd.call18 rfl rfl rfl (fun w ht => by have h := m_gridhallkeep4_interlockFact_c (hm := hc216)  ht; exact h) ?_
        rintro _ _ _ ⟨rfl, rfl, rfl⟩
        refine W_move rfl rfl rfl ?_
        cases hb217 : (r215)
        · have hm := ite_f' hb217 hm
          refine W_no rfl rfl rfl ?_
          refine W_no rfl rfl rfl ?_
          refine W_pick rfl rfl rfl rfl ?_
          refine W_move rfl rfl rfl ?_
          refine W_no rfl rfl rfl ?_
          refine W_no rfl rfl rfl ?_
          refine W_pick rfl rfl rfl rfl ?_
          refine W_move rfl rfl rfl ?_
          refine W_no rfl rfl rfl ?_
          refine W_no rfl rfl rfl ?_
          refine W_no rfl rfl rfl ?_
          refine W_pick rfl rfl rfl rfl ?_
          refine W_assign rfl rfl rfl ?_
          refine W_end ?_
          refine E_then ?_
          refine C_ret ?_
          obtain rfl := Option.some.inj hm
          refine E_drop (List.Sublist.cons _ (List.Sublist.cons _ (List.Sublist.cons _ (List.Sublist.refl _)))) ?_
          refine E_weak hle169 ?_
          exact end1 rfl rfl ⟨rfl, rfl, rfl⟩
        · have hm := ite_t' hb217 hm
          refine W_move rfl rfl rfl ?_
          refine W_bin rfl rfl rfl rfl rfl ?_
          refine W_pick rfl rfl rfl rfl ?_
          refine W_move rfl rfl rfl ?_
          cases hb218 : (decide (r205.2 = 0))
          · have hm := ite_f' hb218 hm
            refine W_no rfl rfl rfl ?_
            refine W_no rfl rfl rfl ?_
            refine W_pick rfl rfl rfl rfl ?_
            refine W_move rfl rfl rfl ?_
            refine W_no rfl rfl rfl ?_
            refine W_no rfl rfl rfl ?_
            refine W_no rfl rfl rfl ?_
            refine W_pick rfl rfl rfl rfl ?_
            refine W_assign rfl rfl rfl ?_
            refine W_end ?_
            refine E_then ?_
            refine C_ret ?_
            obtain rfl := Option.some.inj hm
            refine E_drop (List.Sublist.cons _ (List.Sublist.cons _ (List.Sublist.cons _ (List.Sublist.refl _)))) ?_
            refine E_weak hle169 ?_
            exact end1 rfl rfl ⟨rfl, rfl, rfl⟩
          · have hm := ite_t' hb218 hm
            refine W_move rfl rfl rfl ?_
            refine W_bin rfl rfl rfl rfl rfl ?_
            refine W_pick rfl rfl rfl rfl ?_
            refine W_move rfl rfl rfl ?_
            cases hb219 : (decide (r210.2 = 11))
            · have hm := ite_f' hb219 hm
              refine W_no rfl rfl rfl ?_
              refine W_no rfl rfl rfl ?_
              refine W_no rfl rfl rfl ?_
              refine W_pick rfl rfl rfl rfl ?_
              refine W_assign rfl rfl rfl ?_
              refine W_end ?_
              refine E_then ?_
              refine C_ret ?_
              obtain rfl := Option.some.inj hm
              refine E_drop (List.Sublist.cons _ (List.Sublist.cons _ (List.Sublist.cons _ (List.Sublist.refl _)))) ?_
              refine E_weak hle169 ?_
              exact end1 rfl rfl ⟨rfl, rfl, rfl⟩
            · have hm := ite_t' hb219 hm
              refine W_move rfl rfl rfl ?_
              refine W_move rfl rfl rfl ?_
              refine W_perm (List.Perm.trans (List.Perm.cons _ (List.Perm.swap _ _ _)) (List.Perm.swap _ _ _)) ?_
              obtain ⟨r220, hc221, hm⟩ := bind_some hm
              refine W_call Proofs.Tryd.call20 rfl rfl rfl (fun w ht => by obtain ⟨H0_, hl0_, ht0_, hr0_, bk0_⟩ := ht.lendRow h209 rfl; have h := m_slices_Equal_api_InterlockState_api_InterlockState_c (hm := hc221) hr0_ ((h0.mono hle169).mono hl0_) ht0_; exact lend_back bk0_ (h)) ?_
              rintro _ _ _ ⟨rfl, ⟨_, rfl, rfl, rfl⟩⟩
              refine W_pick rfl rfl rfl rfl ?_
              refine W_assign rfl rfl rfl ?_
              refine W_end ?_
              refine E_then ?_
              refine C_ret ?_
              obtain rfl := Option.some.inj hm
              refine E_drop (List.Sublist.cons _ (List.Sublist.cons _ (List.Sublist.cons _ (List.Sublist.refl _)))) ?_
              refine E_weak hle169 ?_
              exact end1 rfl rfl ⟨rfl, rfl, rfl⟩

theorem grow38_c {B : Nat} {w0 w : World} {H : Hp} {M : List Res} {n : Int} (hz : 0 ≤ n ∧ n * 48 ≤ 281474976710656) (ht : St B w0 H M w) :
    Calls Proofs.Tryd.prog 38 [.slice none 0 0, .int .i64 n].toArray w (Ret B w0 fun H' M' v => H = H' ∧ ∃ (v' : Value) (xs' : List Value), .row v' 38 (Rep.sz S_api_InterlockRule) ([] : List S_api_InterlockRule).length xs' :: M = M' ∧ v' = v ∧ Rw H v' xs' ([] : List S_api_InterlockRule) ∧ n ≤ Value.cap' v') := by
  refine enter Proofs.Tryd.func38 rfl rfl rfl ht ?_
  have hn : IntKind.i64.wrap (n - IntKind.i64.wrap (((0 : Nat) : Int) - ((0 : Nat) : Int))) = n := by
    rw [show IntKind.i64.wrap (((0 : Nat) : Int) - ((0 : Nat) : Int)) = 0 from rfl, Int.sub_zero, i64_of (by omega) (by omega)]
  refine C_seq ?_
  refine C_region ?_
  refine W_assign rfl rfl rfl ?_
  refine W_end (E_then ?_)
  refine C_seq ?_
  refine C_seq ?_
  refine C_region ?_
  refine W_move rfl rfl rfl ?_
  refine W_bin rfl rfl rfl rfl rfl ?_
  refine W_end (E_then ?_)
  refine C_cond (b := decide (n < 0)) rfl (fun hb => absurd (of_decide_eq_true hb) (by omega)) (fun _ => ?_)
  refine C_skip (E_then ?_)
  refine C_seq_join (fun H1 M1 L1 => ∃ (v' : Value) (xs' : List Value), H = H1 ∧ .row v' 38 (Rep.sz S_api_InterlockRule) ([] : List S_api_InterlockRule).length xs' :: M = M1 ∧ [(0, v')] = L1 ∧ Rw H v' xs' ([] : List S_api_InterlockRule) ∧ n ≤ Value.cap' v') ?_ (fun J => ?_)
  · rintro _ _ _ ⟨v', xs', rfl, rfl, rfl, h, hc⟩
    refine C_seq ?_
    refine C_region ?_
    refine W_move rfl rfl rfl ?_
    refine W_assign rfl rfl rfl ?_
    refine W_end (E_then ?_)
    refine C_ret ?_
    exact end1 rfl rfl ⟨rfl, v', xs', rfl, rfl, h, hc⟩
  · refine C_seq ?_
    refine C_region ?_
    refine W_move rfl rfl rfl ?_
    refine W_move rfl rfl rfl ?_
    refine W_capS rfl rfl Proofs.Tryd.runUnderlying44 rfl ?_
    refine W_move rfl rfl rfl ?_
    refine W_lenS rfl rfl Proofs.Tryd.runUnderlying44 rfl ?_
    refine W_bin rfl rfl rfl rfl rfl ?_
    refine W_bin rfl rfl rfl rfl rfl ?_
    refine W_assign rfl rfl rfl ?_
    refine W_end (E_then ?_)
    rw [hn]
    refine C_seq ?_
    refine C_region ?_
    refine W_move rfl rfl rfl ?_
    refine W_bin rfl rfl rfl rfl rfl ?_
    refine W_end (E_then ?_)
    refine C_cond (b := decide (0 < n)) rfl (fun hb => ?_) (fun hb => ?_)
    · refine C_region ?_
      refine W_move rfl rfl rfl ?_
      refine W_move rfl rfl rfl ?_
      refine W_capS rfl rfl Proofs.Tryd.runUnderlying44 rfl ?_
      refine W_sliceNil rfl rfl Proofs.Tryd.runUnderlying44 Proofs.Tryd.sizeOf38 rfl rfl ?_
      refine W_move rfl rfl rfl ?_
      refine W_growNil (α := S_api_InterlockRule) (ze := (S_api_InterlockRule.mk false (⟨#[]⟩) [])) (bytes := 48) rfl rfl Proofs.Tryd.underlying44 Proofs.Tryd.underlying3 ⟨_, rfl, rfl, rfl, rfl⟩ rfl rfl rfl ⟨.slice none 0 0, rfl, RdS.nil⟩ rfl rfl (of_decide_eq_true hb) hz.2 ?_
      intro v1 xs1 l1 h1 hl1 hc1
      refine W_move rfl rfl rfl ?_
      refine W_lenS rfl rfl Proofs.Tryd.runUnderlying44 rfl ?_
      refine W_sliceOC (α := S_api_InterlockRule) (l := 0) (h := 0) rfl rfl Proofs.Tryd.runUnderlying44 Proofs.Tryd.sizeOf38 rfl rfl h1 (by omega) (by omega) (fun m hmm => (.inr ⟨_, _, _, rfl, rfl, by omega, by omega, rfl⟩)) (.inl ⟨rfl, rfl⟩) ?_
      intro v2 xs2 h2 hc2
      refine W_assign rfl rfl rfl ?_
      refine W_end ?_
      exact E_keepJ (J _ _ _ ⟨v2, xs2, rfl, rfl, rfl, h2, by rw [hc2, Nat.sub_zero]; exact hc1⟩) (List.Perm.refl _) ⟨rfl, trivial⟩
    · refine C_skip ?_
      refine E_nilRow 38 (Rep.sz S_api_InterlockRule) ?_
      exact E_keepJ (J _ _ _ ⟨.slice none 0 0, [], rfl, rfl, rfl, Rw.nil, by have := of_decide_eq_false hb; simp only [Value.cap']; omega⟩) (List.Perm.refl _) ⟨rfl, trivial⟩

theorem m_slices_Concat_api_InterlockRule_api_InterlockRule_c {B : Nat} {w0 w : World} {H : Hp} {M : List Res} {slices : (List (List S_api_InterlockRule))} {v0 : Value} {r : (List S_api_InterlockRule)} (hm : m_slices_Concat_api_InterlockRule_api_InterlockRule slices = some r) (h0 : RdS H v0 slices) (ht : St B w0 H (M) w) :
    Calls Proofs.Tryd.prog 22 [v0].toArray w (Ret B w0 fun H' M' v => H.le H' ∧ ∃ qv0 : Value, ∃ qxs0 : List Value, .row qv0 38 (Rep.sz S_api_InterlockRule) r.length qxs0 :: M = M' ∧ qv0 = v ∧ Rw H' qv0 qxs0 r) := by
  unfold m_slices_Concat_api_InterlockRule_api_InterlockRule at hm
  refine enter Proofs.Tryd.func22 rfl rfl rfl ht ?_
  refine C_seq ?_
  refine C_region ?_
  refine W_assign rfl rfl rfl ?_
  refine W_end ?_
  refine E_then ?_
  refine C_seq ?_
  refine C_region ?_
  refine W_assign rfl rfl rfl ?_
  refine W_end ?_
  refine E_then ?_
  refine C_seq ?_
  refine C_seq ?_
  refine C_region ?_
  refine W_move rfl rfl rfl ?_
  refine W_lenR rfl rfl Proofs.Tryd.runUnderlying79 rfl h0 ?_
  refine W_move rfl rfl rfl ?_
  refine W_end ?_
  refine E_then ?_
  refine C_block ?_
  refine C_keep (L' := [(0, v0), (3, .int .i64 (0)), (9, v0), (10, .int .i64 ((slices.length : Int))), (11, .int .i64 (((0 : Nat) : Int)))]) ⟨rfl, rfl, rfl, rfl, rfl, trivial⟩ (List.Perm.refl _) ?_
  refine C_loop (fun n H' M' L' => ∃ (k101 : Nat) (zs120' : List (List S_api_InterlockRule)), ∃ n112 : Int, (slices).drop k101 = zs120' ∧ zs120'.length = n ∧ forI (fun k y s115 n => m_slices_Concat_api_InterlockRule_api_InterlockRule_b1 k y s115 n) (fun s115 => need (0 ≤ s115 ∧ s115 * 48 ≤ 281474976710656) (forI (fun k y s170 n => m_slices_Concat_api_InterlockRule_api_InterlockRule_b2 s115 k y s170 n) (fun s170 => some s170) 0 slices ([] : List S_api_InterlockRule))) k101 zs120' n112 = some r ∧ H.le H' ∧ M = M' ∧ [(0, v0), (3, .int .i64 (n112)), (9, v0), (10, .int .i64 ((slices.length : Int))), (11, .int .i64 ((k101 : Int)))] = L') _ ⟨0, _, 0, rfl, rfl, hm, (Hp.le_refl _), rfl, rfl⟩ ?_
  rintro _ H113 _ _ ⟨k101, zs120', n112, hd122, rfl, hm, hle114, rfl, rfl⟩
  refine C_seq ?_
  refine C_region ?_
  refine W_bin rfl rfl rfl rfl rfl ?_
  refine W_end (E_then ?_)
  refine C_seq ?_
  refine C_cond (b := decide ((k101 : Int) < (slices.length : Int))) rfl (fun hb124 => ?_) (fun hb124 => ?_)
  · obtain ⟨y119, zs120, rfl, hy121, hd123⟩ := rng_t hd122 hb124
    have hm : m_slices_Concat_api_InterlockRule_api_InterlockRule_b1 k101 y119 n112 (forI (fun k y s115 n => m_slices_Concat_api_InterlockRule_api_InterlockRule_b1 k y s115 n) (fun s115 => need (0 ≤ s115 ∧ s115 * 48 ≤ 281474976710656) (forI (fun k y s170 n => m_slices_Concat_api_InterlockRule_api_InterlockRule_b2 s115 k y s170 n) (fun s170 => some s170) 0 slices ([] : List S_api_InterlockRule))) (k101 + 1) zs120) = some r := hm
    generalize hn117 : forI (fun k y s115 n => m_slices_Concat_api_InterlockRule_api_InterlockRule_b1 k y s115 n) (fun s115 => need (0 ≤ s115 ∧ s115 * 48 ≤ 281474976710656) (forI (fun k y s170 n => m_slices_Concat_api_InterlockRule_api_InterlockRule_b2 s115 k y s170 n) (fun s170 => some s170) 0 slices ([] : List S_api_InterlockRule))) (k101 + 1) zs120 = nx116 at hm
    unfold m_slices_Concat_api_InterlockRule_api_InterlockRule_b1 at hm
    refine C_skip (E_then ?_)
    refine C_seq ?_
    refine C_block ?_
    refine C_seq ?_
    refine C_region ?_
    obtain ⟨_, ⟨v126, rfl, h127⟩, hc125⟩ := (h0).elem hy121
    refine W_indexS rfl rfl Proofs.Tryd.runUnderlying79 Proofs.Tryd.sizeOf44 rfl (h0.mono hle114) rfl (Int.natCast_nonneg _) hy121 ?_
    refine W_load rfl rfl Proofs.Tryd.isAgg44 rfl (HCells.one (hc125.mono hle114) 0 rfl).at ?_
    refine W_assign rfl rfl rfl ?_
    refine W_end ?_
    refine E_then ?_
    refine C_seq ?_
    refine C_region ?_
    refine W_move rfl rfl rfl ?_
    refine W_move rfl rfl rfl ?_
    refine W_lenR rfl rfl Proofs.Tryd.runUnderlying44 rfl (h127.mono hle114) ?_
    refine W_bin rfl rfl rfl rfl rfl ?_
    refine W_assign rfl rfl rfl ?_
    refine W_end ?_
    refine E_then ?_
    refine C_seq ?_
    refine C_region ?_
    refine W_move rfl rfl rfl ?_
    refine W_bin rfl rfl rfl rfl rfl ?_
    refine W_end ?_
    refine E_then ?_
    refine C_cond (b := decide ((IntKind.i64.wrap (n112 + (y119.length : Int))) < 0)) rfl (fun hb128 => ?_) (fun hb128 => ?_)
    · have hm := ite_t' hb128 hm
      cases hm
    · have hm := ite_f' hb128 hm
      refine C_skip ?_
      refine E_normal_block ?_
      refine E_then ?_
      refine C_region ?_
      refine W_bin rfl rfl rfl rfl rfl ?_
      refine W_move rfl rfl rfl ?_
      refine W_end ?_
      exact E_keepJ (E_back (Nat.lt_succ_self _) ⟨k101 + 1, zs120, IntKind.i64.wrap (n112 + (y119.length : Int)), hd123, rfl, (by rw [hn117]; exact hm), hle114, rfl, rfl⟩) (List.Perm.refl _) ⟨rfl, rfl, rfl, rfl, (congrArg (fun z => some (Value.int .i64 z)) (i64_succ hy121 ((h0.mono hle114)).lenMax)), trivial⟩
  · obtain rfl := rng_f hd122 hb124
    have hm : (need (0 ≤ n112 ∧ n112 * 48 ≤ 281474976710656) (forI (fun k y s170 n => m_slices_Concat_api_InterlockRule_api_InterlockRule_b2 n112 k y s170 n) (fun s170 => some s170) 0 slices ([] : List S_api_InterlockRule))) = some r := hm
    refine C_exit (E_exit_then ?_)
    refine E_exit_then ?_
    refine E_exit_hit ?_
    refine E_then ?_
    refine C_seq ?_
    refine C_region ?_
    refine W_move rfl rfl rfl ?_
    obtain ⟨hz129, hm⟩ := need_some hm
    refine W_call Proofs.Tryd.call38 rfl rfl rfl (fun w ht => by have h := grow38_c hz129 ht; exact h) ?_
    rintro _ _ _ ⟨rfl, v131, xs132, rfl, rfl, hr133, hcap130⟩
    refine W_assign rfl rfl rfl ?_
    refine W_end ?_
    refine E_then ?_
    refine C_seq ?_
    refine C_seq ?_
    refine C_region ?_
    refine W_move rfl rfl rfl ?_
    refine W_lenR rfl rfl Proofs.Tryd.runUnderlying79 rfl (h0.mono hle114) ?_
    refine W_move rfl rfl rfl ?_
    refine W_end ?_
    refine E_then ?_
    refine C_block ?_
    refine C_keep (L' := [(6, v131), (25, v0), (26, .int .i64 ((slices.length : Int))), (27, .int .i64 (((0 : Nat) : Int)))]) ⟨rfl, rfl, rfl, rfl, trivial⟩ (List.Perm.refl _) ?_
    refine C_loop (fun n H' M' L' => ∃ (k134 : Nat) (zs175' : List (List S_api_InterlockRule)), ∃ l165 : List S_api_InterlockRule, ∃ v163 : Value, ∃ xs164 : List Value, (slices).drop k134 = zs175' ∧ zs175'.length = n ∧ forI (fun k y s170 n => m_slices_Concat_api_InterlockRule_api_InterlockRule_b2 n112 k y s170 n) (fun s170 => some s170) k134 zs175' l165 = some r ∧ Rw H' v163 xs164 l165 ∧ n112 ≤ (Value.cap' v163 : Int) ∧ H113.le H' ∧ .row v163 38 (Rep.sz S_api_InterlockRule) l165.length xs164 :: M = M' ∧ [(6, v163), (25, v0), (26, .int .i64 ((slices.length : Int))), (27, .int .i64 ((k134 : Int)))] = L') _ ⟨0, _, ([] : List S_api_InterlockRule), v131, xs132, rfl, rfl, hm, hr133, hcap130, (Hp.le_refl _), rfl, rfl⟩ ?_
    rintro _ H168 _ _ ⟨k134, zs175', l165, v163, xs164, hd177, rfl, hm, hr166, hcap167, hle169, rfl, rfl⟩
    refine C_seq ?_
    refine C_region ?_
    refine W_bin rfl rfl rfl rfl rfl ?_
    refine W_end (E_then ?_)
    refine C_seq ?_
    refine C_cond (b := decide ((k134 : Int) < (slices.length : Int))) rfl (fun hb179 => ?_) (fun hb179 => ?_)
    · obtain ⟨y174, zs175, rfl, hy176, hd178⟩ := rng_t hd177 hb179
      have hm : m_slices_Concat_api_InterlockRule_api_InterlockRule_b2 n112 k134 y174 l165 (forI (fun k y s170 n => m_slices_Concat_api_InterlockRule_api_InterlockRule_b2 n112 k y s170 n) (fun s170 => some s170) (k134 + 1) zs175) = some r := hm
      generalize hn172 : forI (fun k y s170 n => m_slices_Concat_api_InterlockRule_api_InterlockRule_b2 n112 k y s170 n) (fun s170 => some s170) (k134 + 1) zs175 = nx171 at hm
      unfold m_slices_Concat_api_InterlockRule_api_InterlockRule_b2 at hm
      refine C_skip (E_then ?_)
      refine C_seq ?_
      refine C_block ?_
      refine C_seq ?_
      refine C_region ?_
      obtain ⟨_, ⟨v181, rfl, h182⟩, hc180⟩ := (h0).elem hy176
      refine W_indexS rfl rfl Proofs.Tryd.runUnderlying79 Proofs.Tryd.sizeOf44 rfl ((h0.mono hle114).mono hle169) rfl (Int.natCast_nonneg _) hy176 ?_
      refine W_load rfl rfl Proofs.Tryd.isAgg44 rfl (HCells.one ((hc180.mono hle114).mono hle169) 0 rfl).at ?_
      refine W_assign rfl rfl rfl ?_
      refine W_end ?_
      refine E_then ?_
      refine C_region ?_
      refine W_move rfl rfl rfl ?_
      refine W_move rfl rfl rfl ?_
      obtain ⟨hz183, hm⟩ := need_some hm
      refine W_appendC (α := S_api_InterlockRule) (l := l165) (ys := y174) rfl rfl Proofs.Tryd.underlying44 ⟨_, rfl, rfl, rfl, rfl⟩ rfl rfl rfl rfl hr166 ((h182.mono hle114).mono hle169) (by have h1_ := hz183; have h2_ := hcap167; omega) ?_
      intro v186 xs187 hr188 hc184
      have hcap185 : n112 ≤ (Value.cap' v186 : Int) := by rw [hc184]; exact hcap167
      refine W_assign rfl rfl rfl ?_
      refine W_end ?_
      refine E_normal_block ?_
      refine E_then ?_
      refine C_region ?_
      refine W_bin rfl rfl rfl rfl rfl ?_
      refine W_move rfl rfl rfl ?_
      refine W_end ?_
      exact E_keepJ (E_back (Nat.lt_succ_self _) ⟨k134 + 1, zs175, (l165 ++ y174), v186, xs187, hd178, rfl, (by rw [hn172]; exact hm), hr188, hcap185, hle169, rfl, rfl⟩) (List.Perm.refl _) ⟨rfl, rfl, rfl, (congrArg (fun z => some (Value.int .i64 z)) (i64_succ hy176 (((h0.mono hle114).mono hle169)).lenMax)), trivial⟩
    · obtain rfl := rng_f hd177 hb179
      have hm : (some l165) = some r := hm
      refine C_exit (E_exit_then ?_)
      refine E_exit_then ?_
      refine E_exit_hit ?_
      refine E_then ?_
      refine C_seq ?_
      refine C_region ?_
      refine W_move rfl rfl rfl ?_
      refine W_assign rfl rfl rfl ?_
      refine W_end ?_
      refine E_then ?_
      refine C_ret ?_
      obtain rfl := Option.some.inj hm
      exact end1 rfl rfl ⟨(Hp.le_trans hle114 hle169), v163, xs164, rfl, rfl, hr166⟩

theorem m_gridhallkeep4_InterlockMore_c {B : Nat} {w0 w : World} {H : Hp} {M : List Res} {p0_l : (List S_api_InterlockRule)} {more : (List S_api_InterlockRule)} {states : (List S_api_InterlockState)} {closing : Bool} {name : ByteArray} {v0 : Value} {v1 : Value} {v2 : Value} {r : Bool} (hm : m_gridhallkeep4_InterlockMore p0_l more states closing name = some r) (h0 : RdS H v0 p0_l) (h1 : RdS H v1 more) (h2 : RdS H v2 states) (ht : St B w0 H (M) w) :
    Calls Proofs.Tryd.prog 6 [v0, v1, v2, .bool (closing), .string (name)].toArray w (Ret B w0 fun H' M' v => H = H' ∧ M = M' ∧ .bool (r) = v) := by
  unfold m_gridhallkeep4_InterlockMore at hm
  refine enter Proofs.Tryd.func6 rfl rfl rfl ht ?_
  refine C_seq ?_
  refine C_region ?_
  refine W_assign rfl rfl rfl ?_
  refine W_end ?_
  refine E_then ?_
  refine C_seq ?_
  refine C_region ?_
  refine W_move rfl rfl rfl ?_
  refine W_move rfl rfl rfl ?_
  refine W_move rfl rfl rfl ?_
  refine W_move rfl rfl rfl ?_
  obtain ⟨r101, hc102, hm⟩ := bind_some hm
  refine W_call Proofs.Tryd.call21 rfl rfl rfl (fun w ht => by have h := m_interlock_Explain_c (hm := hc102) h0 h2 ht; exact h) ?_
  rintro _ _ _ ⟨rfl, v103, xs104, rfl, rfl, h105⟩
  have h105 := h105 H
  refine W_move rfl rfl rfl ?_
  refine W_extract rfl rfl rfl rfl ?_
  refine W_extract rfl rfl rfl rfl ?_
  refine W_assign rfl rfl rfl ?_
  refine W_assign rfl rfl rfl ?_
  refine W_end ?_
  refine E_then ?_
  refine C_seq ?_
  refine C_region ?_
  refine W_move rfl rfl rfl ?_
  refine W_move rfl rfl rfl ?_
  refine W_buildSliceO (α := (List S_api_InterlockRule)) (css := [[v0], [v1]]) (zs := [.slice none 0 0, .slice none 0 0]) (out := [v0, v1]) (ys := [p0_l, more]) rfl rfl rfl ⟨(RdS.cells h0), (RdS.cells h1), trivial⟩ Proofs.Tryd.runUnderlying79 Proofs.Tryd.sizeOf44 rfl Proofs.Tryd.zeroValue44 (by kernel_rfl) rfl rfl rfl rfl ⟨[v0], [v1], rfl, ⟨v0, rfl, h0⟩, ⟨[v1], [], rfl, ⟨v1, rfl, h1⟩, rfl⟩⟩ rfl ?_
  intro v106 xs107 hr108
  refine W_freeze (hr108).rd rfl (fun H109 hle110 h111 => ?_)
  obtain ⟨r112, hc113, hm⟩ := bind_some hm
  refine W_call Proofs.Tryd.call22 rfl rfl rfl (fun w ht => by have h := m_slices_Concat_api_InterlockRule_api_InterlockRule_c (hm := hc113) h111 ht; exact h) ?_
  rintro _ H117 _ ⟨hle118, v114, xs115, rfl, rfl, h116⟩
  refine W_move rfl rfl rfl ?_
  refine W_move rfl rfl rfl ?_
  refine W_move rfl rfl rfl ?_
  obtain ⟨r119, hc120, hm⟩ := bind_some hm
  refine W_call Proofs.Tryd.call21 rfl rfl rfl (fun w ht => by obtain ⟨H0_, hl0_, ht0_, hr0_, bk0_⟩ := ht.lendRow h116 rfl; have h := m_interlock_Explain_c (hm := hc120) hr0_ (((h2.mono hle110).mono hle118).mono hl0_) ht0_; exact lend_back bk0_ (h)) ?_
  rintro _ _ _ ⟨rfl, ⟨_, rfl, v121, xs122, rfl, rfl, h123⟩⟩
  have h123 := h123 H117
  refine W_move rfl rfl rfl ?_
  refine W_extract rfl rfl rfl rfl ?_
  refine W_extract rfl rfl rfl rfl ?_
  refine W_assign rfl rfl rfl ?_
  refine W_assign rfl rfl rfl ?_
  refine W_end ?_
  refine E_then ?_
  refine C_seq ?_
  refine C_seq_join (fun H' M' L' => H117 = H' ∧ .row v121 3 (Rep.sz Int) r119.1.length xs122 :: .row v103 3 (Rep.sz Int) r101.1.length xs104 :: M = M' ∧ [(11, v103), (13, v121), (39, .bool ((!decide (r101.2 = 0)) || (!decide (r119.2 = 0))))] = L') ?_ (fun J125 => ?_)
  · rintro _ _ _ ⟨rfl, rfl, rfl⟩
    refine C_cond (b := (!decide (r101.2 = 0)) || (!decide (r119.2 = 0))) rfl (fun hb126 => ?_) (fun hb126 => ?_)
    · have hm := ite_t' hb126 hm
      obtain ⟨r130, hc131, hm⟩ := bind_some hm
      refine C_seq_join (fun H' M' L' => H117 = H' ∧ M = M' ∧ [(10, .bool (r130 && (decide ((r119.1.length : Int) = 0))))] = L') ?_ (fun J132 => ?_)
      · rintro _ _ _ ⟨rfl, rfl, rfl⟩
        refine C_ret ?_
        refine E_ret_then ?_
        obtain rfl := Option.some.inj hm
        refine E_weak (Hp.le_trans hle110 hle118) ?_
        exact end1 rfl rfl ⟨rfl, rfl, rfl⟩
      · refine C_region ?_
        refine W_call Proofs.Tryd.call18 rfl rfl rfl (fun w ht => by have h := m_gridhallkeep4_interlockFact_c (hm := hc131)  ht; exact h) ?_
        rintro _ _ _ ⟨rfl, rfl, rfl⟩
        refine W_move rfl rfl rfl ?_
        cases hb133 : (r130)
        · refine W_no rfl rfl rfl ?_
          refine W_no rfl rfl rfl ?_
          refine W_no rfl rfl rfl ?_
          refine W_pick rfl rfl rfl rfl ?_
          refine W_assign rfl rfl rfl ?_
          refine W_end ?_
          refine E_drop (List.Sublist.cons _ (List.Sublist.cons _ (List.Sublist.refl _))) ?_
          exact E_keepJ (J132 _ _ _ ⟨rfl, rfl, rfl⟩) (List.Perm.refl _) ⟨(by show some (Value.bool (false)) = some (Value.bool (r130 && (decide ((r119.1.length : Int) = 0)))); simp only [hb126, hb133, Bool.and_true, Bool.true_and, Bool.false_and, Bool.and_false, Bool.or_true, Bool.true_or, Bool.or_false, Bool.false_or, Bool.not_true, Bool.not_false]), trivial⟩
        · refine W_move rfl rfl rfl ?_
          refine W_lenO (List.mem_cons_self ..) rfl rfl Proofs.Tryd.runUnderlying52 rfl ?_
          refine W_bin rfl rfl rfl rfl rfl ?_
          refine W_pick rfl rfl rfl rfl ?_
          refine W_assign rfl rfl rfl ?_
          refine W_end ?_
          refine E_drop (List.Sublist.cons _ (List.Sublist.cons _ (List.Sublist.refl _))) ?_
          exact E_keepJ (J132 _ _ _ ⟨rfl, rfl, rfl⟩) (List.Perm.refl _) ⟨(by show some (Value.bool (decide ((r119.1.length : Int) = 0))) = some (Value.bool (r130 && (decide ((r119.1.length : Int) = 0)))); simp only [hb126, hb133, Bool.and_true, Bool.true_and, Bool.false_and, Bool.and_false, Bool.or_true, Bool.true_or, Bool.or_false, Bool.false_or, Bool.not_true, Bool.not_false]), trivial⟩
    · have hm := ite_f' hb126 hm
      refine C_skip ?_
      refine E_then ?_
      refine C_seq ?_
      refine C_region ?_
      obtain ⟨r134, hc135, hm⟩ := bind_some hm
      refine W_call Proofs.Tryd.call18 rfl rfl rfl (fun w ht => by have h := m_gridhallkeep4_interlockFact_c (hm := hc135)  ht; exact h) ?_
      rintro _ _ _ ⟨rfl, rfl, rfl⟩
      refine W_move rfl rfl rfl ?_
      cases hb136 : (r134)
      · have hm := ite_f' hb136 hm
        refine W_no rfl rfl rfl ?_
        refine W_no rfl rfl rfl ?_
        refine W_no rfl rfl rfl ?_
        refine W_no rfl rfl rfl ?_
        refine W_no rfl rfl rfl ?_
        refine W_pick rfl rfl rfl rfl ?_
        refine W_move rfl rfl rfl ?_
        refine W_no rfl rfl rfl ?_
        refine W_no rfl rfl rfl ?_
        refine W_no rfl rfl rfl ?_
        refine W_no rfl rfl rfl ?_
        refine W_no rfl rfl rfl ?_
        refine W_no rfl rfl rfl ?_
        refine W_pick rfl rfl rfl rfl ?_
        refine W_assign rfl rfl rfl ?_
        refine W_end ?_
        refine E_then ?_
        refine C_ret ?_
        obtain rfl := Option.some.inj hm
        refine E_drop (List.Sublist.cons _ (List.Sublist.cons _ (List.Sublist.refl _))) ?_
        refine E_weak (Hp.le_trans hle110 hle118) ?_
        exact end1 rfl rfl ⟨rfl, rfl, rfl⟩
      · have hm := ite_t' hb136 hm
        refine W_move rfl rfl rfl ?_
        refine W_lenO (List.mem_cons_self ..) rfl rfl Proofs.Tryd.runUnderlying52 rfl ?_
        refine W_move rfl rfl rfl ?_
        refine W_lenO (List.mem_cons_of_mem _ (List.mem_cons_self ..)) rfl rfl Proofs.Tryd.runUnderlying52 rfl ?_
        refine W_bin rfl rfl rfl rfl rfl ?_
        refine W_pick rfl rfl rfl rfl ?_
        refine W_move rfl rfl rfl ?_
        cases hb137 : (decide ((r101.1.length : Int) ≤ (r119.1.length : Int)))
        · have hm := ite_f' hb137 hm
          refine W_no rfl rfl rfl ?_
          refine W_no rfl rfl rfl ?_
          refine W_no rfl rfl rfl ?_
          refine W_no rfl rfl rfl ?_
          refine W_no rfl rfl rfl ?_
          refine W_no rfl rfl rfl ?_
          refine W_pick rfl rfl rfl rfl ?_
          refine W_assign rfl rfl rfl ?_
          refine W_end ?_
          refine E_then ?_
          refine C_ret ?_
          obtain rfl := Option.some.inj hm
          refine E_drop (List.Sublist.cons _ (List.Sublist.cons _ (List.Sublist.refl _))) ?_
          refine E_weak (Hp.le_trans hle110 hle118) ?_
          exact end1 rfl rfl ⟨rfl, rfl, rfl⟩
        · have hm := ite_t' hb137 hm
          refine W_move rfl rfl rfl ?_
          refine W_move rfl rfl rfl ?_
          refine W_lenO (List.mem_cons_of_mem _ (List.mem_cons_self ..)) rfl rfl Proofs.Tryd.runUnderlying52 rfl ?_
          obtain ⟨hz138, hm⟩ := need_some hm
          refine W_sliceO (α := Int) (l := 0) (h := ((r101.1.length : Int) : Int).toNat) rfl rfl Proofs.Tryd.runUnderlying52 Proofs.Tryd.sizeOf3 rfl rfl h123 (by omega) (by omega) (fun m hmm => (.inr ⟨_, _, _, rfl, rfl, by omega, by omega, rfl⟩)) (.inl ⟨rfl, rfl⟩) ?_
          intro v139 xs140 hr141
          refine W_move rfl rfl rfl ?_
          obtain ⟨r142, hc143, hm⟩ := bind_some hm
          refine W_call Proofs.Tryd.call23 rfl rfl rfl (fun w ht => by obtain ⟨H0_, hl0_, ht0_, hr0_, bk0_⟩ := ht.lendRow hr141 rfl; obtain ⟨H1_, hl1_, ht1_, hr1_, bk1_⟩ := ht0_.lendRow (((h105.mono hle110).mono hle118).mono hl0_) rfl; have h := m_slices_Equal_int_int_c (hm := hc143) (hr0_.mono hl1_) hr1_ ht1_; exact lend_back bk0_ (lend_back bk1_ (h))) ?_
          rintro _ _ _ ⟨rfl, ⟨_, rfl, ⟨_, rfl, rfl, rfl⟩⟩⟩
          refine W_pick rfl rfl rfl rfl ?_
          refine W_assign rfl rfl rfl ?_
          refine W_end ?_
          refine E_then ?_
          refine C_ret ?_
          obtain rfl := Option.some.inj hm
          refine E_drop (List.Sublist.cons _ (List.Sublist.cons _ (List.Sublist.refl _))) ?_
          refine E_weak (Hp.le_trans hle110 hle118) ?_
          exact end1 rfl rfl ⟨rfl, rfl, rfl⟩
  · refine C_region ?_
    refine W_move rfl rfl rfl ?_
    refine W_bin rfl rfl rfl rfl rfl ?_
    refine W_move rfl rfl rfl ?_
    cases hb144 : (decide (r101.2 = 0))
    · refine W_no rfl rfl rfl ?_
      refine W_no rfl rfl rfl ?_
      refine W_pick rfl rfl rfl rfl ?_
      refine W_end ?_
      refine E_drop (List.Sublist.cons _ (List.Sublist.refl _)) ?_
      exact E_keepJ (J125 _ _ _ ⟨rfl, rfl, rfl⟩) (List.Perm.refl _) ⟨rfl, rfl, (by show some (Value.bool (true)) = some (Value.bool ((!decide (r101.2 = 0)) || (!decide (r119.2 = 0)))); simp only [hb144, Bool.and_true, Bool.true_and, Bool.false_and, Bool.and_false, Bool.or_true, Bool.true_or, Bool.or_false, Bool.false_or, Bool.not_true, Bool.not_false]), trivial⟩
    · refine W_move rfl rfl rfl ?_
      refine W_bin rfl rfl rfl rfl rfl ?_
      refine W_pick rfl rfl rfl rfl ?_
      refine W_end ?_
      refine E_drop (List.Sublist.cons _ (List.Sublist.refl _)) ?_
      exact E_keepJ (J125 _ _ _ ⟨rfl, rfl, rfl⟩) (List.Perm.refl _) ⟨rfl, rfl, (by show some (Value.bool (!decide (r119.2 = 0))) = some (Value.bool ((!decide (r101.2 = 0)) || (!decide (r119.2 = 0)))); simp only [hb144, Bool.and_true, Bool.true_and, Bool.false_and, Bool.and_false, Bool.or_true, Bool.true_or, Bool.or_false, Bool.false_or, Bool.not_true, Bool.not_false]), trivial⟩
end Go.Sim
