/-
  Printed by a program: each Go function computes its model.
-/
import Derived.Test.YtbgeolhghncnbaaDoorConK2
namespace Go.Sim
open Go
set_option linter.unusedVariables false
set_option linter.unusedSimpArgs false
set_option maxRecDepth 100000
theorem m_interlock_CheckStates_c {B : Nat} {w0 w : World} {H : Hp} {M : List Res} {p0_l : (List S_api_InterlockState)} {v0 : Value} {r : Int} (hm : m_interlock_CheckStates p0_l = some r) (h0 : RdS H v0 p0_l) (ht : St B w0 H (M) w) :
    Calls Proofs.Tryd.prog 33 [v0].toArray w (Ret B w0 fun H' M' v => H = H' ∧ M = M' ∧ .int .i64 (r) = v) := by
  unfold m_interlock_CheckStates at hm
  refine enter Proofs.Tryd.func33 rfl rfl rfl ht ?_
  refine C_seq ?_
  refine C_region ?_
  refine W_assign rfl rfl rfl ?_
  refine W_end ?_
  refine E_then ?_
  refine C_seq ?_
  refine C_seq ?_
  refine C_region ?_
  refine W_move rfl rfl rfl ?_
  refine W_lenR rfl rfl Proofs.Tryd.runUnderlying39 rfl h0 ?_
  refine W_bin rfl rfl rfl rfl rfl ?_
  refine W_end ?_
  refine E_then ?_
  refine C_cond (b := decide (32 < (p0_l.length : Int))) rfl (fun hb101 => ?_) (fun hb101 => ?_)
  · have hm := ite_t' hb101 hm
    refine C_seq ?_
    refine C_region ?_
    refine W_assign rfl rfl rfl ?_
    refine W_end ?_
    refine E_then ?_
    refine C_ret ?_
    refine E_ret_then ?_
    obtain rfl := Option.some.inj hm
    refine E_weak (Hp.le_refl _) ?_
    exact end1 rfl rfl ⟨rfl, rfl, rfl⟩
  · have hm := ite_f' hb101 hm
    refine C_skip ?_
    refine E_then ?_
    refine C_seq ?_
    refine C_seq ?_
    refine C_region ?_
    refine W_move rfl rfl rfl ?_
    refine W_lenR rfl rfl Proofs.Tryd.runUnderlying39 rfl h0 ?_
    refine W_move rfl rfl rfl ?_
    refine W_end ?_
    refine E_then ?_
    refine C_block ?_
    refine C_keep (L' := [(0, v0), (8, v0), (9, .int .i64 ((p0_l.length : Int))), (10, .int .i64 (((0 : Nat) : Int)))]) ⟨rfl, rfl, rfl, rfl, trivial⟩ (List.Perm.refl _) ?_
    refine C_loop (fun n H' M' L' => ∃ (k102 : Nat) (zs148' : List S_api_InterlockState), (p0_l).drop k102 = zs148' ∧ zs148'.length = n ∧ forI (fun k y s143 n => m_interlock_CheckStates_b1 p0_l k y n) (fun _ => some 0) k102 zs148' () = some r ∧ H.le H' ∧ M = M' ∧ [(0, v0), (8, v0), (9, .int .i64 ((p0_l.length : Int))), (10, .int .i64 ((k102 : Int)))] = L') _ ⟨0, _, rfl, rfl, hm, (Hp.le_refl _), rfl, rfl⟩ ?_
    rintro _ H141 _ _ ⟨k102, zs148', hd150, rfl, hm, hle142, rfl, rfl⟩
    refine C_seq ?_
    refine C_region ?_
    refine W_bin rfl rfl rfl rfl rfl ?_
    refine W_end (E_then ?_)
    refine C_seq ?_
    refine C_cond (b := decide ((k102 : Int) < (p0_l.length : Int))) rfl (fun hb152 => ?_) (fun hb152 => ?_)
    · obtain ⟨y147, zs148, rfl, hy149, hd151⟩ := rng_t hd150 hb152
      have hm : m_interlock_CheckStates_b1 p0_l k102 y147 (forI (fun k y s143 n => m_interlock_CheckStates_b1 p0_l k y n) (fun _ => some 0) (k102 + 1) zs148) = some r := hm
      generalize hn145 : forI (fun k y s143 n => m_interlock_CheckStates_b1 p0_l k y n) (fun _ => some 0) (k102 + 1) zs148 = nx144 at hm
      unfold m_interlock_CheckStates_b1 at hm
      refine C_skip (E_then ?_)
      refine C_seq ?_
      refine C_block ?_
      refine C_seq ?_
      refine C_region ?_
      refine W_move rfl rfl rfl ?_
      obtain ⟨_, ⟨rfl⟩, hc153⟩ := (h0).elem hy149
      refine W_indexS rfl rfl Proofs.Tryd.runUnderlying39 Proofs.Tryd.sizeOf49 rfl (h0.mono hle142) rfl (Int.natCast_nonneg _) hy149 ?_
      refine W_loadAgg rfl rfl Proofs.Tryd.isAgg49 Proofs.Tryd.sizeOf49 rfl (hc153.mono hle142).at rfl ?_
      refine W_alloc (cs := [.string (⟨#[]⟩), .bool (false)]) rfl rfl Proofs.Tryd.zeroValue49 rfl (fun b154 => ?_)
      refine W_assign rfl rfl rfl ?_
      refine W_store (cs := [.string (y147.Name), .bool (y147.Closed)]) (out := [.string (y147.Name), .bool (y147.Closed)]) rfl Proofs.Tryd.sizeOf49 rfl rfl rfl rfl rfl (all_cons rfl (all_cons rfl all_nil)) (over_all rfl) ?_
      refine W_end ?_
      refine E_then ?_
      refine C_block ?_
      refine C_seq ?_
      refine C_region ?_
      refine W_field (o := 0) rfl rfl Proofs.Tryd.runUnderlying49 rfl Proofs.Tryd.sizeOf9 rfl rfl rfl ?_
      refine W_load rfl rfl Proofs.Tryd.isAgg9 rfl (own_at (List.mem_cons_self ..) rfl) ?_
      obtain ⟨r155, hc156, hm⟩ := bind_some hm
      refine W_call Proofs.Tryd.call50 rfl rfl rfl (fun w ht => by have h := m_netmodel_Name_c (hm := hc156)  ht; exact h) ?_
      rintro _ _ _ ⟨rfl, rfl, rfl⟩
      refine W_un rfl rfl rfl rfl ?_
      refine W_assign rfl rfl rfl ?_
      refine W_end ?_
      refine E_then ?_
      refine C_cond (b := !r155) rfl (fun hb157 => ?_) (fun hb157 => ?_)
      · have hm := ite_t' hb157 hm
        refine C_seq ?_
        refine C_region ?_
        refine W_assign rfl rfl rfl ?_
        refine W_end ?_
        refine E_then ?_
        refine C_ret ?_
        refine E_ret_block ?_
        refine E_ret_block ?_
        refine E_ret_then ?_
        refine E_ret_then ?_
        refine E_ret_block ?_
        refine E_ret_then ?_
        obtain rfl := Option.some.inj hm
        refine E_drop (List.Sublist.cons _ (List.Sublist.refl _)) ?_
        refine E_weak hle142 ?_
        exact end1 rfl rfl ⟨rfl, rfl, rfl⟩
      · have hm := ite_f' hb157 hm
        refine C_seq ?_
        obtain ⟨hz158, hm⟩ := need_some hm
        refine C_region_tok0 5 (phiT [(fun H rs v => [] = rs ∧ v0 = v), (fun H rs v => [] = rs ∧ .int .i64 ((k102 : Int)) = v), (fun H rs v => ∃ v162 : Value, [] = rs ∧ v162 = v ∧ RdS H v162 (slc p0_l 0 (((k102 : Int) : Int).toNat))), (fun H rs v => [] = rs ∧ .pointer (some ⟨b154, 0, none⟩) = v), (fun H rs v => [] = rs ∧ .string (y147.Name) = v)]) [[], [], [], [], []] [[], [], [], [], []] [] [0, 1, 2, 3, 4] Facts.mixed (by kernel_rfl) rfl rfl rfl (by kernel_rfl) (phiT_mono ⟨eq_monoT _ _, eq_monoT _ _, (by rintro H1 H2 rs v hle ⟨v162, rfl, rfl, h163⟩; exact ⟨v162, rfl, rfl, (h163.mono hle)⟩), eq_monoT _ _, eq_monoT _ _, trivial⟩) ⟨?_, ?_, ?_, ?_, ?_, trivial⟩ ?_
        · intro HX hX X Rest hR
          intro hU hUp
          refine W_move rfl rfl rfl ?_
          exact W_end (OneT_end [] (Hp.le_refl _) ⟨rfl, rfl⟩)
        · intro HX hX X Rest hR
          intro hU hUp
          refine W_move rfl rfl rfl ?_
          exact W_end (OneT_end [] (Hp.le_refl _) ⟨rfl, rfl⟩)
        · intro HX hX X Rest hR
          rintro _ _ ⟨rfl, rfl⟩
          rintro _ _ ⟨rfl, rfl⟩
          intro hU hUp
          refine W_sliceR (α := S_api_InterlockState) (l := 0) (h := ((k102 : Int) : Int).toNat) (xs := p0_l) rfl rfl Proofs.Tryd.runUnderlying39 Proofs.Tryd.sizeOf49 rfl ((h0.mono hle142).mono hX) (by omega) (by omega) (.inl rfl) (fun cap hcap => by rw [if_pos rfl]; exact (.inl ⟨rfl, rfl⟩)) (fun m hmm => (.inr ⟨_, _, _, rfl, rfl, by omega, by omega, rfl⟩)) (.inl ⟨rfl, rfl⟩) ?_
          intro v162 h163 hc164
          exact W_end (OneT_end [] (Hp.le_refl _) ⟨v162, rfl, rfl, (h163)⟩)
        · intro HX hX X Rest hR
          intro hU hUp
          refine W_field (o := 0) rfl rfl Proofs.Tryd.runUnderlying49 rfl Proofs.Tryd.sizeOf9 rfl rfl rfl ?_
          exact W_end (OneT_end [] (Hp.le_refl _) ⟨rfl, rfl⟩)
        · intro HX hX X Rest hR
          rintro _ _ ⟨rfl, rfl⟩
          intro hU hUp
          refine W_load rfl rfl Proofs.Tryd.isAgg9 rfl (own_at (hR _ (List.mem_cons_self ..)) rfl) ?_
          exact W_end (OneT_end [] (Hp.le_refl _) ⟨rfl, rfl⟩)
        intro H165 hle166
        rintro _ _ ⟨rfl, rfl⟩
        rintro _ _ ⟨rfl, rfl⟩
        rintro _ _ ⟨v162, rfl, rfl, h163⟩
        rintro _ _ ⟨rfl, rfl⟩
        rintro _ _ ⟨rfl, rfl⟩
        obtain ⟨r167, hc168, hm⟩ := bind_some hm
        refine W_call Proofs.Tryd.call34 rfl rfl rfl (fun w ht => by have h := m_interlock_index_c (hm := hc168) h163 ht; exact h) ?_
        rintro _ _ _ ⟨rfl, rfl, rfl⟩
        refine W_bin rfl rfl rfl rfl rfl ?_
        refine W_assign rfl rfl rfl ?_
        refine W_end ?_
        refine E_then ?_
        refine C_cond (b := decide (0 ≤ r167)) rfl (fun hb169 => ?_) (fun hb169 => ?_)
        · have hm := ite_t' hb169 hm
          refine C_seq ?_
          refine C_region ?_
          refine W_assign rfl rfl rfl ?_
          refine W_end ?_
          refine E_then ?_
          refine C_ret ?_
          refine E_ret_block ?_
          refine E_ret_block ?_
          refine E_ret_then ?_
          refine E_ret_then ?_
          refine E_ret_block ?_
          refine E_ret_then ?_
          obtain rfl := Option.some.inj hm
          refine E_drop (List.Sublist.cons _ (List.Sublist.refl _)) ?_
          refine E_weak (Hp.le_trans hle142 hle166) ?_
          exact end1 rfl rfl ⟨rfl, rfl, rfl⟩
        · have hm := ite_f' hb169 hm
          refine C_skip ?_
          refine E_normal_block ?_
          refine E_normal_block ?_
          refine E_then ?_
          refine C_region ?_
          refine W_bin rfl rfl rfl rfl rfl ?_
          refine W_move rfl rfl rfl ?_
          refine W_end ?_
          refine E_drop (List.Sublist.cons _ (List.Sublist.refl _)) ?_
          exact E_keepJ (E_back (Nat.lt_succ_self _) ⟨k102 + 1, zs148, hd151, rfl, (by rw [hn145]; exact hm), (Hp.le_trans hle142 hle166), rfl, rfl⟩) (List.Perm.refl _) ⟨rfl, rfl, rfl, (congrArg (fun z => some (Value.int .i64 z)) (i64_succ hy149 ((h0.mono hle142)).lenMax)), trivial⟩
    · obtain rfl := rng_f hd150 hb152
      have hm : (some 0) = some r := hm
      refine C_exit (E_exit_then ?_)
      refine E_exit_then ?_
      refine E_exit_hit ?_
      refine E_then ?_
      refine C_seq ?_
      refine C_region ?_
      refine W_assign rfl rfl rfl ?_
      refine W_end ?_
      refine E_then ?_
      refine C_ret ?_
      obtain rfl := Option.some.inj hm
      refine E_weak hle142 ?_
      exact end1 rfl rfl ⟨rfl, rfl, rfl⟩

theorem m_interlock_holds_c {B : Nat} {w0 w : World} {H : Hp} {M : List Res} {p0_l : (List S_api_InterlockNode)} {states : (List S_api_InterlockState)} {v0 : Value} {v1 : Value} {r : Bool} (hm : m_interlock_holds p0_l states = some r) (h0 : RdS H v0 p0_l) (h1 : RdS H v1 states) (ht : St B w0 H (M) w) :
    Calls Proofs.Tryd.prog 37 [v0, v1].toArray w (Ret B w0 fun H' M' v => H = H' ∧ M = M' ∧ .bool (r) = v) := by
  unfold m_interlock_holds at hm
  refine enter Proofs.Tryd.func37 rfl rfl rfl ht ?_
  refine C_seq ?_
  refine C_region ?_
  refine W_assign rfl rfl rfl ?_
  refine W_end ?_
  refine E_then ?_
  refine C_seq ?_
  refine C_region ?_
  refine W_move rfl rfl rfl ?_
  refine W_lenR rfl rfl Proofs.Tryd.runUnderlying36 rfl h0 ?_
  obtain ⟨hz101, hm⟩ := need_some hm
  refine W_makeSlice (α := Bool) (zs := [.bool (false)]) (ze := false) rfl rfl Proofs.Tryd.underlying97 ⟨_, rfl, rfl, rfl, rfl⟩ rfl rfl rfl rfl rfl rfl hz101.1 hz101.2 ?_
  intro v102 xs103 hr104
  refine W_assign rfl rfl rfl ?_
  refine W_end ?_
  refine E_then ?_
  refine C_seq ?_
  refine C_seq ?_
  refine C_region ?_
  refine W_move rfl rfl rfl ?_
  refine W_lenR rfl rfl Proofs.Tryd.runUnderlying36 rfl h0 ?_
  refine W_move rfl rfl rfl ?_
  refine W_end ?_
  refine E_then ?_
  refine C_block ?_
  refine C_keep (L' := [(0, v0), (1, v1), (5, v102), (12, v0), (13, .int .i64 ((p0_l.length : Int))), (14, .int .i64 (((0 : Nat) : Int)))]) ⟨rfl, rfl, rfl, rfl, rfl, rfl, trivial⟩ (List.Perm.refl _) ?_
  refine C_loop (fun n H' M' L' => ∃ (k105 : Nat) (zs623' : List S_api_InterlockNode), ∃ l614 : List Bool, ∃ xs613 : List Value, (p0_l).drop k105 = zs623' ∧ zs623'.length = n ∧ forI (fun k y s618 n => m_interlock_holds_b3 states k y s618 n) (fun s618 => idx s618 (IntKind.i64.wrap ((p0_l.length : Int) - 1)) fun y877 => some y877) k105 zs623' l614 = some r ∧ Rw H' v102 xs613 l614 ∧ H.le H' ∧ .row v102 4 (Rep.sz Bool) l614.length xs613 :: M = M' ∧ [(0, v0), (1, v1), (5, v102), (12, v0), (13, .int .i64 ((p0_l.length : Int))), (14, .int .i64 ((k105 : Int)))] = L') _ ⟨0, _, (List.replicate ((p0_l.length : Int) : Int).toNat (false : Bool)), xs103, rfl, rfl, hm, hr104, (Hp.le_refl _), rfl, rfl⟩ ?_
  rintro _ H616 _ _ ⟨k105, zs623', l614, xs613, hd625, rfl, hm, hr615, hle617, rfl, rfl⟩
  refine C_seq ?_
  refine C_region ?_
  refine W_bin rfl rfl rfl rfl rfl ?_
  refine W_end (E_then ?_)
  refine C_seq ?_
  refine C_cond (b := decide ((k105 : Int) < (p0_l.length : Int))) rfl (fun hb627 => ?_) (fun hb627 => ?_)
  · obtain ⟨y622, zs623, rfl, hy624, hd626⟩ := rng_t hd625 hb627
    have hm : m_interlock_holds_b3 states k105 y622 l614 (forI (fun k y s618 n => m_interlock_holds_b3 states k y s618 n) (fun s618 => idx s618 (IntKind.i64.wrap ((p0_l.length : Int) - 1)) fun y877 => some y877) (k105 + 1) zs623) = some r := hm
    generalize hn620 : forI (fun k y s618 n => m_interlock_holds_b3 states k y s618 n) (fun s618 => idx s618 (IntKind.i64.wrap ((p0_l.length : Int) - 1)) fun y877 => some y877) (k105 + 1) zs623 = nx619 at hm
    unfold m_interlock_holds_b3 at hm
    refine C_skip (E_then ?_)
    refine C_seq_join (fun H' M' L' => ∃ l752 : List Bool, ∃ xs751 : List Value, m_interlock_holds_b4 nx619 l752 = some r ∧ Rw H' v102 xs751 l752 ∧ H616 = H' ∧ .row v102 4 (Rep.sz Bool) l752.length xs751 :: M = M' ∧ [(0, v0), (1, v1), (5, v102), (12, v0), (13, .int .i64 ((p0_l.length : Int))), (14, .int .i64 ((k105 : Int)))] = L') ?_ (fun J754 => ?_)
    · rintro _ _ _ ⟨l752, xs751, hm, hr753, rfl, rfl, rfl⟩
      unfold m_interlock_holds_b4 at hm
      refine C_region ?_
      refine W_bin rfl rfl rfl rfl rfl ?_
      refine W_move rfl rfl rfl ?_
      refine W_end ?_
      exact E_keepJ (E_back (Nat.lt_succ_self _) ⟨k105 + 1, zs623, l752, xs751, hd626, rfl, (by rw [hn620]; exact hm), hr753, hle617, rfl, rfl⟩) (List.Perm.refl _) ⟨rfl, rfl, rfl, rfl, rfl, (congrArg (fun z => some (Value.int .i64 z)) (i64_succ hy624 ((h0.mono hle617)).lenMax)), trivial⟩
    · refine C_block ?_
      refine C_seq ?_
      refine C_region ?_
      refine W_move rfl rfl rfl ?_
      obtain ⟨_, ⟨rfl⟩, hc755⟩ := (h0).elem hy624
      refine W_indexS rfl rfl Proofs.Tryd.runUnderlying36 Proofs.Tryd.sizeOf71 rfl (h0.mono hle617) rfl (Int.natCast_nonneg _) hy624 ?_
      refine W_loadAgg rfl rfl Proofs.Tryd.isAgg71 Proofs.Tryd.sizeOf71 rfl (hc755.mono hle617).at rfl ?_
      refine W_alloc (cs := [.int .i64 (0), .string (⟨#[]⟩), .int .i64 (0), .int .i64 (0)]) rfl rfl Proofs.Tryd.zeroValue71 rfl (fun b756 => ?_)
      refine W_assign rfl rfl rfl ?_
      refine W_store (cs := [.int .i64 (y622.Kind), .string (y622.Name), .int .i64 (y622.A), .int .i64 (y622.B_)]) (out := [.int .i64 (y622.Kind), .string (y622.Name), .int .i64 (y622.A), .int .i64 (y622.B_)]) rfl Proofs.Tryd.sizeOf71 rfl rfl rfl rfl rfl (all_cons rfl (all_cons rfl (all_cons rfl (all_cons rfl all_nil)))) (over_all rfl) ?_
      refine W_end ?_
      refine E_then ?_
      refine C_seq ?_
      refine C_region ?_
      refine W_move rfl rfl rfl ?_
      refine W_field (o := 1) rfl rfl Proofs.Tryd.runUnderlying71 rfl Proofs.Tryd.sizeOf9 rfl rfl rfl ?_
      refine W_load rfl rfl Proofs.Tryd.isAgg9 rfl (own_at (List.mem_cons_self ..) rfl) ?_
      obtain ⟨r757, hc758, hm⟩ := bind_some hm
      refine W_call Proofs.Tryd.call34 rfl rfl rfl (fun w ht => by have h := m_interlock_index_c (hm := hc758) (h1.mono hle617) ht; exact h) ?_
      rintro _ _ _ ⟨rfl, rfl, rfl⟩
      refine W_assign rfl rfl rfl ?_
      refine W_end ?_
      refine E_then ?_
      refine C_seq ?_
      refine C_region ?_
      refine W_field (o := 0) rfl rfl Proofs.Tryd.runUnderlying71 rfl Proofs.Tryd.sizeOf3 rfl rfl rfl ?_
      refine W_load rfl rfl Proofs.Tryd.isAgg3 rfl (own_at (List.mem_cons_self ..) rfl) ?_
      refine W_end ?_
      refine E_then ?_
      refine C_block ?_
      refine C_seq ?_
      refine C_region ?_
      refine W_bin rfl rfl rfl rfl rfl ?_
      refine W_assign rfl rfl rfl ?_
      refine W_end ?_
      refine E_then ?_
      refine C_cond (b := decide (y622.Kind = 0)) rfl (fun hb759 => ?_) (fun hb759 => ?_)
      · have hm := ite_t' hb759 hm
        refine C_region ?_
        refine W_move rfl rfl rfl ?_
        refine W_move rfl rfl rfl ?_
        obtain ⟨y760, h761, he762, hm⟩ := idx_some hm
        refine W_indexO (List.mem_cons_of_mem _ (List.mem_cons_self ..)) rfl rfl Proofs.Tryd.runUnderlying97 Proofs.Tryd.sizeOf4 rfl rfl h761 (List.getElem?_eq_some_iff.1 he762).1 ?_
        obtain ⟨_, rfl, hg763⟩ := (hr615).elem he762
        refine W_perm (List.Perm.swap _ _ _) ?_
        obtain ⟨hr764, he765, hg766⟩ := Rw.put (cs := [.bool (true)]) (o := 0) (c := [.bool (y760)]) (out := [.bool (true)]) (e2 := true) hr615 he762 rfl hg763 rfl rfl rfl
        refine W_storeO2 (i := ((k105 : Int) : Int).toNat * Rep.sz Bool + 0) (cs := [.bool (true)]) rfl Proofs.Tryd.sizeOf4 rfl (row_ad0 _ _) rfl rfl rfl (Rw.room hr615 he762 rfl) rfl (all_cons rfl all_nil) (n' := (l614.set (((k105 : Int) : Int).toNat) true).length) List.length_set ?_
        generalize over xs613 (((k105 : Int) : Int).toNat * Rep.sz Bool + 0) [.bool (true)] = xs767 at hr764 hg766 ⊢
        refine W_end ?_
        refine E_normal_block ?_
        refine E_normal_block ?_
        refine E_drop (List.Sublist.cons_cons _ (List.Sublist.cons _ (List.Sublist.refl _))) ?_
        exact E_keepJ (J754 _ _ _ ⟨(l614.set (((k105 : Int) : Int).toNat) true), xs767, hm, hr764, rfl, rfl, rfl⟩) (List.Perm.refl _) ⟨rfl, rfl, rfl, rfl, rfl, rfl, trivial⟩
      · have hm := ite_f' hb759 hm
        refine C_seq ?_
        refine C_region ?_
        refine W_bin rfl rfl rfl rfl rfl ?_
        refine W_assign rfl rfl rfl ?_
        refine W_end ?_
        refine E_then ?_
        refine C_cond (b := decide (y622.Kind = 2)) rfl (fun hb768 => ?_) (fun hb768 => ?_)
        · have hm := ite_t' hb768 hm
          refine C_region ?_
          refine W_move rfl rfl rfl ?_
          refine W_move rfl rfl rfl ?_
          refine W_move rfl rfl rfl ?_
          refine W_bin rfl rfl rfl rfl rfl ?_
          refine W_move rfl rfl rfl ?_
          cases hb769 : (decide (0 ≤ r757))
          · have hm := ite_f' hb769 hm
            refine W_no rfl rfl rfl ?_
            refine W_no rfl rfl rfl ?_
            refine W_no rfl rfl rfl ?_
            refine W_no rfl rfl rfl ?_
            refine W_no rfl rfl rfl ?_
            refine W_no rfl rfl rfl ?_
            refine W_pick rfl rfl rfl rfl ?_
            obtain ⟨y770, h771, he772, hm⟩ := idx_some hm
            refine W_indexO (List.mem_cons_of_mem _ (List.mem_cons_self ..)) rfl rfl Proofs.Tryd.runUnderlying97 Proofs.Tryd.sizeOf4 rfl rfl h771 (List.getElem?_eq_some_iff.1 he772).1 ?_
            obtain ⟨_, rfl, hg773⟩ := (hr615).elem he772
            refine W_perm (List.Perm.swap _ _ _) ?_
            obtain ⟨hr774, he775, hg776⟩ := Rw.put (cs := [.bool (false)]) (o := 0) (c := [.bool (y770)]) (out := [.bool (false)]) (e2 := false) hr615 he772 rfl hg773 rfl rfl rfl
            refine W_storeO2 (i := ((k105 : Int) : Int).toNat * Rep.sz Bool + 0) (cs := [.bool (false)]) rfl Proofs.Tryd.sizeOf4 rfl (row_ad0 _ _) rfl rfl rfl (Rw.room hr615 he772 rfl) rfl (all_cons rfl all_nil) (n' := (l614.set (((k105 : Int) : Int).toNat) false).length) List.length_set ?_
            generalize over xs613 (((k105 : Int) : Int).toNat * Rep.sz Bool + 0) [.bool (false)] = xs777 at hr774 hg776 ⊢
            refine W_end ?_
            refine E_normal_block ?_
            refine E_normal_block ?_
            refine E_drop (List.Sublist.cons_cons _ (List.Sublist.cons _ (List.Sublist.refl _))) ?_
            exact E_keepJ (J754 _ _ _ ⟨(l614.set (((k105 : Int) : Int).toNat) false), xs777, hm, hr774, rfl, rfl, rfl⟩) (List.Perm.refl _) ⟨rfl, rfl, rfl, rfl, rfl, rfl, trivial⟩
          · have hm := ite_t' hb769 hm
            refine W_move rfl rfl rfl ?_
            refine W_move rfl rfl rfl ?_
            obtain ⟨y778, h779, he780, hm⟩ := idx_some hm
            obtain ⟨_, ⟨rfl⟩, hc781⟩ := (h1).elem he780
            refine W_indexS rfl rfl Proofs.Tryd.runUnderlying39 Proofs.Tryd.sizeOf49 rfl (h1.mono hle617) rfl h779 he780 ?_
            refine W_field (o := 1) rfl rfl Proofs.Tryd.runUnderlying49 rfl Proofs.Tryd.sizeOf4 rfl rfl rfl ?_
            refine W_load rfl rfl Proofs.Tryd.isAgg4 rfl (HCells.one (hc781.mono hle617) 1 rfl).at ?_
            refine W_un rfl rfl rfl rfl ?_
            refine W_pick rfl rfl rfl rfl ?_
            obtain ⟨y782, h783, he784, hm⟩ := idx_some hm
            refine W_indexO (List.mem_cons_of_mem _ (List.mem_cons_self ..)) rfl rfl Proofs.Tryd.runUnderlying97 Proofs.Tryd.sizeOf4 rfl rfl h783 (List.getElem?_eq_some_iff.1 he784).1 ?_
            obtain ⟨_, rfl, hg785⟩ := (hr615).elem he784
            refine W_perm (List.Perm.swap _ _ _) ?_
            obtain ⟨hr786, he787, hg788⟩ := Rw.put (cs := [.bool (!y778.Closed)]) (o := 0) (c := [.bool (y782)]) (out := [.bool (!y778.Closed)]) (e2 := (!y778.Closed)) hr615 he784 rfl hg785 rfl rfl rfl
            refine W_storeO2 (i := ((k105 : Int) : Int).toNat * Rep.sz Bool + 0) (cs := [.bool (!y778.Closed)]) rfl Proofs.Tryd.sizeOf4 rfl (row_ad0 _ _) rfl rfl rfl (Rw.room hr615 he784 rfl) rfl (all_cons rfl all_nil) (n' := (l614.set (((k105 : Int) : Int).toNat) (!y778.Closed)).length) List.length_set ?_
            generalize over xs613 (((k105 : Int) : Int).toNat * Rep.sz Bool + 0) [.bool (!y778.Closed)] = xs789 at hr786 hg788 ⊢
            refine W_end ?_
            refine E_normal_block ?_
            refine E_normal_block ?_
            refine E_drop (List.Sublist.cons_cons _ (List.Sublist.cons _ (List.Sublist.refl _))) ?_
            exact E_keepJ (J754 _ _ _ ⟨(l614.set (((k105 : Int) : Int).toNat) (!y778.Closed)), xs789, hm, hr786, rfl, rfl, rfl⟩) (List.Perm.refl _) ⟨rfl, rfl, rfl, rfl, rfl, rfl, trivial⟩
        · have hm := ite_f' hb768 hm
          refine C_seq ?_
          refine C_region ?_
          refine W_bin rfl rfl rfl rfl rfl ?_
          refine W_assign rfl rfl rfl ?_
          refine W_end ?_
          refine E_then ?_
          refine C_cond (b := decide (y622.Kind = 3)) rfl (fun hb790 => ?_) (fun hb790 => ?_)
          · have hm := ite_t' hb790 hm
            refine C_region ?_
            refine W_move rfl rfl rfl ?_
            refine W_move rfl rfl rfl ?_
            refine W_move rfl rfl rfl ?_
            refine W_bin rfl rfl rfl rfl rfl ?_
            refine W_move rfl rfl rfl ?_
            cases hb791 : (decide (0 ≤ r757))
            · have hm := ite_f' hb791 hm
              refine W_no rfl rfl rfl ?_
              refine W_no rfl rfl rfl ?_
              refine W_no rfl rfl rfl ?_
              refine W_no rfl rfl rfl ?_
              refine W_no rfl rfl rfl ?_
              refine W_pick rfl rfl rfl rfl ?_
              obtain ⟨y792, h793, he794, hm⟩ := idx_some hm
              refine W_indexO (List.mem_cons_of_mem _ (List.mem_cons_self ..)) rfl rfl Proofs.Tryd.runUnderlying97 Proofs.Tryd.sizeOf4 rfl rfl h793 (List.getElem?_eq_some_iff.1 he794).1 ?_
              obtain ⟨_, rfl, hg795⟩ := (hr615).elem he794
              refine W_perm (List.Perm.swap _ _ _) ?_
              obtain ⟨hr796, he797, hg798⟩ := Rw.put (cs := [.bool (false)]) (o := 0) (c := [.bool (y792)]) (out := [.bool (false)]) (e2 := false) hr615 he794 rfl hg795 rfl rfl rfl
              refine W_storeO2 (i := ((k105 : Int) : Int).toNat * Rep.sz Bool + 0) (cs := [.bool (false)]) rfl Proofs.Tryd.sizeOf4 rfl (row_ad0 _ _) rfl rfl rfl (Rw.room hr615 he794 rfl) rfl (all_cons rfl all_nil) (n' := (l614.set (((k105 : Int) : Int).toNat) false).length) List.length_set ?_
              generalize over xs613 (((k105 : Int) : Int).toNat * Rep.sz Bool + 0) [.bool (false)] = xs799 at hr796 hg798 ⊢
              refine W_end ?_
              refine E_normal_block ?_
              refine E_normal_block ?_
              refine E_drop (List.Sublist.cons_cons _ (List.Sublist.cons _ (List.Sublist.refl _))) ?_
              exact E_keepJ (J754 _ _ _ ⟨(l614.set (((k105 : Int) : Int).toNat) false), xs799, hm, hr796, rfl, rfl, rfl⟩) (List.Perm.refl _) ⟨rfl, rfl, rfl, rfl, rfl, rfl, trivial⟩
            · have hm := ite_t' hb791 hm
              refine W_move rfl rfl rfl ?_
              refine W_move rfl rfl rfl ?_
              obtain ⟨y800, h801, he802, hm⟩ := idx_some hm
              obtain ⟨_, ⟨rfl⟩, hc803⟩ := (h1).elem he802
              refine W_indexS rfl rfl Proofs.Tryd.runUnderlying39 Proofs.Tryd.sizeOf49 rfl (h1.mono hle617) rfl h801 he802 ?_
              refine W_field (o := 1) rfl rfl Proofs.Tryd.runUnderlying49 rfl Proofs.Tryd.sizeOf4 rfl rfl rfl ?_
              refine W_load rfl rfl Proofs.Tryd.isAgg4 rfl (HCells.one (hc803.mono hle617) 1 rfl).at ?_
              refine W_pick rfl rfl rfl rfl ?_
              obtain ⟨y804, h805, he806, hm⟩ := idx_some hm
              refine W_indexO (List.mem_cons_of_mem _ (List.mem_cons_self ..)) rfl rfl Proofs.Tryd.runUnderlying97 Proofs.Tryd.sizeOf4 rfl rfl h805 (List.getElem?_eq_some_iff.1 he806).1 ?_
              obtain ⟨_, rfl, hg807⟩ := (hr615).elem he806
              refine W_perm (List.Perm.swap _ _ _) ?_
              obtain ⟨hr808, he809, hg810⟩ := Rw.put (cs := [.bool (y800.Closed)]) (o := 0) (c := [.bool (y804)]) (out := [.bool (y800.Closed)]) (e2 := y800.Closed) hr615 he806 rfl hg807 rfl rfl rfl
              refine W_storeO2 (i := ((k105 : Int) : Int).toNat * Rep.sz Bool + 0) (cs := [.bool (y800.Closed)]) rfl Proofs.Tryd.sizeOf4 rfl (row_ad0 _ _) rfl rfl rfl (Rw.room hr615 he806 rfl) rfl (all_cons rfl all_nil) (n' := (l614.set (((k105 : Int) : Int).toNat) y800.Closed).length) List.length_set ?_
              generalize over xs613 (((k105 : Int) : Int).toNat * Rep.sz Bool + 0) [.bool (y800.Closed)] = xs811 at hr808 hg810 ⊢
              refine W_end ?_
              refine E_normal_block ?_
              refine E_normal_block ?_
              refine E_drop (List.Sublist.cons_cons _ (List.Sublist.cons _ (List.Sublist.refl _))) ?_
              exact E_keepJ (J754 _ _ _ ⟨(l614.set (((k105 : Int) : Int).toNat) y800.Closed), xs811, hm, hr808, rfl, rfl, rfl⟩) (List.Perm.refl _) ⟨rfl, rfl, rfl, rfl, rfl, rfl, trivial⟩
          · have hm := ite_f' hb790 hm
            refine C_seq ?_
            refine C_region ?_
            refine W_bin rfl rfl rfl rfl rfl ?_
            refine W_assign rfl rfl rfl ?_
            refine W_end ?_
            refine E_then ?_
            refine C_cond (b := decide (y622.Kind = 4)) rfl (fun hb812 => ?_) (fun hb812 => ?_)
            · have hm := ite_t' hb812 hm
              refine C_region ?_
              refine W_move rfl rfl rfl ?_
              refine W_move rfl rfl rfl ?_
              refine W_move rfl rfl rfl ?_
              refine W_field (o := 2) rfl rfl Proofs.Tryd.runUnderlying71 rfl Proofs.Tryd.sizeOf3 rfl rfl rfl ?_
              refine W_load rfl rfl Proofs.Tryd.isAgg3 rfl (own_at (List.mem_cons_self ..) rfl) ?_
              obtain ⟨y813, h814, he815, hm⟩ := idx_some hm
              refine W_indexO (List.mem_cons_of_mem _ (List.mem_cons_self ..)) rfl rfl Proofs.Tryd.runUnderlying97 Proofs.Tryd.sizeOf4 rfl rfl h814 (List.getElem?_eq_some_iff.1 he815).1 ?_
              obtain ⟨_, rfl, hg816⟩ := (hr615).elem he815
              refine W_load rfl rfl Proofs.Tryd.isAgg4 rfl (row_one0 (List.mem_cons_of_mem _ (List.mem_cons_self ..)) hg816 rfl) ?_
              refine W_un rfl rfl rfl rfl ?_
              obtain ⟨y817, h818, he819, hm⟩ := idx_some hm
              refine W_indexO (List.mem_cons_of_mem _ (List.mem_cons_self ..)) rfl rfl Proofs.Tryd.runUnderlying97 Proofs.Tryd.sizeOf4 rfl rfl h818 (List.getElem?_eq_some_iff.1 he819).1 ?_
              obtain ⟨_, rfl, hg820⟩ := (hr615).elem he819
              refine W_perm (List.Perm.swap _ _ _) ?_
              obtain ⟨hr821, he822, hg823⟩ := Rw.put (cs := [.bool (!y813)]) (o := 0) (c := [.bool (y817)]) (out := [.bool (!y813)]) (e2 := (!y813)) hr615 he819 rfl hg820 rfl rfl rfl
              refine W_storeO2 (i := ((k105 : Int) : Int).toNat * Rep.sz Bool + 0) (cs := [.bool (!y813)]) rfl Proofs.Tryd.sizeOf4 rfl (row_ad0 _ _) rfl rfl rfl (Rw.room hr615 he819 rfl) rfl (all_cons rfl all_nil) (n' := (l614.set (((k105 : Int) : Int).toNat) (!y813)).length) List.length_set ?_
              generalize over xs613 (((k105 : Int) : Int).toNat * Rep.sz Bool + 0) [.bool (!y813)] = xs824 at hr821 hg823 ⊢
              refine W_end ?_
              refine E_normal_block ?_
              refine E_normal_block ?_
              refine E_drop (List.Sublist.cons_cons _ (List.Sublist.cons _ (List.Sublist.refl _))) ?_
              exact E_keepJ (J754 _ _ _ ⟨(l614.set (((k105 : Int) : Int).toNat) (!y813)), xs824, hm, hr821, rfl, rfl, rfl⟩) (List.Perm.refl _) ⟨rfl, rfl, rfl, rfl, rfl, rfl, trivial⟩
            · have hm := ite_f' hb812 hm
              refine C_seq ?_
              refine C_region ?_
              refine W_bin rfl rfl rfl rfl rfl ?_
              refine W_assign rfl rfl rfl ?_
              refine W_end ?_
              refine E_then ?_
              refine C_cond (b := decide (y622.Kind = 5)) rfl (fun hb825 => ?_) (fun hb825 => ?_)
              · have hm := ite_t' hb825 hm
                refine C_region ?_
                refine W_move rfl rfl rfl ?_
                refine W_move rfl rfl rfl ?_
                refine W_move rfl rfl rfl ?_
                refine W_field (o := 2) rfl rfl Proofs.Tryd.runUnderlying71 rfl Proofs.Tryd.sizeOf3 rfl rfl rfl ?_
                refine W_load rfl rfl Proofs.Tryd.isAgg3 rfl (own_at (List.mem_cons_self ..) rfl) ?_
                obtain ⟨y826, h827, he828, hm⟩ := idx_some hm
                refine W_indexO (List.mem_cons_of_mem _ (List.mem_cons_self ..)) rfl rfl Proofs.Tryd.runUnderlying97 Proofs.Tryd.sizeOf4 rfl rfl h827 (List.getElem?_eq_some_iff.1 he828).1 ?_
                obtain ⟨_, rfl, hg829⟩ := (hr615).elem he828
                refine W_load rfl rfl Proofs.Tryd.isAgg4 rfl (row_one0 (List.mem_cons_of_mem _ (List.mem_cons_self ..)) hg829 rfl) ?_
                refine W_move rfl rfl rfl ?_
                cases hb830 : (y826)
                · have hm := ite_f' hb830 hm
                  refine W_no rfl rfl rfl ?_
                  refine W_no rfl rfl rfl ?_
                  refine W_no rfl rfl rfl ?_
                  refine W_no rfl rfl rfl ?_
                  refine W_no rfl rfl rfl ?_
                  refine W_pick rfl rfl rfl rfl ?_
                  obtain ⟨y831, h832, he833, hm⟩ := idx_some hm
                  refine W_indexO (List.mem_cons_of_mem _ (List.mem_cons_self ..)) rfl rfl Proofs.Tryd.runUnderlying97 Proofs.Tryd.sizeOf4 rfl rfl h832 (List.getElem?_eq_some_iff.1 he833).1 ?_
                  obtain ⟨_, rfl, hg834⟩ := (hr615).elem he833
                  refine W_perm (List.Perm.swap _ _ _) ?_
                  obtain ⟨hr835, he836, hg837⟩ := Rw.put (cs := [.bool (false)]) (o := 0) (c := [.bool (y831)]) (out := [.bool (false)]) (e2 := false) hr615 he833 rfl hg834 rfl rfl rfl
                  refine W_storeO2 (i := ((k105 : Int) : Int).toNat * Rep.sz Bool + 0) (cs := [.bool (false)]) rfl Proofs.Tryd.sizeOf4 rfl (row_ad0 _ _) rfl rfl rfl (Rw.room hr615 he833 rfl) rfl (all_cons rfl all_nil) (n' := (l614.set (((k105 : Int) : Int).toNat) false).length) List.length_set ?_
                  generalize over xs613 (((k105 : Int) : Int).toNat * Rep.sz Bool + 0) [.bool (false)] = xs838 at hr835 hg837 ⊢
                  refine W_end ?_
                  refine E_normal_block ?_
                  refine E_normal_block ?_
                  refine E_drop (List.Sublist.cons_cons _ (List.Sublist.cons _ (List.Sublist.refl _))) ?_
                  exact E_keepJ (J754 _ _ _ ⟨(l614.set (((k105 : Int) : Int).toNat) false), xs838, hm, hr835, rfl, rfl, rfl⟩) (List.Perm.refl _) ⟨rfl, rfl, rfl, rfl, rfl, rfl, trivial⟩
                · have hm := ite_t' hb830 hm
                  refine W_move rfl rfl rfl ?_
                  refine W_field (o := 3) rfl rfl Proofs.Tryd.runUnderlying71 rfl Proofs.Tryd.sizeOf3 rfl rfl rfl ?_
                  refine W_load rfl rfl Proofs.Tryd.isAgg3 rfl (own_at (List.mem_cons_self ..) rfl) ?_
                  obtain ⟨y839, h840, he841, hm⟩ := idx_some hm
                  refine W_indexO (List.mem_cons_of_mem _ (List.mem_cons_self ..)) rfl rfl Proofs.Tryd.runUnderlying97 Proofs.Tryd.sizeOf4 rfl rfl h840 (List.getElem?_eq_some_iff.1 he841).1 ?_
                  obtain ⟨_, rfl, hg842⟩ := (hr615).elem he841
                  refine W_load rfl rfl Proofs.Tryd.isAgg4 rfl (row_one0 (List.mem_cons_of_mem _ (List.mem_cons_self ..)) hg842 rfl) ?_
                  refine W_pick rfl rfl rfl rfl ?_
                  obtain ⟨y843, h844, he845, hm⟩ := idx_some hm
                  refine W_indexO (List.mem_cons_of_mem _ (List.mem_cons_self ..)) rfl rfl Proofs.Tryd.runUnderlying97 Proofs.Tryd.sizeOf4 rfl rfl h844 (List.getElem?_eq_some_iff.1 he845).1 ?_
                  obtain ⟨_, rfl, hg846⟩ := (hr615).elem he845
                  refine W_perm (List.Perm.swap _ _ _) ?_
                  obtain ⟨hr847, he848, hg849⟩ := Rw.put (cs := [.bool (y839)]) (o := 0) (c := [.bool (y843)]) (out := [.bool (y839)]) (e2 := y839) hr615 he845 rfl hg846 rfl rfl rfl
                  refine W_storeO2 (i := ((k105 : Int) : Int).toNat * Rep.sz Bool + 0) (cs := [.bool (y839)]) rfl Proofs.Tryd.sizeOf4 rfl (row_ad0 _ _) rfl rfl rfl (Rw.room hr615 he845 rfl) rfl (all_cons rfl all_nil) (n' := (l614.set (((k105 : Int) : Int).toNat) y839).length) List.length_set ?_
                  generalize over xs613 (((k105 : Int) : Int).toNat * Rep.sz Bool + 0) [.bool (y839)] = xs850 at hr847 hg849 ⊢
                  refine W_end ?_
                  refine E_normal_block ?_
                  refine E_normal_block ?_
                  refine E_drop (List.Sublist.cons_cons _ (List.Sublist.cons _ (List.Sublist.refl _))) ?_
                  exact E_keepJ (J754 _ _ _ ⟨(l614.set (((k105 : Int) : Int).toNat) y839), xs850, hm, hr847, rfl, rfl, rfl⟩) (List.Perm.refl _) ⟨rfl, rfl, rfl, rfl, rfl, rfl, trivial⟩
              · have hm := ite_f' hb825 hm
                refine C_seq ?_
                refine C_region ?_
                refine W_bin rfl rfl rfl rfl rfl ?_
                refine W_assign rfl rfl rfl ?_
                refine W_end ?_
                refine E_then ?_
                refine C_cond (b := decide (y622.Kind = 6)) rfl (fun hb851 => ?_) (fun hb851 => ?_)
                · have hm := ite_t' hb851 hm
                  refine C_region ?_
                  refine W_move rfl rfl rfl ?_
                  refine W_move rfl rfl rfl ?_
                  refine W_move rfl rfl rfl ?_
                  refine W_field (o := 2) rfl rfl Proofs.Tryd.runUnderlying71 rfl Proofs.Tryd.sizeOf3 rfl rfl rfl ?_
                  refine W_load rfl rfl Proofs.Tryd.isAgg3 rfl (own_at (List.mem_cons_self ..) rfl) ?_
                  obtain ⟨y852, h853, he854, hm⟩ := idx_some hm
                  refine W_indexO (List.mem_cons_of_mem _ (List.mem_cons_self ..)) rfl rfl Proofs.Tryd.runUnderlying97 Proofs.Tryd.sizeOf4 rfl rfl h853 (List.getElem?_eq_some_iff.1 he854).1 ?_
                  obtain ⟨_, rfl, hg855⟩ := (hr615).elem he854
                  refine W_load rfl rfl Proofs.Tryd.isAgg4 rfl (row_one0 (List.mem_cons_of_mem _ (List.mem_cons_self ..)) hg855 rfl) ?_
                  refine W_move rfl rfl rfl ?_
                  cases hb856 : (y852)
                  · have hm := ite_f' hb856 hm
                    refine W_move rfl rfl rfl ?_
                    refine W_field (o := 3) rfl rfl Proofs.Tryd.runUnderlying71 rfl Proofs.Tryd.sizeOf3 rfl rfl rfl ?_
                    refine W_load rfl rfl Proofs.Tryd.isAgg3 rfl (own_at (List.mem_cons_self ..) rfl) ?_
                    obtain ⟨y857, h858, he859, hm⟩ := idx_some hm
                    refine W_indexO (List.mem_cons_of_mem _ (List.mem_cons_self ..)) rfl rfl Proofs.Tryd.runUnderlying97 Proofs.Tryd.sizeOf4 rfl rfl h858 (List.getElem?_eq_some_iff.1 he859).1 ?_
                    obtain ⟨_, rfl, hg860⟩ := (hr615).elem he859
                    refine W_load rfl rfl Proofs.Tryd.isAgg4 rfl (row_one0 (List.mem_cons_of_mem _ (List.mem_cons_self ..)) hg860 rfl) ?_
                    refine W_pick rfl rfl rfl rfl ?_
                    obtain ⟨y861, h862, he863, hm⟩ := idx_some hm
                    refine W_indexO (List.mem_cons_of_mem _ (List.mem_cons_self ..)) rfl rfl Proofs.Tryd.runUnderlying97 Proofs.Tryd.sizeOf4 rfl rfl h862 (List.getElem?_eq_some_iff.1 he863).1 ?_
                    obtain ⟨_, rfl, hg864⟩ := (hr615).elem he863
                    refine W_perm (List.Perm.swap _ _ _) ?_
                    obtain ⟨hr865, he866, hg867⟩ := Rw.put (cs := [.bool (y857)]) (o := 0) (c := [.bool (y861)]) (out := [.bool (y857)]) (e2 := y857) hr615 he863 rfl hg864 rfl rfl rfl
                    refine W_storeO2 (i := ((k105 : Int) : Int).toNat * Rep.sz Bool + 0) (cs := [.bool (y857)]) rfl Proofs.Tryd.sizeOf4 rfl (row_ad0 _ _) rfl rfl rfl (Rw.room hr615 he863 rfl) rfl (all_cons rfl all_nil) (n' := (l614.set (((k105 : Int) : Int).toNat) y857).length) List.length_set ?_
                    generalize over xs613 (((k105 : Int) : Int).toNat * Rep.sz Bool + 0) [.bool (y857)] = xs868 at hr865 hg867 ⊢
                    refine W_end ?_
                    refine E_normal_block ?_
                    refine E_normal_block ?_
                    refine E_drop (List.Sublist.cons_cons _ (List.Sublist.cons _ (List.Sublist.refl _))) ?_
                    exact E_keepJ (J754 _ _ _ ⟨(l614.set (((k105 : Int) : Int).toNat) y857), xs868, hm, hr865, rfl, rfl, rfl⟩) (List.Perm.refl _) ⟨rfl, rfl, rfl, rfl, rfl, rfl, trivial⟩
                  · have hm := ite_t' hb856 hm
                    refine W_no rfl rfl rfl ?_
                    refine W_no rfl rfl rfl ?_
                    refine W_no rfl rfl rfl ?_
                    refine W_no rfl rfl rfl ?_
                    refine W_no rfl rfl rfl ?_
                    refine W_pick rfl rfl rfl rfl ?_
                    obtain ⟨y869, h870, he871, hm⟩ := idx_some hm
                    refine W_indexO (List.mem_cons_of_mem _ (List.mem_cons_self ..)) rfl rfl Proofs.Tryd.runUnderlying97 Proofs.Tryd.sizeOf4 rfl rfl h870 (List.getElem?_eq_some_iff.1 he871).1 ?_
                    obtain ⟨_, rfl, hg872⟩ := (hr615).elem he871
                    refine W_perm (List.Perm.swap _ _ _) ?_
                    obtain ⟨hr873, he874, hg875⟩ := Rw.put (cs := [.bool (true)]) (o := 0) (c := [.bool (y869)]) (out := [.bool (true)]) (e2 := true) hr615 he871 rfl hg872 rfl rfl rfl
                    refine W_storeO2 (i := ((k105 : Int) : Int).toNat * Rep.sz Bool + 0) (cs := [.bool (true)]) rfl Proofs.Tryd.sizeOf4 rfl (row_ad0 _ _) rfl rfl rfl (Rw.room hr615 he871 rfl) rfl (all_cons rfl all_nil) (n' := (l614.set (((k105 : Int) : Int).toNat) true).length) List.length_set ?_
                    generalize over xs613 (((k105 : Int) : Int).toNat * Rep.sz Bool + 0) [.bool (true)] = xs876 at hr873 hg875 ⊢
                    refine W_end ?_
                    refine E_normal_block ?_
                    refine E_normal_block ?_
                    refine E_drop (List.Sublist.cons_cons _ (List.Sublist.cons _ (List.Sublist.refl _))) ?_
                    exact E_keepJ (J754 _ _ _ ⟨(l614.set (((k105 : Int) : Int).toNat) true), xs876, hm, hr873, rfl, rfl, rfl⟩) (List.Perm.refl _) ⟨rfl, rfl, rfl, rfl, rfl, rfl, trivial⟩
                · have hm := ite_f' hb851 hm
                  refine C_skip ?_
                  refine E_normal_block ?_
                  refine E_normal_block ?_
                  refine E_drop (List.Sublist.cons _ (List.Sublist.refl _)) ?_
                  exact E_keepJ (J754 _ _ _ ⟨l614, xs613, hm, hr615, rfl, rfl, rfl⟩) (List.Perm.refl _) ⟨rfl, rfl, rfl, rfl, rfl, rfl, trivial⟩
  · obtain rfl := rng_f hd625 hb627
    have hm : (idx l614 (IntKind.i64.wrap ((p0_l.length : Int) - 1)) fun y877 => some y877) = some r := hm
    refine C_exit (E_exit_then ?_)
    refine E_exit_then ?_
    refine E_exit_hit ?_
    refine E_then ?_
    refine C_seq ?_
    refine C_region ?_
    refine W_move rfl rfl rfl ?_
    refine W_move rfl rfl rfl ?_
    refine W_lenR rfl rfl Proofs.Tryd.runUnderlying36 rfl (h0.mono hle617) ?_
    refine W_bin rfl rfl rfl rfl rfl ?_
    obtain ⟨y877, h878, he879, hm⟩ := idx_some hm
    refine W_indexO (List.mem_cons_self ..) rfl rfl Proofs.Tryd.runUnderlying97 Proofs.Tryd.sizeOf4 rfl rfl h878 (List.getElem?_eq_some_iff.1 he879).1 ?_
    obtain ⟨_, rfl, hg880⟩ := (hr615).elem he879
    refine W_load rfl rfl Proofs.Tryd.isAgg4 rfl (row_one0 (List.mem_cons_self ..) hg880 rfl) ?_
    refine W_assign rfl rfl rfl ?_
    refine W_end ?_
    refine E_then ?_
    refine C_ret ?_
    obtain rfl := Option.some.inj hm
    refine E_drop (List.Sublist.cons _ (List.Sublist.refl _)) ?_
    refine E_weak hle617 ?_
    exact end1 rfl rfl ⟨rfl, rfl, rfl⟩

theorem m_interlock_Explain_c {B : Nat} {w0 w : World} {H : Hp} {M : List Res} {p0_l : (List S_api_InterlockRule)} {states : (List S_api_InterlockState)} {closing : Bool} {name : ByteArray} {v0 : Value} {v1 : Value} {r : (List Int) × Int} (hm : m_interlock_Explain p0_l states closing name = some r) (h0 : RdS H v0 p0_l) (h1 : RdS H v1 states) (ht : St B w0 H (M) w) :
    Calls Proofs.Tryd.prog 21 [v0, v1, .bool (closing), .string (name)].toArray w (Ret B w0 fun H' M' v => H = H' ∧ ∃ qv0 : Value, ∃ qxs0 : List Value, .row qv0 3 (Rep.sz Int) r.1.length qxs0 :: M = M' ∧ .tuple #[qv0, .int .i64 (r.2)] = v ∧ RwF qv0 qxs0 r.1) := by
  unfold m_interlock_Explain at hm
  refine enter Proofs.Tryd.func21 rfl rfl rfl ht ?_
  refine C_seq ?_
  refine C_region ?_
  refine W_assign rfl rfl rfl ?_
  refine W_assign rfl rfl rfl ?_
  refine W_end ?_
  refine E_then ?_
  refine C_seq ?_
  refine C_seq ?_
  refine C_region ?_
  refine W_move rfl rfl rfl ?_
  obtain ⟨r101, hc102, hm⟩ := bind_some hm
  refine W_call Proofs.Tryd.call36 rfl rfl rfl (fun w ht => by have h := m_interlock_Check_c (hm := hc102) h0 ht; exact h) ?_
  rintro _ _ _ ⟨rfl, rfl, rfl⟩
  refine W_assign rfl rfl rfl ?_
  refine W_end ?_
  refine E_then ?_
  refine C_seq ?_
  refine C_region ?_
  refine W_move rfl rfl rfl ?_
  refine W_bin rfl rfl rfl rfl rfl ?_
  refine W_end ?_
  refine E_then ?_
  refine C_cond (b := !decide (r101 = 0)) rfl (fun hb103 => ?_) (fun hb103 => ?_)
  · have hm := ite_t' hb103 hm
    refine C_seq ?_
    refine C_region ?_
    refine W_move rfl rfl rfl ?_
    refine W_assign rfl rfl rfl ?_
    refine W_assign rfl rfl rfl ?_
    refine W_end ?_
    refine E_then ?_
    refine C_ret ?_
    refine E_ret_then ?_
    refine E_nilRow 3 (Rep.sz Int) ?_
    obtain rfl := Option.some.inj hm
    refine E_weak (Hp.le_refl _) ?_
    exact end2 rfl rfl rfl ⟨rfl, (.slice none 0 0), [], rfl, rfl, (Rw.nil (H := H)).toF⟩
  · have hm := ite_f' hb103 hm
    refine C_skip ?_
    refine E_then ?_
    refine C_seq ?_
    refine C_seq ?_
    refine C_region ?_
    refine W_move rfl rfl rfl ?_
    obtain ⟨r104, hc105, hm⟩ := bind_some hm
    refine W_call Proofs.Tryd.call33 rfl rfl rfl (fun w ht => by have h := m_interlock_CheckStates_c (hm := hc105) h1 ht; exact h) ?_
    rintro _ _ _ ⟨rfl, rfl, rfl⟩
    refine W_assign rfl rfl rfl ?_
    refine W_end ?_
    refine E_then ?_
    refine C_seq ?_
    refine C_region ?_
    refine W_move rfl rfl rfl ?_
    refine W_bin rfl rfl rfl rfl rfl ?_
    refine W_end ?_
    refine E_then ?_
    refine C_cond (b := !decide (r104 = 0)) rfl (fun hb106 => ?_) (fun hb106 => ?_)
    · have hm := ite_t' hb106 hm
      refine C_seq ?_
      refine C_region ?_
      refine W_move rfl rfl rfl ?_
      refine W_assign rfl rfl rfl ?_
      refine W_assign rfl rfl rfl ?_
      refine W_end ?_
      refine E_then ?_
      refine C_ret ?_
      refine E_ret_then ?_
      refine E_nilRow 3 (Rep.sz Int) ?_
      obtain rfl := Option.some.inj hm
      refine E_weak (Hp.le_refl _) ?_
      exact end2 rfl rfl rfl ⟨rfl, (.slice none 0 0), [], rfl, rfl, (Rw.nil (H := H)).toF⟩
    · have hm := ite_f' hb106 hm
      refine C_skip ?_
      refine E_then ?_
      refine C_seq ?_
      refine C_seq ?_
      refine C_region ?_
      refine W_move rfl rfl rfl ?_
      refine W_move rfl rfl rfl ?_
      obtain ⟨r107, hc108, hm⟩ := bind_some hm
      refine W_call Proofs.Tryd.call34 rfl rfl rfl (fun w ht => by have h := m_interlock_index_c (hm := hc108) h1 ht; exact h) ?_
      rintro _ _ _ ⟨rfl, rfl, rfl⟩
      refine W_bin rfl rfl rfl rfl rfl ?_
      refine W_end ?_
      refine E_then ?_
      refine C_cond (b := decide (r107 < 0)) rfl (fun hb109 => ?_) (fun hb109 => ?_)
      · have hm := ite_t' hb109 hm
        refine C_seq ?_
        refine C_region ?_
        refine W_assign rfl rfl rfl ?_
        refine W_assign rfl rfl rfl ?_
        refine W_end ?_
        refine E_then ?_
        refine C_ret ?_
        refine E_ret_then ?_
        refine E_nilRow 3 (Rep.sz Int) ?_
        obtain rfl := Option.some.inj hm
        refine E_weak (Hp.le_refl _) ?_
        exact end2 rfl rfl rfl ⟨rfl, (.slice none 0 0), [], rfl, rfl, (Rw.nil (H := H)).toF⟩
      · have hm := ite_f' hb109 hm
        refine C_skip ?_
        refine E_then ?_
        refine C_seq ?_
        refine C_region ?_
        refine W_assign rfl rfl rfl ?_
        refine W_end ?_
        refine E_then ?_
        refine C_seq ?_
        refine C_seq ?_
        refine C_region ?_
        refine W_move rfl rfl rfl ?_
        refine W_lenR rfl rfl Proofs.Tryd.runUnderlying44 rfl h0 ?_
        refine W_move rfl rfl rfl ?_
        refine W_end ?_
        refine E_then ?_
        refine C_block ?_
        refine C_nilRow 3 (Rep.sz Int) ?_
        refine C_keep (L' := [(1, v1), (2, .bool (closing)), (3, .string (name)), (12, (.slice none 0 0)), (29, v0), (30, .int .i64 ((p0_l.length : Int))), (31, .int .i64 (((0 : Nat) : Int)))]) ⟨rfl, rfl, rfl, rfl, rfl, rfl, rfl, trivial⟩ (List.Perm.refl _) ?_
        refine C_loop (fun n H' M' L' => ∃ (k110 : Nat) (zs228' : List S_api_InterlockRule), ∃ l219 : List Int, ∃ v217 : Value, ∃ xs218 : List Value, (p0_l).drop k110 = zs228' ∧ zs228'.length = n ∧ forI (fun k y s223 n => m_interlock_Explain_b3 states closing name k y s223 n) (fun s223 => some (s223, 0)) k110 zs228' l219 = some r ∧ Rw H' v217 xs218 l219 ∧ H.le H' ∧ .row v217 3 (Rep.sz Int) l219.length xs218 :: M = M' ∧ [(1, v1), (2, .bool (closing)), (3, .string (name)), (12, v217), (29, v0), (30, .int .i64 ((p0_l.length : Int))), (31, .int .i64 ((k110 : Int)))] = L') _ ⟨0, _, ([] : List Int), (.slice none 0 0), ([]), rfl, rfl, hm, Rw.nil, (Hp.le_refl _), rfl, rfl⟩ ?_
        rintro _ H221 _ _ ⟨k110, zs228', l219, v217, xs218, hd230, rfl, hm, hr220, hle222, rfl, rfl⟩
        refine C_seq ?_
        refine C_region ?_
        refine W_bin rfl rfl rfl rfl rfl ?_
        refine W_end (E_then ?_)
        refine C_seq ?_
        refine C_cond (b := decide ((k110 : Int) < (p0_l.length : Int))) rfl (fun hb232 => ?_) (fun hb232 => ?_)
        · obtain ⟨y227, zs228, rfl, hy229, hd231⟩ := rng_t hd230 hb232
          have hm : m_interlock_Explain_b3 states closing name k110 y227 l219 (forI (fun k y s223 n => m_interlock_Explain_b3 states closing name k y s223 n) (fun s223 => some (s223, 0)) (k110 + 1) zs228) = some r := hm
          generalize hn225 : forI (fun k y s223 n => m_interlock_Explain_b3 states closing name k y s223 n) (fun s223 => some (s223, 0)) (k110 + 1) zs228 = nx224 at hm
          unfold m_interlock_Explain_b3 at hm
          refine C_skip (E_then ?_)
          refine C_seq_join (fun H' M' L' => ∃ l255 : List Int, ∃ v253 : Value, ∃ xs254 : List Value, m_interlock_Explain_b4 nx224 l255 = some r ∧ Rw H' v253 xs254 l255 ∧ H221.le H' ∧ .row v253 3 (Rep.sz Int) l255.length xs254 :: M = M' ∧ [(1, v1), (2, .bool (closing)), (3, .string (name)), (12, v253), (29, v0), (30, .int .i64 ((p0_l.length : Int))), (31, .int .i64 ((k110 : Int)))] = L') ?_ (fun J259 => ?_)
          · rintro H257 _ _ ⟨l255, v253, xs254, hm, hr256, hle258, rfl, rfl⟩
            unfold m_interlock_Explain_b4 at hm
            refine C_region ?_
            refine W_bin rfl rfl rfl rfl rfl ?_
            refine W_move rfl rfl rfl ?_
            refine W_end ?_
            exact E_keepJ (E_back (Nat.lt_succ_self _) ⟨k110 + 1, zs228, l255, v253, xs254, hd231, rfl, (by rw [hn225]; exact hm), hr256, (Hp.le_trans hle222 hle258), rfl, rfl⟩) (List.Perm.refl _) ⟨rfl, rfl, rfl, rfl, rfl, rfl, (congrArg (fun z => some (Value.int .i64 z)) (i64_succ hy229 ((h0.mono hle222)).lenMax)), trivial⟩
          · refine C_block ?_
            refine C_seq ?_
            refine C_region ?_
            refine W_move rfl rfl rfl ?_
            obtain ⟨_, ⟨v261, rfl, h262⟩, hc260⟩ := (h0).elem hy229
            refine W_indexS rfl rfl Proofs.Tryd.runUnderlying44 Proofs.Tryd.sizeOf38 rfl (h0.mono hle222) rfl (Int.natCast_nonneg _) hy229 ?_
            refine W_loadAgg rfl rfl Proofs.Tryd.isAgg38 Proofs.Tryd.sizeOf38 rfl (hc260.mono hle222).at rfl ?_
            refine W_alloc (cs := [.bool (false), .string (⟨#[]⟩), .slice none 0 0]) rfl rfl Proofs.Tryd.zeroValue38 rfl (fun b263 => ?_)
            refine W_assign rfl rfl rfl ?_
            refine W_store (cs := [.bool (y227.Close), .string (y227.Switch), v261]) (out := [.bool (y227.Close), .string (y227.Switch), v261]) rfl Proofs.Tryd.sizeOf38 rfl rfl rfl rfl rfl (all_cons rfl (all_cons rfl (all_cons (RdS.one1 (h262.mono hle222)) all_nil))) (over_all rfl) ?_
            refine W_end ?_
            refine E_then ?_
            refine C_seq ?_
            refine C_region ?_
            refine W_field (o := 0) rfl rfl Proofs.Tryd.runUnderlying38 rfl Proofs.Tryd.sizeOf4 rfl rfl rfl ?_
            refine W_load rfl rfl Proofs.Tryd.isAgg4 rfl (own_at (List.mem_cons_self ..) rfl) ?_
            refine W_move rfl rfl rfl ?_
            refine W_eqBool rfl rfl Proofs.Tryd.runUnderlying4 rfl rfl ?_
            refine W_move rfl rfl rfl ?_
            cases hb264 : (decide (y227.Close = closing))
            · have hm := ite_f' hb264 hm
              refine W_no rfl rfl rfl ?_
              refine W_no rfl rfl rfl ?_
              refine W_no rfl rfl rfl ?_
              refine W_no rfl rfl rfl ?_
              refine W_pick rfl rfl rfl rfl ?_
              refine W_move rfl rfl rfl ?_
              refine W_no rfl rfl rfl ?_
              refine W_no rfl rfl rfl ?_
              refine W_no rfl rfl rfl ?_
              refine W_no rfl rfl rfl ?_
              refine W_no rfl rfl rfl ?_
              refine W_pick rfl rfl rfl rfl ?_
              refine W_end ?_
              refine E_then ?_
              refine C_cond (b := false) rfl (fun hb => Bool.noConfusion hb) (fun _ => ?_)
              refine C_skip ?_
              refine E_normal_block ?_
              refine E_drop (List.Sublist.cons _ (List.Sublist.refl _)) ?_
              exact E_keepJ (J259 _ _ _ ⟨l219, v217, xs218, hm, hr220, (Hp.le_refl _), rfl, rfl⟩) (List.Perm.refl _) ⟨rfl, rfl, rfl, rfl, rfl, rfl, rfl, trivial⟩
            · have hm := ite_t' hb264 hm
              refine W_field (o := 1) rfl rfl Proofs.Tryd.runUnderlying38 rfl Proofs.Tryd.sizeOf9 rfl rfl rfl ?_
              refine W_load rfl rfl Proofs.Tryd.isAgg9 rfl (own_at (List.mem_cons_self ..) rfl) ?_
              refine W_move rfl rfl rfl ?_
              refine W_bin rfl rfl rfl rfl rfl ?_
              refine W_pick rfl rfl rfl rfl ?_
              refine W_move rfl rfl rfl ?_
              cases hb265 : (decide (y227.Switch = name))
              · have hm := ite_f' hb265 hm
                refine W_no rfl rfl rfl ?_
                refine W_no rfl rfl rfl ?_
                refine W_no rfl rfl rfl ?_
                refine W_no rfl rfl rfl ?_
                refine W_no rfl rfl rfl ?_
                refine W_pick rfl rfl rfl rfl ?_
                refine W_end ?_
                refine E_then ?_
                refine C_cond (b := false) rfl (fun hb => Bool.noConfusion hb) (fun _ => ?_)
                refine C_skip ?_
                refine E_normal_block ?_
                refine E_drop (List.Sublist.cons _ (List.Sublist.refl _)) ?_
                exact E_keepJ (J259 _ _ _ ⟨l219, v217, xs218, hm, hr220, (Hp.le_refl _), rfl, rfl⟩) (List.Perm.refl _) ⟨rfl, rfl, rfl, rfl, rfl, rfl, rfl, trivial⟩
              · have hm := ite_t' hb265 hm
                refine W_field (o := 2) rfl rfl Proofs.Tryd.runUnderlying38 rfl Proofs.Tryd.sizeOf36 rfl rfl rfl ?_
                refine W_load rfl rfl Proofs.Tryd.isAgg36 rfl (own_at (List.mem_cons_self ..) rfl) ?_
                refine W_move rfl rfl rfl ?_
                obtain ⟨r266, hc267, hm⟩ := bind_some hm
                refine W_call Proofs.Tryd.call37 rfl rfl rfl (fun w ht => by have h := m_interlock_holds_c (hm := hc267) (h262.mono hle222) (h1.mono hle222) ht; exact h) ?_
                rintro _ _ _ ⟨rfl, rfl, rfl⟩
                refine W_un rfl rfl rfl rfl ?_
                refine W_pick rfl rfl rfl rfl ?_
                refine W_end ?_
                refine E_then ?_
                refine C_cond (b := !r266) rfl (fun hb268 => ?_) (fun hb268 => ?_)
                · have hm := ite_t' hb268 hm
                  refine C_region ?_
                  refine W_move rfl rfl rfl ?_
                  refine W_move rfl rfl rfl ?_
                  refine W_buildSlice (α := Int) (css := [[.int .i64 ((k110 : Int))]]) (zs := [.int .i64 (0)]) (out := [.int .i64 ((k110 : Int))]) (ys := [((k110 : Int))]) rfl rfl rfl ⟨rfl, trivial⟩ Proofs.Tryd.runUnderlying52 Proofs.Tryd.sizeOf3 rfl Proofs.Tryd.zeroValue3 (by kernel_rfl) rfl rfl rfl rfl ⟨[.int .i64 ((k110 : Int))], [], rfl, rfl, rfl⟩ rfl ?_
                  intro b269 v270 H271 hv272 hle273 h274
                  have hc275 : Value.cap' v270 = ([((k110 : Int))]).length := by rw [hv272]; rfl
                  obtain ⟨hz276, hm⟩ := need_some hm
                  refine W_perm (List.Perm.swap _ _ _) ?_
                  refine W_appendO (α := Int) (l := l219) (ys := [((k110 : Int))]) rfl rfl Proofs.Tryd.underlying52 ⟨_, rfl, rfl, rfl, rfl⟩ rfl rfl rfl rfl rfl (hr220.mono hle273) h274 hz276 ?_
                  intro v277 xs278 hr279
                  refine W_assign rfl rfl rfl ?_
                  refine W_end ?_
                  refine E_normal_block ?_
                  refine E_drop (List.Sublist.cons_cons _ (List.Sublist.cons _ (List.Sublist.refl _))) ?_
                  exact E_keepJ (J259 _ _ _ ⟨(l219 ++ ([((k110 : Int))])), v277, xs278, hm, hr279, hle273, rfl, rfl⟩) (List.Perm.refl _) ⟨rfl, rfl, rfl, rfl, rfl, rfl, rfl, trivial⟩
                · have hm := ite_f' hb268 hm
                  refine C_skip ?_
                  refine E_normal_block ?_
                  refine E_drop (List.Sublist.cons _ (List.Sublist.refl _)) ?_
                  exact E_keepJ (J259 _ _ _ ⟨l219, v217, xs218, hm, hr220, (Hp.le_refl _), rfl, rfl⟩) (List.Perm.refl _) ⟨rfl, rfl, rfl, rfl, rfl, rfl, rfl, trivial⟩
        · obtain rfl := rng_f hd230 hb232
          have hm : (some (l219, 0)) = some r := hm
          refine C_exit (E_exit_then ?_)
          refine E_exit_then ?_
          refine E_exit_hit ?_
          refine E_then ?_
          refine C_seq ?_
          refine C_region ?_
          refine W_move rfl rfl rfl ?_
          refine W_assign rfl rfl rfl ?_
          refine W_assign rfl rfl rfl ?_
          refine W_end ?_
          refine E_then ?_
          refine C_ret ?_
          obtain rfl := Option.some.inj hm
          refine E_weak hle222 ?_
          exact end2 rfl rfl rfl ⟨rfl, v217, xs218, rfl, rfl, (hr220).toF⟩

theorem m_interlock_Permitted_c {B : Nat} {w0 w : World} {H : Hp} {M : List Res} {p0_l : (List S_api_InterlockRule)} {states : (List S_api_InterlockState)} {closing : Bool} {name : ByteArray} {v0 : Value} {v1 : Value} {r : Bool × Int} (hm : m_interlock_Permitted p0_l states closing name = some r) (h0 : RdS H v0 p0_l) (h1 : RdS H v1 states) (ht : St B w0 H (M) w) :
    Calls Proofs.Tryd.prog 17 [v0, v1, .bool (closing), .string (name)].toArray w (Ret B w0 fun H' M' v => H = H' ∧ M = M' ∧ .tuple #[.bool (r.1), .int .i64 (r.2)] = v) := by
  unfold m_interlock_Permitted at hm
  refine enter Proofs.Tryd.func17 rfl rfl rfl ht ?_
  refine C_seq ?_
  refine C_region ?_
  refine W_assign rfl rfl rfl ?_
  refine W_assign rfl rfl rfl ?_
  refine W_end ?_
  refine E_then ?_
  refine C_seq ?_
  refine C_region ?_
  refine W_move rfl rfl rfl ?_
  refine W_move rfl rfl rfl ?_
  refine W_move rfl rfl rfl ?_
  refine W_move rfl rfl rfl ?_
  obtain ⟨r101, hc102, hm⟩ := bind_some hm
  refine W_call Proofs.Tryd.call21 rfl rfl rfl (fun w ht => by have h := m_interlock_Explain_c (hm := hc102) h0 h1 ht; exact h) ?_
  rintro _ _ _ ⟨rfl, v103, xs104, rfl, rfl, h105⟩
  have h105 := h105 H
  refine W_move rfl rfl rfl ?_
  refine W_extract rfl rfl rfl rfl ?_
  refine W_extract rfl rfl rfl rfl ?_
  refine W_assign rfl rfl rfl ?_
  refine W_assign rfl rfl rfl ?_
  refine W_end ?_
  refine E_then ?_
  refine C_seq_join (fun H' M' L' => H = H' ∧ M = M' ∧ [(8, .bool ((decide (r101.2 = 0)) && (decide ((r101.1.length : Int) = 0)))), (9, .int .i64 (r101.2))] = L') ?_ (fun J107 => ?_)
  · rintro _ _ _ ⟨rfl, rfl, rfl⟩
    refine C_ret ?_
    obtain rfl := Option.some.inj hm
    refine E_weak (Hp.le_refl _) ?_
    exact end2 rfl rfl rfl ⟨rfl, rfl, rfl⟩
  · refine C_region ?_
    refine W_move rfl rfl rfl ?_
    refine W_bin rfl rfl rfl rfl rfl ?_
    refine W_move rfl rfl rfl ?_
    cases hb108 : (decide (r101.2 = 0))
    · refine W_no rfl rfl rfl ?_
      refine W_no rfl rfl rfl ?_
      refine W_no rfl rfl rfl ?_
      refine W_pick rfl rfl rfl rfl ?_
      refine W_move rfl rfl rfl ?_
      refine W_assign rfl rfl rfl ?_
      refine W_assign rfl rfl rfl ?_
      refine W_end ?_
      refine E_drop (List.Sublist.cons _ (List.Sublist.refl _)) ?_
      exact E_keepJ (J107 _ _ _ ⟨rfl, rfl, rfl⟩) (List.Perm.refl _) ⟨(by show some (Value.bool (false)) = some (Value.bool ((decide (r101.2 = 0)) && (decide ((r101.1.length : Int) = 0)))); simp only [hb108, Bool.and_true, Bool.true_and, Bool.false_and, Bool.and_false, Bool.or_true, Bool.true_or, Bool.or_false, Bool.false_or, Bool.not_true, Bool.not_false]), rfl, trivial⟩
    · refine W_move rfl rfl rfl ?_
      refine W_lenO (List.mem_cons_self ..) rfl rfl Proofs.Tryd.runUnderlying52 rfl ?_
      refine W_bin rfl rfl rfl rfl rfl ?_
      refine W_pick rfl rfl rfl rfl ?_
      refine W_move rfl rfl rfl ?_
      refine W_assign rfl rfl rfl ?_
      refine W_assign rfl rfl rfl ?_
      refine W_end ?_
      refine E_drop (List.Sublist.cons _ (List.Sublist.refl _)) ?_
      exact E_keepJ (J107 _ _ _ ⟨rfl, rfl, rfl⟩) (List.Perm.refl _) ⟨(by show some (Value.bool (decide ((r101.1.length : Int) = 0))) = some (Value.bool ((decide (r101.2 = 0)) && (decide ((r101.1.length : Int) = 0)))); simp only [hb108, Bool.and_true, Bool.true_and, Bool.false_and, Bool.and_false, Bool.or_true, Bool.true_or, Bool.or_false, Bool.false_or, Bool.not_true, Bool.not_false]), rfl, trivial⟩

theorem m_internal_stringslite_HasSuffix_c {B : Nat} {w0 w : World} {H : Hp} {M : List Res} {p0_s : ByteArray} {suffix : ByteArray} {r : Bool} (hm : m_internal_stringslite_HasSuffix p0_s suffix = some r) (ht : St B w0 H (M) w) :
    Calls Proofs.Tryd.prog 59 [.string (p0_s), .string (suffix)].toArray w (Ret B w0 fun H' M' v => H = H' ∧ M = M' ∧ .bool (r) = v) := by
  unfold m_internal_stringslite_HasSuffix at hm
  refine enter Proofs.Tryd.func59 rfl rfl rfl ht ?_
  refine C_seq ?_
  refine C_region ?_
  refine W_assign rfl rfl rfl ?_
  refine W_end ?_
  refine E_then ?_
  refine C_seq ?_
  refine C_region ?_
  refine W_move rfl rfl rfl ?_
  refine W_lenStr rfl rfl Proofs.Tryd.runUnderlying9 rfl ?_
  refine W_move rfl rfl rfl ?_
  refine W_lenStr rfl rfl Proofs.Tryd.runUnderlying9 rfl ?_
  refine W_bin rfl rfl rfl rfl rfl ?_
  refine W_move rfl rfl rfl ?_
  cases hb101 : (decide ((suffix.size : Int) ≤ (p0_s.size : Int)))
  · have hm := ite_f' hb101 hm
    refine W_no rfl rfl rfl ?_
    refine W_no rfl rfl rfl ?_
    refine W_no rfl rfl rfl ?_
    refine W_no rfl rfl rfl ?_
    refine W_no rfl rfl rfl ?_
    refine W_no rfl rfl rfl ?_
    refine W_no rfl rfl rfl ?_
    refine W_no rfl rfl rfl ?_
    refine W_no rfl rfl rfl ?_
    refine W_pick rfl rfl rfl rfl ?_
    refine W_assign rfl rfl rfl ?_
    refine W_end ?_
    refine E_then ?_
    refine C_ret ?_
    obtain rfl := Option.some.inj hm
    refine E_weak (Hp.le_refl _) ?_
    exact end1 rfl rfl ⟨rfl, rfl, rfl⟩
  · have hm := ite_t' hb101 hm
    refine W_move rfl rfl rfl ?_
    refine W_move rfl rfl rfl ?_
    refine W_lenStr rfl rfl Proofs.Tryd.runUnderlying9 rfl ?_
    refine W_move rfl rfl rfl ?_
    refine W_lenStr rfl rfl Proofs.Tryd.runUnderlying9 rfl ?_
    refine W_bin rfl rfl rfl rfl rfl ?_
    obtain ⟨hz102, hm⟩ := need_some hm
    refine W_sliceStr (l := (IntKind.i64.wrap ((p0_s.size : Int) - (suffix.size : Int)) : Int).toNat) (h := p0_s.size) rfl rfl Proofs.Tryd.runUnderlying9 rfl (.inl ⟨rfl, rfl⟩) (.inr ⟨_, _, _, rfl, rfl, by omega, by omega, rfl⟩) ?_
    refine W_move rfl rfl rfl ?_
    refine W_bin rfl rfl rfl rfl rfl ?_
    refine W_pick rfl rfl rfl rfl ?_
    refine W_assign rfl rfl rfl ?_
    refine W_end ?_
    refine E_then ?_
    refine C_ret ?_
    obtain rfl := Option.some.inj hm
    refine E_weak (Hp.le_refl _) ?_
    exact end1 rfl rfl ⟨rfl, rfl, rfl⟩

theorem m_internal_stringslite_TrimSuffix_c {B : Nat} {w0 w : World} {H : Hp} {M : List Res} {p0_s : ByteArray} {suffix : ByteArray} {r : ByteArray} (hm : m_internal_stringslite_TrimSuffix p0_s suffix = some r) (ht : St B w0 H (M) w) :
    Calls Proofs.Tryd.prog 58 [.string (p0_s), .string (suffix)].toArray w (Ret B w0 fun H' M' v => H = H' ∧ M = M' ∧ .string (r) = v) := by
  unfold m_internal_stringslite_TrimSuffix at hm
  refine enter Proofs.Tryd.func58 rfl rfl rfl ht ?_
  refine C_seq ?_
  refine C_region ?_
  refine W_assign rfl rfl rfl ?_
  refine W_end ?_
  refine E_then ?_
  refine C_seq ?_
  refine C_seq ?_
  refine C_region ?_
  refine W_move rfl rfl rfl ?_
  refine W_move rfl rfl rfl ?_
  obtain ⟨r101, hc102, hm⟩ := bind_some hm
  refine W_call Proofs.Tryd.call59 rfl rfl rfl (fun w ht => by have h := m_internal_stringslite_HasSuffix_c (hm := hc102)  ht; exact h) ?_
  rintro _ _ _ ⟨rfl, rfl, rfl⟩
  refine W_end ?_
  refine E_then ?_
  refine C_cond (b := r101) rfl (fun hb103 => ?_) (fun hb103 => ?_)
  · have hm := ite_t' hb103 hm
    refine C_seq ?_
    refine C_region ?_
    refine W_move rfl rfl rfl ?_
    refine W_move rfl rfl rfl ?_
    refine W_lenStr rfl rfl Proofs.Tryd.runUnderlying9 rfl ?_
    refine W_move rfl rfl rfl ?_
    refine W_lenStr rfl rfl Proofs.Tryd.runUnderlying9 rfl ?_
    refine W_bin rfl rfl rfl rfl rfl ?_
    obtain ⟨hz104, hm⟩ := need_some hm
    refine W_sliceStr (l := 0) (h := (IntKind.i64.wrap ((p0_s.size : Int) - (suffix.size : Int)) : Int).toNat) rfl rfl Proofs.Tryd.runUnderlying9 rfl (.inr ⟨_, _, _, rfl, rfl, by omega, by omega, rfl⟩) (.inl ⟨rfl, rfl⟩) ?_
    refine W_assign rfl rfl rfl ?_
    refine W_end ?_
    refine E_then ?_
    refine C_ret ?_
    refine E_ret_then ?_
    obtain rfl := Option.some.inj hm
    refine E_weak (Hp.le_refl _) ?_
    exact end1 rfl rfl ⟨rfl, rfl, rfl⟩
  · have hm := ite_f' hb103 hm
    refine C_skip ?_
    refine E_then ?_
    refine C_seq ?_
    refine C_region ?_
    refine W_move rfl rfl rfl ?_
    refine W_assign rfl rfl rfl ?_
    refine W_end ?_
    refine E_then ?_
    refine C_ret ?_
    obtain rfl := Option.some.inj hm
    refine E_weak (Hp.le_refl _) ?_
    exact end1 rfl rfl ⟨rfl, rfl, rfl⟩

theorem m_strings_TrimSuffix_c {B : Nat} {w0 w : World} {H : Hp} {M : List Res} {p0_s : ByteArray} {suffix : ByteArray} {r : ByteArray} (hm : m_strings_TrimSuffix p0_s suffix = some r) (ht : St B w0 H (M) w) :
    Calls Proofs.Tryd.prog 45 [.string (p0_s), .string (suffix)].toArray w (Ret B w0 fun H' M' v => H = H' ∧ M = M' ∧ .string (r) = v) := by
  unfold m_strings_TrimSuffix at hm
  refine enter Proofs.Tryd.func45 rfl rfl rfl ht ?_
  refine C_seq ?_
  refine C_region ?_
  refine W_assign rfl rfl rfl ?_
  refine W_end ?_
  refine E_then ?_
  refine C_seq ?_
  refine C_region ?_
  refine W_move rfl rfl rfl ?_
  refine W_move rfl rfl rfl ?_
  obtain ⟨r101, hc102, hm⟩ := bind_some hm
  refine W_call Proofs.Tryd.call58 rfl rfl rfl (fun w ht => by have h := m_internal_stringslite_TrimSuffix_c (hm := hc102)  ht; exact h) ?_
  rintro _ _ _ ⟨rfl, rfl, rfl⟩
  refine W_assign rfl rfl rfl ?_
  refine W_end ?_
  refine E_then ?_
  refine C_ret ?_
  obtain rfl := Option.some.inj hm
  refine E_weak (Hp.le_refl _) ?_
  exact end1 rfl rfl ⟨rfl, rfl, rfl⟩

theorem m_internal_stringslite_IndexByte_c {B : Nat} {w0 w : World} {H : Hp} {M : List Res} {p0_s : ByteArray} {p1_c : Int} {r : Int} (hm : m_internal_stringslite_IndexByte p0_s p1_c = r) (ht : St B w0 H (M) w) :
    Calls Proofs.Tryd.prog 85 [.string (p0_s), .int .u8 (p1_c)].toArray w (Ret B w0 fun H' M' v => H = H' ∧ M = M' ∧ .int .i64 (r) = v) := by
  unfold m_internal_stringslite_IndexByte at hm
  refine enter Proofs.Tryd.func85 rfl rfl rfl ht ?_
  refine C_seq ?_
  refine C_region ?_
  refine W_assign rfl rfl rfl ?_
  refine W_end ?_
  refine E_then ?_
  refine C_seq ?_
  refine C_region ?_
  refine W_move rfl rfl rfl ?_
  refine W_move rfl rfl rfl ?_
  refine W_extern (idxB_extern Proofs.Tryd.func89 (by kernel_rfl) (by kernel_rfl) (by kernel_rfl) (by kernel_rfl) _ _) rfl rfl rfl ?_
  refine W_assign rfl rfl rfl ?_
  refine W_end ?_
  refine E_then ?_
  refine C_ret ?_
  obtain rfl := hm
  refine E_weak (Hp.le_refl _) ?_
  exact end1 rfl rfl ⟨rfl, rfl, rfl⟩

theorem m_internal_stringslite_Index_c {B : Nat} {w0 w : World} {H : Hp} {M : List Res} {p0_s : ByteArray} {substr : ByteArray} {r : Int} (hm : m_internal_stringslite_Index p0_s substr = some r) (ht : St B w0 H (M) w) :
    Calls Proofs.Tryd.prog 81 [.string (p0_s), .string (substr)].toArray w (Ret B w0 fun H' M' v => H = H' ∧ M = M' ∧ .int .i64 (r) = v) := by
  unfold m_internal_stringslite_Index at hm
  refine enter Proofs.Tryd.func81 rfl rfl rfl ht ?_
  refine C_seq ?_
  refine C_region ?_
  refine W_assign rfl rfl rfl ?_
  refine W_end ?_
  refine E_then ?_
  refine C_seq ?_
  refine C_region ?_
  refine W_move rfl rfl rfl ?_
  refine W_lenStr rfl rfl Proofs.Tryd.runUnderlying9 rfl ?_
  refine W_assign rfl rfl rfl ?_
  refine W_end ?_
  refine E_then ?_
  refine C_seq ?_
  refine C_block ?_
  refine C_seq_join (fun H' M' L' => H = H' ∧ M = M' ∧ [(0, .string (p0_s)), (1, .string (substr)), (5, .int .i64 ((substr.size : Int))), (16, .bool ((decide ((substr.size : Int) = 0)) || (decide (substr = p0_s))))] = L') ?_ (fun J102 => ?_)
  · rintro _ _ _ ⟨rfl, rfl, rfl⟩
    refine C_cond (b := (decide ((substr.size : Int) = 0)) || (decide (substr = p0_s))) rfl (fun hb103 => ?_) (fun hb103 => ?_)
    · have hm := ite_t' hb103 hm
      refine C_seq ?_
      refine C_region ?_
      refine W_assign rfl rfl rfl ?_
      refine W_end ?_
      refine E_then ?_
      refine C_ret ?_
      refine E_ret_block ?_
      refine E_ret_then ?_
      obtain rfl := Option.some.inj hm
      refine E_weak (Hp.le_refl _) ?_
      exact end1 rfl rfl ⟨rfl, rfl, rfl⟩
    · have hm := ite_f' hb103 hm
      refine C_seq ?_
      refine C_region ?_
      refine W_move rfl rfl rfl ?_
      refine W_bin rfl rfl rfl rfl rfl ?_
      refine W_assign rfl rfl rfl ?_
      refine W_end ?_
      refine E_then ?_
      refine C_cond (b := decide ((substr.size : Int) = 1)) rfl (fun hb104 => ?_) (fun hb104 => ?_)
      · have hm := ite_t' hb104 hm
        refine C_seq ?_
        refine C_region ?_
        refine W_move rfl rfl rfl ?_
        refine W_move rfl rfl rfl ?_
        obtain ⟨y105, h106, he107, hm⟩ := idx_some hm
        refine W_indexStr rfl rfl Proofs.Tryd.runUnderlying9 rfl rfl h106 he107 ?_
        refine W_call Proofs.Tryd.call85 rfl rfl rfl (fun w ht => by have h := m_internal_stringslite_IndexByte_c (hm := (rfl : m_internal_stringslite_IndexByte p0_s y105.n = _))  ht; exact h) ?_
        rintro _ _ _ ⟨rfl, rfl, rfl⟩
        refine W_assign rfl rfl rfl ?_
        refine W_end ?_
        refine E_then ?_
        refine C_ret ?_
        refine E_ret_block ?_
        refine E_ret_then ?_
        obtain rfl := Option.some.inj hm
        refine E_weak (Hp.le_refl _) ?_
        exact end1 rfl rfl ⟨rfl, rfl, rfl⟩
      · have hm := ite_f' hb104 hm
        refine C_seq ?_
        refine C_region ?_
        refine W_move rfl rfl rfl ?_
        refine W_move rfl rfl rfl ?_
        refine W_lenStr rfl rfl Proofs.Tryd.runUnderlying9 rfl ?_
        refine W_bin rfl rfl rfl rfl rfl ?_
        refine W_assign rfl rfl rfl ?_
        refine W_end ?_
        refine E_then ?_
        refine C_cond (b := decide ((p0_s.size : Int) ≤ (substr.size : Int))) rfl (fun hb108 => ?_) (fun hb108 => ?_)
        · have hm := ite_t' hb108 hm
          refine C_seq ?_
          refine C_region ?_
          refine W_assign rfl rfl rfl ?_
          refine W_end ?_
          refine E_then ?_
          refine C_ret ?_
          refine E_ret_block ?_
          refine E_ret_then ?_
          obtain rfl := Option.some.inj hm
          refine E_weak (Hp.le_refl _) ?_
          exact end1 rfl rfl ⟨rfl, rfl, rfl⟩
        · have hm := ite_f' hb108 hm
          refine C_seq ?_
          cases hm
  · refine C_region ?_
    refine W_move rfl rfl rfl ?_
    refine W_bin rfl rfl rfl rfl rfl ?_
    refine W_move rfl rfl rfl ?_
    cases hb109 : (decide ((substr.size : Int) = 0))
    · refine W_move rfl rfl rfl ?_
      refine W_move rfl rfl rfl ?_
      refine W_bin rfl rfl rfl rfl rfl ?_
      refine W_pick rfl rfl rfl rfl ?_
      refine W_assign rfl rfl rfl ?_
      refine W_end ?_
      exact E_keepJ (J102 _ _ _ ⟨rfl, rfl, rfl⟩) (List.Perm.refl _) ⟨rfl, rfl, rfl, (by show some (Value.bool (decide (substr = p0_s))) = some (Value.bool ((decide ((substr.size : Int) = 0)) || (decide (substr = p0_s)))); simp only [hb109, Bool.and_true, Bool.true_and, Bool.false_and, Bool.and_false, Bool.or_true, Bool.true_or, Bool.or_false, Bool.false_or, Bool.not_true, Bool.not_false]), trivial⟩
    · refine W_no rfl rfl rfl ?_
      refine W_no rfl rfl rfl ?_
      refine W_no rfl rfl rfl ?_
      refine W_pick rfl rfl rfl rfl ?_
      refine W_assign rfl rfl rfl ?_
      refine W_end ?_
      exact E_keepJ (J102 _ _ _ ⟨rfl, rfl, rfl⟩) (List.Perm.refl _) ⟨rfl, rfl, rfl, (by show some (Value.bool (true)) = some (Value.bool ((decide ((substr.size : Int) = 0)) || (decide (substr = p0_s)))); simp only [hb109, Bool.and_true, Bool.true_and, Bool.false_and, Bool.and_false, Bool.or_true, Bool.true_or, Bool.or_false, Bool.false_or, Bool.not_true, Bool.not_false]), trivial⟩

theorem m_strings_Index_c {B : Nat} {w0 w : World} {H : Hp} {M : List Res} {p0_s : ByteArray} {substr : ByteArray} {r : Int} (hm : m_strings_Index p0_s substr = some r) (ht : St B w0 H (M) w) :
    Calls Proofs.Tryd.prog 69 [.string (p0_s), .string (substr)].toArray w (Ret B w0 fun H' M' v => H = H' ∧ M = M' ∧ .int .i64 (r) = v) := by
  unfold m_strings_Index at hm
  refine enter Proofs.Tryd.func69 rfl rfl rfl ht ?_
  refine C_seq ?_
  refine C_region ?_
  refine W_assign rfl rfl rfl ?_
  refine W_end ?_
  refine E_then ?_
  refine C_seq ?_
  refine C_region ?_
  refine W_move rfl rfl rfl ?_
  refine W_move rfl rfl rfl ?_
  obtain ⟨r101, hc102, hm⟩ := bind_some hm
  refine W_call Proofs.Tryd.call81 rfl rfl rfl (fun w ht => by have h := m_internal_stringslite_Index_c (hm := hc102)  ht; exact h) ?_
  rintro _ _ _ ⟨rfl, rfl, rfl⟩
  refine W_assign rfl rfl rfl ?_
  refine W_end ?_
  refine E_then ?_
  refine C_ret ?_
  obtain rfl := Option.some.inj hm
  refine E_weak (Hp.le_refl _) ?_
  exact end1 rfl rfl ⟨rfl, rfl, rfl⟩

theorem m_strings_Count_c {B : Nat} {w0 w : World} {H : Hp} {M : List Res} {p0_s : ByteArray} {substr : ByteArray} {r : Int} (hm : m_strings_Count p0_s substr = some r) (ht : St B w0 H (M) w) :
    Calls Proofs.Tryd.prog 68 [.string (p0_s), .string (substr)].toArray w (Ret B w0 fun H' M' v => H = H' ∧ M = M' ∧ .int .i64 (r) = v) := by
  unfold m_strings_Count at hm
  refine enter Proofs.Tryd.func68 rfl rfl rfl ht ?_
  refine C_seq ?_
  refine C_region ?_
  refine W_assign rfl rfl rfl ?_
  refine W_end ?_
  refine E_then ?_
  refine C_seq ?_
  refine C_seq ?_
  refine C_region ?_
  refine W_move rfl rfl rfl ?_
  refine W_lenStr rfl rfl Proofs.Tryd.runUnderlying9 rfl ?_
  refine W_bin rfl rfl rfl rfl rfl ?_
  refine W_end ?_
  refine E_then ?_
  refine C_cond (b := decide ((substr.size : Int) = 0)) rfl (fun hb101 => ?_) (fun hb101 => ?_)
  · have hm := ite_t' hb101 hm
    refine C_seq ?_
    cases hm
  · have hm := ite_f' hb101 hm
    refine C_skip ?_
    refine E_then ?_
    refine C_seq ?_
    refine C_seq ?_
    refine C_region ?_
    refine W_move rfl rfl rfl ?_
    refine W_lenStr rfl rfl Proofs.Tryd.runUnderlying9 rfl ?_
    refine W_bin rfl rfl rfl rfl rfl ?_
    refine W_end ?_
    refine E_then ?_
    refine C_cond (b := decide ((substr.size : Int) = 1)) rfl (fun hb102 => ?_) (fun hb102 => ?_)
    · have hm := ite_t' hb102 hm
      refine C_seq ?_
      refine C_region ?_
      refine W_move rfl rfl rfl ?_
      refine W_move rfl rfl rfl ?_
      obtain ⟨y103, h104, he105, hm⟩ := idx_some hm
      refine W_indexStr rfl rfl Proofs.Tryd.runUnderlying9 rfl rfl h104 he105 ?_
      refine W_extern (cntB_extern Proofs.Tryd.func80 (by kernel_rfl) (by kernel_rfl) (by kernel_rfl) (by kernel_rfl) _ _) rfl rfl rfl ?_
      refine W_assign rfl rfl rfl ?_
      refine W_end ?_
      refine E_then ?_
      refine C_ret ?_
      refine E_ret_then ?_
      obtain rfl := Option.some.inj hm
      refine E_weak (Hp.le_refl _) ?_
      exact end1 rfl rfl ⟨rfl, rfl, rfl⟩
    · have hm := ite_f' hb102 hm
      refine C_skip ?_
      refine E_then ?_
      refine C_seq ?_
      refine C_region ?_
      refine W_assign rfl rfl rfl ?_
      refine W_end ?_
      refine E_then ?_
      refine C_block ?_
      refine C_keep (L' := [(0, .string (p0_s)), (1, .string (substr)), (5, .int .i64 (0))]) ⟨rfl, rfl, rfl, trivial⟩ (List.Perm.refl _) ?_
      refine C_loop (fun n H' M' L' => ∃ s118 : ByteArray, ∃ n119 : Int, loopF (fun s122 n => m_strings_Count_b1 substr s122.1 s122.2 n) n (s118, n119) = some r ∧ H.le H' ∧ M = M' ∧ [(0, .string (s118)), (1, .string (substr)), (5, .int .i64 (n119))] = L') FUEL ⟨p0_s, 0, hm, (Hp.le_refl _), rfl, rfl⟩ ?_
      rintro n125 H120 _ _ ⟨s118, n119, hm, hle121, rfl, rfl⟩
      cases n125 with
      | zero => cases hm
      | succ n125 =>
        have hm : m_strings_Count_b1 substr s118 n119 (loopF (fun s122 n => m_strings_Count_b1 substr s122.1 s122.2 n) n125) = some r := hm
        generalize hn124 : loopF (fun s122 n => m_strings_Count_b1 substr s122.1 s122.2 n) n125 = nx123 at hm
        unfold m_strings_Count_b1 at hm
        refine C_block ?_
        refine C_seq ?_
        refine C_region ?_
        refine W_move rfl rfl rfl ?_
        refine W_move rfl rfl rfl ?_
        obtain ⟨r131, hc132, hm⟩ := bind_some hm
        refine W_call Proofs.Tryd.call69 rfl rfl rfl (fun w ht => by have h := m_strings_Index_c (hm := hc132)  ht; exact h) ?_
        rintro _ _ _ ⟨rfl, rfl, rfl⟩
        refine W_assign rfl rfl rfl ?_
        refine W_end ?_
        refine E_then ?_
        refine C_seq ?_
        refine C_seq ?_
        refine C_region ?_
        refine W_move rfl rfl rfl ?_
        refine W_bin rfl rfl rfl rfl rfl ?_
        refine W_end ?_
        refine E_then ?_
        refine C_cond (b := decide (r131 = (-1))) rfl (fun hb133 => ?_) (fun hb133 => ?_)
        · have hm := ite_t' hb133 hm
          refine C_seq ?_
          refine C_region ?_
          refine W_move rfl rfl rfl ?_
          refine W_assign rfl rfl rfl ?_
          refine W_end ?_
          refine E_then ?_
          refine C_ret ?_
          refine E_ret_then ?_
          refine E_ret_block ?_
          refine E_ret_then ?_
          refine E_ret_block ?_
          obtain rfl := Option.some.inj hm
          refine E_weak hle121 ?_
          exact end1 rfl rfl ⟨rfl, rfl, rfl⟩
        · have hm := ite_f' hb133 hm
          refine C_skip ?_
          refine E_then ?_
          refine C_seq ?_
          refine C_region ?_
          refine W_move rfl rfl rfl ?_
          refine W_bin rfl rfl rfl rfl rfl ?_
          refine W_assign rfl rfl rfl ?_
          refine W_end ?_
          refine E_then ?_
          refine C_region ?_
          refine W_move rfl rfl rfl ?_
          refine W_move rfl rfl rfl ?_
          refine W_move rfl rfl rfl ?_
          refine W_lenStr rfl rfl Proofs.Tryd.runUnderlying9 rfl ?_
          refine W_bin rfl rfl rfl rfl rfl ?_
          obtain ⟨hz134, hm⟩ := need_some hm
          refine W_sliceStr (l := (IntKind.i64.wrap (r131 + (substr.size : Int)) : Int).toNat) (h := s118.size) rfl rfl Proofs.Tryd.runUnderlying9 rfl (.inl ⟨rfl, rfl⟩) (.inr ⟨_, _, _, rfl, rfl, by omega, by omega, rfl⟩) ?_
          refine W_assign rfl rfl rfl ?_
          refine W_end ?_
          refine E_normal_block ?_
          exact E_keepJ (E_back (Nat.lt_succ_self _) ⟨s118.extract ((IntKind.i64.wrap (r131 + (substr.size : Int)) : Int).toNat) s118.size, IntKind.i64.wrap (n119 + 1), (by rw [hn124]; exact hm), hle121, rfl, rfl⟩) (List.Perm.refl _) ⟨rfl, rfl, rfl, trivial⟩

theorem m_strings_genSplit_c {B : Nat} {w0 w : World} {H : Hp} {M : List Res} {p0_s : ByteArray} {sep : ByteArray} {sepSave : Int} {p3_n : Int} {r : (List ByteArray)} (hm : m_strings_genSplit p0_s sep sepSave p3_n = some r) (ht : St B w0 H (M) w) :
    Calls Proofs.Tryd.prog 57 [.string (p0_s), .string (sep), .int .i64 (sepSave), .int .i64 (p3_n)].toArray w (Ret B w0 fun H' M' v => H = H' ∧ ∃ qv0 : Value, ∃ qxs0 : List Value, .row qv0 9 (Rep.sz ByteArray) r.length qxs0 :: M = M' ∧ qv0 = v ∧ RwF qv0 qxs0 r) := by
  unfold m_strings_genSplit at hm
  refine enter Proofs.Tryd.func57 rfl rfl rfl ht ?_
  refine C_seq ?_
  refine C_region ?_
  refine W_assign rfl rfl rfl ?_
  refine W_end ?_
  refine E_then ?_
  refine C_seq ?_
  refine C_seq ?_
  refine C_region ?_
  refine W_move rfl rfl rfl ?_
  refine W_bin rfl rfl rfl rfl rfl ?_
  refine W_end ?_
  refine E_then ?_
  refine C_cond (b := decide (p3_n = 0)) rfl (fun hb101 => ?_) (fun hb101 => ?_)
  · have hm := ite_t' hb101 hm
    refine C_seq ?_
    refine C_region ?_
    refine W_assign rfl rfl rfl ?_
    refine W_end ?_
    refine E_then ?_
    refine C_ret ?_
    refine E_ret_then ?_
    refine E_nilRow 9 (Rep.sz ByteArray) ?_
    obtain rfl := Option.some.inj hm
    refine E_weak (Hp.le_refl _) ?_
    exact end1 rfl rfl ⟨rfl, (.slice none 0 0), [], rfl, rfl, (Rw.nil (H := H)).toF⟩
  · have hm := ite_f' hb101 hm
    refine C_skip ?_
    refine E_then ?_
    refine C_seq ?_
    refine C_seq ?_
    refine C_region ?_
    refine W_move rfl rfl rfl ?_
    refine W_bin rfl rfl rfl rfl rfl ?_
    refine W_end ?_
    refine E_then ?_
    refine C_cond (b := decide (sep = (⟨#[]⟩))) rfl (fun hb102 => ?_) (fun hb102 => ?_)
    · have hm := ite_t' hb102 hm
      refine C_seq ?_
      cases hm
    · have hm := ite_f' hb102 hm
      refine C_skip ?_
      refine E_then ?_
      refine C_seq_join (fun H' M' L' => ∃ n106 : Int, m_strings_genSplit_b4 p0_s sep sepSave n106 = some r ∧ H = H' ∧ M = M' ∧ [(0, .string (p0_s)), (1, .string (sep)), (2, .int .i64 (sepSave)), (3, .int .i64 (n106))] = L') ?_ (fun J107 => ?_)
      · rintro _ _ _ ⟨n106, hm, rfl, rfl, rfl⟩
        unfold m_strings_genSplit_b4 at hm
        refine C_seq ?_
        refine C_region ?_
        refine W_move rfl rfl rfl ?_
        refine W_move rfl rfl rfl ?_
        refine W_lenStr rfl rfl Proofs.Tryd.runUnderlying9 rfl ?_
        refine W_bin rfl rfl rfl rfl rfl ?_
        refine W_min rfl rfl rfl rfl ?_
        refine W_assign rfl rfl rfl ?_
        refine W_end ?_
        refine E_then ?_
        refine C_seq ?_
        refine C_region ?_
        refine W_move rfl rfl rfl ?_
        obtain ⟨hz108, hm⟩ := need_some hm
        refine W_makeSlice (α := ByteArray) (zs := [.string (⟨#[]⟩)]) (ze := (⟨#[]⟩)) rfl rfl Proofs.Tryd.underlying86 ⟨_, rfl, rfl, rfl, rfl⟩ rfl rfl rfl rfl rfl rfl hz108.1 hz108.2 ?_
        intro v109 xs110 hr111
        refine W_assign rfl rfl rfl ?_
        refine W_end ?_
        refine E_then ?_
        refine C_seq ?_
        refine C_region ?_
        refine W_move rfl rfl rfl ?_
        refine W_bin rfl rfl rfl rfl rfl ?_
        refine W_assign rfl rfl rfl ?_
        refine W_end ?_
        refine E_then ?_
        refine C_seq ?_
        refine C_region ?_
        refine W_assign rfl rfl rfl ?_
        refine W_end ?_
        refine E_then ?_
        refine C_seq_join (fun H' M' L' => ∃ s183 : ByteArray, ∃ l186 : List ByteArray, ∃ n188 : Int, ∃ xs185 : List Value, m_strings_genSplit_b2 s183 l186 n188 = some r ∧ Rw H' v109 xs185 l186 ∧ H.le H' ∧ .row v109 9 (Rep.sz ByteArray) l186.length xs185 :: M = M' ∧ [(0, .string (s183)), (9, v109), (10, .int .i64 (n188))] = L') ?_ (fun J191 => ?_)
        · rintro H189 _ _ ⟨s183, l186, n188, xs185, hm, hr187, hle190, rfl, rfl⟩
          unfold m_strings_genSplit_b2 at hm
          refine C_seq ?_
          refine C_region ?_
          refine W_move rfl rfl rfl ?_
          refine W_move rfl rfl rfl ?_
          refine W_move rfl rfl rfl ?_
          obtain ⟨y192, h193, he194, hm⟩ := idx_some hm
          refine W_indexO (List.mem_cons_self ..) rfl rfl Proofs.Tryd.runUnderlying86 Proofs.Tryd.sizeOf9 rfl rfl h193 (List.getElem?_eq_some_iff.1 he194).1 ?_
          obtain ⟨_, rfl, hg195⟩ := (hr187).elem he194
          obtain ⟨hr196, he197, hg198⟩ := Rw.put (cs := [.string (s183)]) (o := 0) (c := [.string (y192)]) (out := [.string (s183)]) (e2 := s183) hr187 he194 rfl hg195 rfl rfl rfl
          refine W_storeO2 (i := (n188 : Int).toNat * Rep.sz ByteArray + 0) (cs := [.string (s183)]) rfl Proofs.Tryd.sizeOf9 rfl (row_ad0 _ _) rfl rfl rfl (Rw.room hr187 he194 rfl) rfl (all_cons rfl all_nil) (n' := (l186.set ((n188 : Int).toNat) s183).length) List.length_set ?_
          generalize over xs185 ((n188 : Int).toNat * Rep.sz ByteArray + 0) [.string (s183)] = xs199 at hr196 hg198 ⊢
          refine W_end ?_
          refine E_then ?_
          refine C_seq ?_
          refine C_region ?_
          refine W_move rfl rfl rfl ?_
          refine W_move rfl rfl rfl ?_
          refine W_bin rfl rfl rfl rfl rfl ?_
          obtain ⟨hz200, hm⟩ := need_some hm
          refine W_sliceO (α := ByteArray) (l := 0) (h := (IntKind.i64.wrap (n188 + 1) : Int).toNat) rfl rfl Proofs.Tryd.runUnderlying86 Proofs.Tryd.sizeOf9 rfl rfl hr196 (by omega) (by omega) (fun m hmm => (.inr ⟨_, _, _, rfl, rfl, by omega, by omega, rfl⟩)) (.inl ⟨rfl, rfl⟩) ?_
          intro v201 xs202 hr203
          refine W_assign rfl rfl rfl ?_
          refine W_end ?_
          refine E_then ?_
          refine C_ret ?_
          obtain rfl := Option.some.inj hm
          refine E_weak hle190 ?_
          exact end1 rfl rfl ⟨rfl, v201, xs202, rfl, rfl, (hr203).toF⟩
        · refine C_block ?_
          refine C_keep (L' := [(0, .string (p0_s)), (1, .string (sep)), (2, .int .i64 (sepSave)), (3, .int .i64 (IntKind.i64.wrap ((min n106 (IntKind.i64.wrap ((p0_s.size : Int) + 1))) - 1))), (9, v109), (10, .int .i64 (0))]) ⟨rfl, rfl, rfl, rfl, rfl, rfl, trivial⟩ (List.Perm.refl _) ?_
          refine C_loop (fun n H' M' L' => ∃ s244 : ByteArray, ∃ l247 : List ByteArray, ∃ n249 : Int, ∃ xs246 : List Value, loopF (fun s252 n => m_strings_genSplit_b3 p0_s sep sepSave n106 s252.1 s252.2.1 s252.2.2 n) n (s244, l247, n249) = some r ∧ Rw H' v109 xs246 l247 ∧ H.le H' ∧ .row v109 9 (Rep.sz ByteArray) l247.length xs246 :: M = M' ∧ [(0, .string (s244)), (1, .string (sep)), (2, .int .i64 (sepSave)), (3, .int .i64 (IntKind.i64.wrap ((min n106 (IntKind.i64.wrap ((p0_s.size : Int) + 1))) - 1))), (9, v109), (10, .int .i64 (n249))] = L') FUEL ⟨p0_s, (List.replicate (min n106 (IntKind.i64.wrap ((p0_s.size : Int) + 1)) : Int).toNat ((⟨#[]⟩) : ByteArray)), 0, xs110, hm, hr111, (Hp.le_refl _), rfl, rfl⟩ ?_
          rintro n255 H250 _ _ ⟨s244, l247, n249, xs246, hm, hr248, hle251, rfl, rfl⟩
          cases n255 with
          | zero => cases hm
          | succ n255 =>
            have hm : m_strings_genSplit_b3 p0_s sep sepSave n106 s244 l247 n249 (loopF (fun s252 n => m_strings_genSplit_b3 p0_s sep sepSave n106 s252.1 s252.2.1 s252.2.2 n) n255) = some r := hm
            generalize hn254 : loopF (fun s252 n => m_strings_genSplit_b3 p0_s sep sepSave n106 s252.1 s252.2.1 s252.2.2 n) n255 = nx253 at hm
            unfold m_strings_genSplit_b3 at hm
            refine C_seq ?_
            refine C_seq ?_
            refine C_region ?_
            refine W_move rfl rfl rfl ?_
            refine W_move rfl rfl rfl ?_
            refine W_bin rfl rfl rfl rfl rfl ?_
            refine W_end ?_
            refine E_then ?_
            refine C_cond (b := decide (n249 < (IntKind.i64.wrap ((min n106 (IntKind.i64.wrap ((p0_s.size : Int) + 1))) - 1)))) rfl (fun hb261 => ?_) (fun hb261 => ?_)
            · have hm := ite_t' hb261 hm
              refine C_skip ?_
              refine E_then ?_
              refine C_block ?_
              refine C_seq ?_
              refine C_region ?_
              refine W_move rfl rfl rfl ?_
              refine W_move rfl rfl rfl ?_
              obtain ⟨r262, hc263, hm⟩ := bind_some hm
              refine W_call Proofs.Tryd.call69 rfl rfl rfl (fun w ht => by have h := m_strings_Index_c (hm := hc263)  ht; exact h) ?_
              rintro _ _ _ ⟨rfl, rfl, rfl⟩
              refine W_assign rfl rfl rfl ?_
              refine W_end ?_
              refine E_then ?_
              refine C_seq ?_
              refine C_seq ?_
              refine C_region ?_
              refine W_move rfl rfl rfl ?_
              refine W_bin rfl rfl rfl rfl rfl ?_
              refine W_end ?_
              refine E_then ?_
              refine C_cond (b := decide (r262 < 0)) rfl (fun hb264 => ?_) (fun hb264 => ?_)
              · have hm := ite_t' hb264 hm
                refine C_exit ?_
                refine E_exit_then ?_
                refine E_exit_miss rfl ?_
                refine E_exit_then ?_
                refine E_exit_hit ?_
                exact E_keepJ (J191 _ _ _ ⟨s244, l247, n249, xs246, hm, hr248, hle251, rfl, rfl⟩) (List.Perm.refl _) ⟨rfl, rfl, rfl, trivial⟩
              · have hm := ite_f' hb264 hm
                refine C_skip ?_
                refine E_then ?_
                refine C_seq ?_
                refine C_region ?_
                refine W_move rfl rfl rfl ?_
                refine W_move rfl rfl rfl ?_
                refine W_move rfl rfl rfl ?_
                refine W_move rfl rfl rfl ?_
                refine W_move rfl rfl rfl ?_
                refine W_bin rfl rfl rfl rfl rfl ?_
                obtain ⟨hz265, hm⟩ := need_some hm
                refine W_sliceStr (l := 0) (h := (IntKind.i64.wrap (r262 + sepSave) : Int).toNat) rfl rfl Proofs.Tryd.runUnderlying9 rfl (.inr ⟨_, _, _, rfl, rfl, by omega, by omega, rfl⟩) (.inl ⟨rfl, rfl⟩) ?_
                obtain ⟨y266, h267, he268, hm⟩ := idx_some hm
                refine W_indexO (List.mem_cons_self ..) rfl rfl Proofs.Tryd.runUnderlying86 Proofs.Tryd.sizeOf9 rfl rfl h267 (List.getElem?_eq_some_iff.1 he268).1 ?_
                obtain ⟨_, rfl, hg269⟩ := (hr248).elem he268
                obtain ⟨hr270, he271, hg272⟩ := Rw.put (cs := [.string (s244.extract 0 ((IntKind.i64.wrap (r262 + sepSave) : Int).toNat))]) (o := 0) (c := [.string (y266)]) (out := [.string (s244.extract 0 ((IntKind.i64.wrap (r262 + sepSave) : Int).toNat))]) (e2 := (s244.extract 0 ((IntKind.i64.wrap (r262 + sepSave) : Int).toNat))) hr248 he268 rfl hg269 rfl rfl rfl
                refine W_storeO2 (i := (n249 : Int).toNat * Rep.sz ByteArray + 0) (cs := [.string (s244.extract 0 ((IntKind.i64.wrap (r262 + sepSave) : Int).toNat))]) rfl Proofs.Tryd.sizeOf9 rfl (row_ad0 _ _) rfl rfl rfl (Rw.room hr248 he268 rfl) rfl (all_cons rfl all_nil) (n' := (l247.set ((n249 : Int).toNat) (s244.extract 0 ((IntKind.i64.wrap (r262 + sepSave) : Int).toNat))).length) List.length_set ?_
                generalize over xs246 ((n249 : Int).toNat * Rep.sz ByteArray + 0) [.string (s244.extract 0 ((IntKind.i64.wrap (r262 + sepSave) : Int).toNat))] = xs273 at hr270 hg272 ⊢
                refine W_end ?_
                refine E_then ?_
                refine C_seq ?_
                refine C_region ?_
                refine W_move rfl rfl rfl ?_
                refine W_move rfl rfl rfl ?_
                refine W_move rfl rfl rfl ?_
                refine W_lenStr rfl rfl Proofs.Tryd.runUnderlying9 rfl ?_
                refine W_bin rfl rfl rfl rfl rfl ?_
                obtain ⟨hz274, hm⟩ := need_some hm
                refine W_sliceStr (l := (IntKind.i64.wrap (r262 + (sep.size : Int)) : Int).toNat) (h := s244.size) rfl rfl Proofs.Tryd.runUnderlying9 rfl (.inl ⟨rfl, rfl⟩) (.inr ⟨_, _, _, rfl, rfl, by omega, by omega, rfl⟩) ?_
                refine W_assign rfl rfl rfl ?_
                refine W_end ?_
                refine E_then ?_
                refine C_region ?_
                refine W_move rfl rfl rfl ?_
                refine W_bin rfl rfl rfl rfl rfl ?_
                refine W_assign rfl rfl rfl ?_
                refine W_end ?_
                refine E_normal_block ?_
                exact E_keepJ (E_back (Nat.lt_succ_self _) ⟨s244.extract ((IntKind.i64.wrap (r262 + (sep.size : Int)) : Int).toNat) s244.size, (l247.set ((n249 : Int).toNat) (s244.extract 0 ((IntKind.i64.wrap (r262 + sepSave) : Int).toNat))), IntKind.i64.wrap (n249 + 1), xs273, (by rw [hn254]; exact hm), hr270, hle251, rfl, rfl⟩) (List.Perm.refl _) ⟨rfl, rfl, rfl, rfl, rfl, rfl, trivial⟩
            · have hm := ite_f' hb261 hm
              refine C_exit ?_
              refine E_exit_then ?_
              refine E_exit_then ?_
              refine E_exit_hit ?_
              exact E_keepJ (J191 _ _ _ ⟨s244, l247, n249, xs246, hm, hr248, hle251, rfl, rfl⟩) (List.Perm.refl _) ⟨rfl, rfl, rfl, trivial⟩
      · refine C_seq ?_
        refine C_region ?_
        refine W_move rfl rfl rfl ?_
        refine W_bin rfl rfl rfl rfl rfl ?_
        refine W_end ?_
        refine E_then ?_
        refine C_cond (b := decide (p3_n < 0)) rfl (fun hb275 => ?_) (fun hb275 => ?_)
        · have hm := ite_t' hb275 hm
          refine C_region ?_
          refine W_move rfl rfl rfl ?_
          refine W_move rfl rfl rfl ?_
          obtain ⟨r276, hc277, hm⟩ := bind_some hm
          refine W_call Proofs.Tryd.call68 rfl rfl rfl (fun w ht => by have h := m_strings_Count_c (hm := hc277)  ht; exact h) ?_
          rintro _ _ _ ⟨rfl, rfl, rfl⟩
          refine W_bin rfl rfl rfl rfl rfl ?_
          refine W_assign rfl rfl rfl ?_
          refine W_end ?_
          exact E_keepJ (J107 _ _ _ ⟨IntKind.i64.wrap (r276 + 1), hm, rfl, rfl, rfl⟩) (List.Perm.refl _) ⟨rfl, rfl, rfl, rfl, trivial⟩
        · have hm := ite_f' hb275 hm
          refine C_skip ?_
          exact E_keepJ (J107 _ _ _ ⟨p3_n, hm, rfl, rfl, rfl⟩) (List.Perm.refl _) ⟨rfl, rfl, rfl, rfl, trivial⟩

theorem m_strings_Split_c {B : Nat} {w0 w : World} {H : Hp} {M : List Res} {p0_s : ByteArray} {sep : ByteArray} {r : (List ByteArray)} (hm : m_strings_Split p0_s sep = some r) (ht : St B w0 H (M) w) :
    Calls Proofs.Tryd.prog 44 [.string (p0_s), .string (sep)].toArray w (Ret B w0 fun H' M' v => H = H' ∧ ∃ qv0 : Value, ∃ qxs0 : List Value, .row qv0 9 (Rep.sz ByteArray) r.length qxs0 :: M = M' ∧ qv0 = v ∧ RwF qv0 qxs0 r) := by
  unfold m_strings_Split at hm
  refine enter Proofs.Tryd.func44 rfl rfl rfl ht ?_
  refine C_seq ?_
  refine C_region ?_
  refine W_assign rfl rfl rfl ?_
  refine W_end ?_
  refine E_then ?_
  refine C_seq ?_
  refine C_region ?_
  refine W_move rfl rfl rfl ?_
  refine W_move rfl rfl rfl ?_
  obtain ⟨r101, hc102, hm⟩ := bind_some hm
  refine W_call Proofs.Tryd.call57 rfl rfl rfl (fun w ht => by have h := m_strings_genSplit_c (hm := hc102)  ht; exact h) ?_
  rintro _ _ _ ⟨rfl, v103, xs104, rfl, rfl, h105⟩
  have h105 := h105 H
  refine W_assign rfl rfl rfl ?_
  refine W_end ?_
  refine E_then ?_
  refine C_ret ?_
  obtain rfl := Option.some.inj hm
  refine E_weak (Hp.le_refl _) ?_
  exact end1 rfl rfl ⟨rfl, v103, xs104, rfl, rfl, (h105).toF⟩

theorem m_strings_HasSuffix_c {B : Nat} {w0 w : World} {H : Hp} {M : List Res} {p0_s : ByteArray} {suffix : ByteArray} {r : Bool} (hm : m_strings_HasSuffix p0_s suffix = some r) (ht : St B w0 H (M) w) :
    Calls Proofs.Tryd.prog 46 [.string (p0_s), .string (suffix)].toArray w (Ret B w0 fun H' M' v => H = H' ∧ M = M' ∧ .bool (r) = v) := by
  unfold m_strings_HasSuffix at hm
  refine enter Proofs.Tryd.func46 rfl rfl rfl ht ?_
  refine C_seq ?_
  refine C_region ?_
  refine W_assign rfl rfl rfl ?_
  refine W_end ?_
  refine E_then ?_
  refine C_seq ?_
  refine C_region ?_
  refine W_move rfl rfl rfl ?_
  refine W_move rfl rfl rfl ?_
  obtain ⟨r101, hc102, hm⟩ := bind_some hm
  refine W_call Proofs.Tryd.call59 rfl rfl rfl (fun w ht => by have h := m_internal_stringslite_HasSuffix_c (hm := hc102)  ht; exact h) ?_
  rintro _ _ _ ⟨rfl, rfl, rfl⟩
  refine W_assign rfl rfl rfl ?_
  refine W_end ?_
  refine E_then ?_
  refine C_ret ?_
  obtain rfl := Option.some.inj hm
  refine E_weak (Hp.le_refl _) ?_
  exact end1 rfl rfl ⟨rfl, rfl, rfl⟩

theorem m_interlock_parser_take_c {B : Nat} {w0 w : World} {H : Hp} {M : List Res} {p0_p : S_interlock_parser} {p1_w : ByteArray} {b0 : Nat} {v0 : Value} {v1 : Value} {xs0 : List Value} {r : Bool × S_interlock_parser} (hm : m_interlock_parser_take p0_p p1_w = some r) (h0 : RdS H v0 p0_p.words) (h1 : Rw H v1 xs0 p0_p.nodes) (ht : St B w0 H (.obj b0 (.cells [v0, v1, .bool (p0_p.bad)].toArray 91 (0, 0)) :: .row v1 71 (Rep.sz S_api_InterlockNode) p0_p.nodes.length xs0 :: M) w) :
    Calls Proofs.Tryd.prog 47 [.pointer (some ⟨b0, 0, none⟩), .string (p1_w)].toArray w (Ret B w0 fun H' M' v => H.le H' ∧ ∃ qv0 : Value, ∃ qv1 : Value, ∃ qxs0 : List Value, .obj b0 (.cells [qv0, qv1, .bool (r.2.bad)].toArray 91 (0, 0)) :: .row qv1 71 (Rep.sz S_api_InterlockNode) r.2.nodes.length qxs0 :: M = M' ∧ .bool (r.1) = v ∧ RdS H' qv0 r.2.words ∧ Rw H' qv1 qxs0 r.2.nodes) := by
  unfold m_interlock_parser_take at hm
  refine enter Proofs.Tryd.func47 rfl rfl rfl ht ?_
  refine C_seq ?_
  refine C_region ?_
  refine W_assign rfl rfl rfl ?_
  refine W_end ?_
  refine E_then ?_
  refine C_seq ?_
  refine C_seq ?_
  refine C_region ?_
  refine W_move rfl rfl rfl ?_
  refine W_nilCheck rfl rfl rfl ?_
  refine W_field (o := 0) rfl rfl Proofs.Tryd.runUnderlying91 rfl Proofs.Tryd.sizeOf86 rfl rfl rfl ?_
  refine W_load rfl rfl Proofs.Tryd.isAgg86 rfl (own_at (List.mem_cons_self ..) rfl) ?_
  refine W_lenR rfl rfl Proofs.Tryd.runUnderlying86 rfl h0 ?_
  refine W_bin rfl rfl rfl rfl rfl ?_
  refine W_move rfl rfl rfl ?_
  cases hb101 : (decide (0 < (p0_p.words.length : Int)))
  · have hm := ite_f' hb101 hm
    refine W_no rfl rfl rfl ?_
    refine W_no rfl rfl rfl ?_
    refine W_no rfl rfl rfl ?_
    refine W_no rfl rfl rfl ?_
    refine W_no rfl rfl rfl ?_
    refine W_no rfl rfl rfl ?_
    refine W_no rfl rfl rfl ?_
    refine W_no rfl rfl rfl ?_
    refine W_pick rfl rfl rfl rfl ?_
    refine W_end ?_
    refine E_then ?_
    refine C_cond (b := false) rfl (fun hb => Bool.noConfusion hb) (fun _ => ?_)
    refine C_skip ?_
    refine E_then ?_
    refine C_seq ?_
    refine C_region ?_
    refine W_assign rfl rfl rfl ?_
    refine W_end ?_
    refine E_then ?_
    refine C_ret ?_
    obtain rfl := Option.some.inj hm
    exact end1 rfl rfl ⟨(Hp.le_refl _), v0, v1, xs0, rfl, rfl, h0, h1⟩
  · have hm := ite_t' hb101 hm
    refine W_move rfl rfl rfl ?_
    refine W_nilCheck rfl rfl rfl ?_
    refine W_field (o := 0) rfl rfl Proofs.Tryd.runUnderlying91 rfl Proofs.Tryd.sizeOf86 rfl rfl rfl ?_
    refine W_load rfl rfl Proofs.Tryd.isAgg86 rfl (own_at (List.mem_cons_self ..) rfl) ?_
    obtain ⟨y102, h103, he104, hm⟩ := idx_some hm
    obtain ⟨_, rfl, hc105⟩ := (h0).elem he104
    refine W_indexS rfl rfl Proofs.Tryd.runUnderlying86 Proofs.Tryd.sizeOf9 rfl h0 rfl h103 he104 ?_
    refine W_load rfl rfl Proofs.Tryd.isAgg9 rfl (HCells.one hc105 0 rfl).at ?_
    refine W_move rfl rfl rfl ?_
    refine W_bin rfl rfl rfl rfl rfl ?_
    refine W_pick rfl rfl rfl rfl ?_
    refine W_end ?_
    refine E_then ?_
    refine C_cond (b := decide (y102 = p1_w)) rfl (fun hb106 => ?_) (fun hb106 => ?_)
    · have hm := ite_t' hb106 hm
      refine C_seq ?_
      refine C_region ?_
      refine W_move rfl rfl rfl ?_
      refine W_move rfl rfl rfl ?_
      refine W_nilCheck rfl rfl rfl ?_
      refine W_field (o := 0) rfl rfl Proofs.Tryd.runUnderlying91 rfl Proofs.Tryd.sizeOf86 rfl rfl rfl ?_
      refine W_load rfl rfl Proofs.Tryd.isAgg86 rfl (own_at (List.mem_cons_self ..) rfl) ?_
      obtain ⟨hz107, hm⟩ := need_some hm
      refine W_sliceR (α := ByteArray) (l := (1 : Int).toNat) (h := p0_p.words.length) (xs := p0_p.words) rfl rfl Proofs.Tryd.runUnderlying86 Proofs.Tryd.sizeOf9 rfl h0 (by omega) (by omega) (.inl rfl) (fun cap hcap => by rw [if_pos rfl]; exact (.inl ⟨rfl, rfl⟩)) (fun m hmm => (.inl ⟨rfl, rfl⟩)) (.inr ⟨_, _, _, rfl, rfl, by omega, by omega, rfl⟩) ?_
      intro v108 h109 hc110
      refine W_nilCheck rfl rfl rfl ?_
      refine W_field (o := 0) rfl rfl Proofs.Tryd.runUnderlying91 rfl Proofs.Tryd.sizeOf86 rfl rfl rfl ?_
      refine W_store (cs := [v108]) (out := [v108, v1, .bool (p0_p.bad)]) rfl Proofs.Tryd.sizeOf86 rfl rfl (RdS.cells h109) rfl rfl (all_cons (RdS.one1 h109) all_nil) rfl ?_
      refine W_end ?_
      refine E_then ?_
      refine C_seq ?_
      refine C_region ?_
      refine W_assign rfl rfl rfl ?_
      refine W_end ?_
      refine E_then ?_
      refine C_ret ?_
      refine E_ret_then ?_
      obtain rfl := Option.some.inj hm
      exact end1 rfl rfl ⟨(Hp.le_refl _), v108, v1, xs0, rfl, rfl, h109, h1⟩
    · have hm := ite_f' hb106 hm
      refine C_skip ?_
      refine E_then ?_
      refine C_seq ?_
      refine C_region ?_
      refine W_assign rfl rfl rfl ?_
      refine W_end ?_
      refine E_then ?_
      refine C_ret ?_
      obtain rfl := Option.some.inj hm
      exact end1 rfl rfl ⟨(Hp.le_refl _), v0, v1, xs0, rfl, rfl, h0, h1⟩

theorem m_interlock_parser_name_c {B : Nat} {w0 w : World} {H : Hp} {M : List Res} {p0_p : S_interlock_parser} {b0 : Nat} {v0 : Value} {v1 : Value} {xs0 : List Value} {r : ByteArray × S_interlock_parser} (hm : m_interlock_parser_name p0_p = some r) (h0 : RdS H v0 p0_p.words) (h1 : Rw H v1 xs0 p0_p.nodes) (ht : St B w0 H (.obj b0 (.cells [v0, v1, .bool (p0_p.bad)].toArray 91 (0, 0)) :: .row v1 71 (Rep.sz S_api_InterlockNode) p0_p.nodes.length xs0 :: M) w) :
    Calls Proofs.Tryd.prog 48 [.pointer (some ⟨b0, 0, none⟩)].toArray w (Ret B w0 fun H' M' v => H.le H' ∧ ∃ qv0 : Value, ∃ qv1 : Value, ∃ qxs0 : List Value, .obj b0 (.cells [qv0, qv1, .bool (r.2.bad)].toArray 91 (0, 0)) :: .row qv1 71 (Rep.sz S_api_InterlockNode) r.2.nodes.length qxs0 :: M = M' ∧ .string (r.1) = v ∧ RdS H' qv0 r.2.words ∧ Rw H' qv1 qxs0 r.2.nodes) := by
  unfold m_interlock_parser_name at hm
  refine enter Proofs.Tryd.func48 rfl rfl rfl ht ?_
  refine C_seq ?_
  refine C_region ?_
  refine W_assign rfl rfl rfl ?_
  refine W_end ?_
  refine E_then ?_
  refine C_seq ?_
  refine C_seq ?_
  refine C_region ?_
  refine W_move rfl rfl rfl ?_
  refine W_nilCheck rfl rfl rfl ?_
  refine W_field (o := 0) rfl rfl Proofs.Tryd.runUnderlying91 rfl Proofs.Tryd.sizeOf86 rfl rfl rfl ?_
  refine W_load rfl rfl Proofs.Tryd.isAgg86 rfl (own_at (List.mem_cons_self ..) rfl) ?_
  refine W_lenR rfl rfl Proofs.Tryd.runUnderlying86 rfl h0 ?_
  refine W_bin rfl rfl rfl rfl rfl ?_
  refine W_move rfl rfl rfl ?_
  cases hb101 : (decide ((p0_p.words.length : Int) = 0))
  · have hm := ite_f' hb101 hm
    refine W_move rfl rfl rfl ?_
    refine W_nilCheck rfl rfl rfl ?_
    refine W_field (o := 0) rfl rfl Proofs.Tryd.runUnderlying91 rfl Proofs.Tryd.sizeOf86 rfl rfl rfl ?_
    refine W_load rfl rfl Proofs.Tryd.isAgg86 rfl (own_at (List.mem_cons_self ..) rfl) ?_
    obtain ⟨y102, h103, he104, hm⟩ := idx_some hm
    obtain ⟨_, rfl, hc105⟩ := (h0).elem he104
    refine W_indexS rfl rfl Proofs.Tryd.runUnderlying86 Proofs.Tryd.sizeOf9 rfl h0 rfl h103 he104 ?_
    refine W_load rfl rfl Proofs.Tryd.isAgg9 rfl (HCells.one hc105 0 rfl).at ?_
    obtain ⟨r106, hc107, hm⟩ := bind_some hm
    refine W_call Proofs.Tryd.call50 rfl rfl rfl (fun w ht => by have h := m_netmodel_Name_c (hm := hc107)  ht; exact h) ?_
    rintro _ _ _ ⟨rfl, rfl, rfl⟩
    refine W_un rfl rfl rfl rfl ?_
    refine W_pick rfl rfl rfl rfl ?_
    refine W_end ?_
    refine E_then ?_
    refine C_cond (b := !r106) rfl (fun hb108 => ?_) (fun hb108 => ?_)
    · have hm := ite_t' hb108 hm
      refine C_seq ?_
      refine C_region ?_
      refine W_move rfl rfl rfl ?_
      refine W_nilCheck rfl rfl rfl ?_
      refine W_field (o := 2) rfl rfl Proofs.Tryd.runUnderlying91 rfl Proofs.Tryd.sizeOf4 rfl rfl rfl ?_
      refine W_store (cs := [.bool (true)]) (out := [v0, v1, .bool (true)]) rfl Proofs.Tryd.sizeOf4 rfl rfl rfl rfl rfl (all_cons rfl all_nil) rfl ?_
      refine W_end ?_
      refine E_then ?_
      refine C_seq ?_
      refine C_region ?_
      refine W_assign rfl rfl rfl ?_
      refine W_end ?_
      refine E_then ?_
      refine C_ret ?_
      refine E_ret_then ?_
      obtain rfl := Option.some.inj hm
      exact end1 rfl rfl ⟨(Hp.le_refl _), v0, v1, xs0, rfl, rfl, h0, h1⟩
    · have hm := ite_f' hb108 hm
      refine C_skip ?_
      refine E_then ?_
      refine C_seq ?_
      refine C_region ?_
      refine W_move rfl rfl rfl ?_
      refine W_nilCheck rfl rfl rfl ?_
      refine W_field (o := 0) rfl rfl Proofs.Tryd.runUnderlying91 rfl Proofs.Tryd.sizeOf86 rfl rfl rfl ?_
      refine W_load rfl rfl Proofs.Tryd.isAgg86 rfl (own_at (List.mem_cons_self ..) rfl) ?_
      obtain ⟨y109, h110, he111, hm⟩ := idx_some hm
      obtain ⟨_, rfl, hc112⟩ := (h0).elem he111
      refine W_indexS rfl rfl Proofs.Tryd.runUnderlying86 Proofs.Tryd.sizeOf9 rfl h0 rfl h110 he111 ?_
      refine W_load rfl rfl Proofs.Tryd.isAgg9 rfl (HCells.one hc112 0 rfl).at ?_
      refine W_assign rfl rfl rfl ?_
      refine W_end ?_
      refine E_then ?_
      refine C_seq ?_
      refine C_region ?_
      refine W_move rfl rfl rfl ?_
      refine W_move rfl rfl rfl ?_
      refine W_nilCheck rfl rfl rfl ?_
      refine W_field (o := 0) rfl rfl Proofs.Tryd.runUnderlying91 rfl Proofs.Tryd.sizeOf86 rfl rfl rfl ?_
      refine W_load rfl rfl Proofs.Tryd.isAgg86 rfl (own_at (List.mem_cons_self ..) rfl) ?_
      obtain ⟨hz113, hm⟩ := need_some hm
      refine W_sliceR (α := ByteArray) (l := (1 : Int).toNat) (h := p0_p.words.length) (xs := p0_p.words) rfl rfl Proofs.Tryd.runUnderlying86 Proofs.Tryd.sizeOf9 rfl h0 (by omega) (by omega) (.inl rfl) (fun cap hcap => by rw [if_pos rfl]; exact (.inl ⟨rfl, rfl⟩)) (fun m hmm => (.inl ⟨rfl, rfl⟩)) (.inr ⟨_, _, _, rfl, rfl, by omega, by omega, rfl⟩) ?_
      intro v114 h115 hc116
      refine W_nilCheck rfl rfl rfl ?_
      refine W_field (o := 0) rfl rfl Proofs.Tryd.runUnderlying91 rfl Proofs.Tryd.sizeOf86 rfl rfl rfl ?_
      refine W_store (cs := [v114]) (out := [v114, v1, .bool (p0_p.bad)]) rfl Proofs.Tryd.sizeOf86 rfl rfl (RdS.cells h115) rfl rfl (all_cons (RdS.one1 h115) all_nil) rfl ?_
      refine W_end ?_
      refine E_then ?_
      refine C_seq ?_
      refine C_region ?_
      refine W_move rfl rfl rfl ?_
      refine W_assign rfl rfl rfl ?_
      refine W_end ?_
      refine E_then ?_
      refine C_ret ?_
      obtain rfl := Option.some.inj hm
      exact end1 rfl rfl ⟨(Hp.le_refl _), v114, v1, xs0, rfl, rfl, h115, h1⟩
  · have hm := ite_t' hb101 hm
    refine W_no rfl rfl rfl ?_
    refine W_no rfl rfl rfl ?_
    refine W_no rfl rfl rfl ?_
    refine W_no rfl rfl rfl ?_
    refine W_no rfl rfl rfl ?_
    refine W_no rfl rfl rfl ?_
    refine W_no rfl rfl rfl ?_
    refine W_no rfl rfl rfl ?_
    refine W_pick rfl rfl rfl rfl ?_
    refine W_end ?_
    refine E_then ?_
    refine C_cond (b := true) rfl (fun _ => ?_) (fun hb => Bool.noConfusion hb)
    refine C_seq ?_
    refine C_region ?_
    refine W_move rfl rfl rfl ?_
    refine W_nilCheck rfl rfl rfl ?_
    refine W_field (o := 2) rfl rfl Proofs.Tryd.runUnderlying91 rfl Proofs.Tryd.sizeOf4 rfl rfl rfl ?_
    refine W_store (cs := [.bool (true)]) (out := [v0, v1, .bool (true)]) rfl Proofs.Tryd.sizeOf4 rfl rfl rfl rfl rfl (all_cons rfl all_nil) rfl ?_
    refine W_end ?_
    refine E_then ?_
    refine C_seq ?_
    refine C_region ?_
    refine W_assign rfl rfl rfl ?_
    refine W_end ?_
    refine E_then ?_
    refine C_ret ?_
    refine E_ret_then ?_
    obtain rfl := Option.some.inj hm
    exact end1 rfl rfl ⟨(Hp.le_refl _), v0, v1, xs0, rfl, rfl, h0, h1⟩

theorem m_interlock_parser_add_c {B : Nat} {w0 w : World} {H : Hp} {M : List Res} {p0_p : S_interlock_parser} {p1_x : S_api_InterlockNode} {b0 : Nat} {v0 : Value} {v1 : Value} {xs0 : List Value} {r : Int × S_interlock_parser} (hm : m_interlock_parser_add p0_p p1_x = some r) (h0 : RdS H v0 p0_p.words) (h1 : Rw H v1 xs0 p0_p.nodes) (ht : St B w0 H (.obj b0 (.cells [v0, v1, .bool (p0_p.bad)].toArray 91 (0, 0)) :: .row v1 71 (Rep.sz S_api_InterlockNode) p0_p.nodes.length xs0 :: M) w) :
    Calls Proofs.Tryd.prog 70 [.pointer (some ⟨b0, 0, none⟩), .agg [.int .i64 (p1_x.Kind), .string (p1_x.Name), .int .i64 (p1_x.A), .int .i64 (p1_x.B_)].toArray].toArray w (Ret B w0 fun H' M' v => H.le H' ∧ ∃ qv0 : Value, ∃ qv1 : Value, ∃ qxs0 : List Value, .obj b0 (.cells [qv0, qv1, .bool (r.2.bad)].toArray 91 (0, 0)) :: .row qv1 71 (Rep.sz S_api_InterlockNode) r.2.nodes.length qxs0 :: M = M' ∧ .int .i64 (r.1) = v ∧ RdS H' qv0 r.2.words ∧ Rw H' qv1 qxs0 r.2.nodes) := by
  unfold m_interlock_parser_add at hm
  refine enter Proofs.Tryd.func70 rfl rfl rfl ht ?_
  refine C_seq ?_
  refine C_region ?_
  refine W_box (cs := [.int .i64 (p1_x.Kind), .string (p1_x.Name), .int .i64 (p1_x.A), .int .i64 (p1_x.B_)]) rfl rfl rfl rfl (fun b101 => ?_)
  refine W_assign rfl rfl rfl ?_
  refine W_end ?_
  refine E_then ?_
  refine C_seq ?_
  obtain ⟨hz109, hm⟩ := need_some hm
  refine C_perm (List.Perm.trans (List.Perm.cons _ (List.Perm.swap _ _ _)) (List.Perm.swap _ _ _)) ?_
  refine C_as (M' := [[.row v1 71 (Rep.sz S_api_InterlockNode) p0_p.nodes.length xs0]].flatten ++ (.obj b101 (.cells [.int .i64 (p1_x.Kind), .string (p1_x.Name), .int .i64 (p1_x.A), .int .i64 (p1_x.B_)].toArray 71 (0, 0)) :: .obj b0 (.cells [v0, v1, .bool (p0_p.bad)].toArray 91 (0, 0)) :: M)) rfl ?_
  refine C_region_tok0 8 (phiT [(fun H rs v => [] = rs ∧ .pointer (some ⟨b0, 0, none⟩) = v), (fun H rs v => [] = rs ∧ .pointer (some ⟨b0, 0, none⟩) = v), (fun H rs v => [] = rs ∧ .pointer (some ⟨b0, 0, none⟩) = v), (fun H rs v => [] = rs ∧ .pointer (some ⟨b0, 1, none⟩) = v), (fun H rs v => [] = rs ∧ v1 = v), (fun H rs v => [] = rs ∧ .agg [.int .i64 (p1_x.Kind), .string (p1_x.Name), .int .i64 (p1_x.A), .int .i64 (p1_x.B_)].toArray = v), (fun H rs v => ∃ v114 : Value, [] = rs ∧ v114 = v ∧ RdS H v114 ([p1_x]) ∧ Value.cap' v114 = ([p1_x]).length), (fun H rs v => ∃ v120 : Value, ∃ xs121 : List Value, [.row v120 71 (Rep.sz S_api_InterlockNode) (p0_p.nodes ++ ([p1_x])).length xs121] = rs ∧ v120 = v ∧ Rw H v120 xs121 (p0_p.nodes ++ ([p1_x])))]) [[], [], [], [], [], [], [], [8]] [[], [], [], [], [], [], [], []] [[.row v1 71 (Rep.sz S_api_InterlockNode) p0_p.nodes.length xs0]] [0, 1, 2, 3, 4, 5, 6, 7] Facts.mixed (by kernel_rfl) rfl rfl rfl (by kernel_rfl) (phiT_mono ⟨eq_monoT _ _, eq_monoT _ _, eq_monoT _ _, eq_monoT _ _, eq_monoT _ _, eq_monoT _ _, (by rintro H1 H2 rs v hle ⟨v114, rfl, rfl, h118, hc119⟩; exact ⟨v114, rfl, rfl, (h118.mono hle), (hc119)⟩), (by rintro H1 H2 rs v hle ⟨v120, xs121, rfl, rfl, hr122⟩; exact ⟨v120, xs121, rfl, rfl, (hr122.mono hle)⟩), trivial⟩) ⟨?_, ?_, ?_, ?_, ?_, ?_, ?_, ?_, trivial⟩ ?_
  · intro HX hX X Rest hR
    intro hU hUp
    refine W_move rfl rfl rfl ?_
    exact W_end (OneT_end [] (Hp.le_refl _) ⟨rfl, rfl⟩)
  · intro HX hX X Rest hR
    intro hU hUp
    refine W_move rfl rfl rfl ?_
    exact W_end (OneT_end [] (Hp.le_refl _) ⟨rfl, rfl⟩)
  · intro HX hX X Rest hR
    rintro _ _ ⟨rfl, rfl⟩
    intro hU hUp
    refine W_nilCheck rfl rfl rfl ?_
    exact W_end (OneT_end [] (Hp.le_refl _) ⟨rfl, rfl⟩)
  · intro HX hX X Rest hR
    rintro _ _ ⟨rfl, rfl⟩
    intro hU hUp
    refine W_field (o := 1) rfl rfl Proofs.Tryd.runUnderlying91 rfl Proofs.Tryd.sizeOf36 rfl rfl rfl ?_
    exact W_end (OneT_end [] (Hp.le_refl _) ⟨rfl, rfl⟩)
  · intro HX hX X Rest hR
    rintro _ _ ⟨rfl, rfl⟩
    intro hU hUp
    refine W_load rfl rfl Proofs.Tryd.isAgg36 rfl (own_at (hR _ (List.mem_cons_of_mem _ (List.mem_cons_self ..))) rfl) ?_
    exact W_end (OneT_end [] (Hp.le_refl _) ⟨rfl, rfl⟩)
  · intro HX hX X Rest hR
    intro hU hUp
    refine W_loadAgg rfl rfl Proofs.Tryd.isAgg71 Proofs.Tryd.sizeOf71 rfl (own_all (hR _ (List.mem_cons_self ..))) rfl ?_
    exact W_end (OneT_end [] (Hp.le_refl _) ⟨rfl, rfl⟩)
  · intro HX hX X Rest hR
    rintro _ _ ⟨rfl, rfl⟩
    intro hU hUp
    refine W_buildSlice (α := S_api_InterlockNode) (css := [[.int .i64 (p1_x.Kind), .string (p1_x.Name), .int .i64 (p1_x.A), .int .i64 (p1_x.B_)]]) (zs := [.int .i64 (0), .string (⟨#[]⟩), .int .i64 (0), .int .i64 (0)]) (out := [.int .i64 (p1_x.Kind), .string (p1_x.Name), .int .i64 (p1_x.A), .int .i64 (p1_x.B_)]) (ys := [p1_x]) rfl rfl rfl ⟨rfl, trivial⟩ Proofs.Tryd.runUnderlying36 Proofs.Tryd.sizeOf71 rfl Proofs.Tryd.zeroValue71 (by kernel_rfl) rfl rfl rfl rfl ⟨[.int .i64 (p1_x.Kind), .string (p1_x.Name), .int .i64 (p1_x.A), .int .i64 (p1_x.B_)], [], rfl, rfl, rfl⟩ rfl ?_
    intro b113 v114 H115 hv116 hle117 h118
    have hc119 : Value.cap' v114 = ([p1_x]).length := by rw [hv116]; rfl
    exact W_end (OneT_end [] hle117 ⟨v114, rfl, rfl, (h118), (hc119)⟩)
  · intro HX hX X Rest hR
    rintro _ _ ⟨rfl, rfl⟩
    rintro _ _ ⟨v114, rfl, rfl, h118, hc119⟩
    intro hU hUp
    refine W_as (M' := .row v1 71 (Rep.sz S_api_InterlockNode) p0_p.nodes.length xs0 :: Rest) rfl ?_
    refine W_appendO (α := S_api_InterlockNode) (l := p0_p.nodes) (ys := [p1_x]) rfl rfl Proofs.Tryd.underlying36 ⟨_, rfl, rfl, rfl, rfl⟩ rfl rfl rfl rfl rfl (h1.mono hX) h118 hz109 ?_
    intro v120 xs121 hr122
    exact W_end (OneT_end [.row v120 71 (Rep.sz S_api_InterlockNode) (p0_p.nodes ++ ([p1_x])).length xs121] (Hp.le_refl _) ⟨v120, xs121, rfl, rfl, (hr122)⟩)
  intro H123 hle124
  rintro _ _ ⟨rfl, rfl⟩
  rintro _ _ ⟨rfl, rfl⟩
  rintro _ _ ⟨rfl, rfl⟩
  rintro _ _ ⟨rfl, rfl⟩
  rintro _ _ ⟨rfl, rfl⟩
  rintro _ _ ⟨rfl, rfl⟩
  rintro _ _ ⟨v114, rfl, rfl, h118, hc119⟩
  rintro _ _ ⟨v120, xs121, rfl, rfl, hr122⟩
  refine W_as (M' := .row v120 71 (Rep.sz S_api_InterlockNode) (p0_p.nodes ++ ([p1_x])).length xs121 :: .obj b101 (.cells [.int .i64 (p1_x.Kind), .string (p1_x.Name), .int .i64 (p1_x.A), .int .i64 (p1_x.B_)].toArray 71 (0, 0)) :: .obj b0 (.cells [v0, v1, .bool (p0_p.bad)].toArray 91 (0, 0)) :: M) rfl ?_
  refine W_nilCheck rfl rfl rfl ?_
  refine W_field (o := 1) rfl rfl Proofs.Tryd.runUnderlying91 rfl Proofs.Tryd.sizeOf36 rfl rfl rfl ?_
  refine W_perm (List.Perm.trans (List.Perm.cons _ (List.Perm.swap _ _ _)) (List.Perm.swap _ _ _)) ?_
  refine W_store (cs := [v120]) (out := [v0, v120, .bool (p0_p.bad)]) rfl Proofs.Tryd.sizeOf36 rfl rfl (Rw.cells hr122) rfl rfl (all_cons (Rw.one hr122) all_nil) rfl ?_
  refine W_end ?_
  refine E_then ?_
  refine C_seq ?_
  refine C_region ?_
  refine W_move rfl rfl rfl ?_
  refine W_nilCheck rfl rfl rfl ?_
  refine W_field (o := 1) rfl rfl Proofs.Tryd.runUnderlying91 rfl Proofs.Tryd.sizeOf36 rfl rfl rfl ?_
  refine W_load rfl rfl Proofs.Tryd.isAgg36 rfl (own_at (List.mem_cons_self ..) rfl) ?_
  refine W_lenO (List.mem_cons_of_mem _ (List.mem_cons_self ..)) rfl rfl Proofs.Tryd.runUnderlying36 rfl ?_
  refine W_bin rfl rfl rfl rfl rfl ?_
  refine W_assign rfl rfl rfl ?_
  refine W_end ?_
  refine E_then ?_
  refine C_ret ?_
  obtain rfl := Option.some.inj hm
  refine E_drop (List.Sublist.cons_cons _ (List.Sublist.cons_cons _ (List.Sublist.cons _ (List.Sublist.refl _)))) ?_
  exact end1 rfl rfl ⟨hle124, v0, v120, xs121, rfl, rfl, (h0.mono hle124), hr122⟩

theorem m_interlock_parser_factor_c {B : Nat} {w0 w : World} {H : Hp} {M : List Res} {p0_p : S_interlock_parser} {b0 : Nat} {v0 : Value} {v1 : Value} {xs0 : List Value} {r : Int × S_interlock_parser} (hm : m_interlock_parser_factor p0_p = some r) (h0 : RdS H v0 p0_p.words) (h1 : Rw H v1 xs0 p0_p.nodes) (ht : St B w0 H (.obj b0 (.cells [v0, v1, .bool (p0_p.bad)].toArray 91 (0, 0)) :: .row v1 71 (Rep.sz S_api_InterlockNode) p0_p.nodes.length xs0 :: M) w) :
    Calls Proofs.Tryd.prog 71 [.pointer (some ⟨b0, 0, none⟩)].toArray w (Ret B w0 fun H' M' v => H.le H' ∧ ∃ qv0 : Value, ∃ qv1 : Value, ∃ qxs0 : List Value, .obj b0 (.cells [qv0, qv1, .bool (r.2.bad)].toArray 91 (0, 0)) :: .row qv1 71 (Rep.sz S_api_InterlockNode) r.2.nodes.length qxs0 :: M = M' ∧ .int .i64 (r.1) = v ∧ RdS H' qv0 r.2.words ∧ Rw H' qv1 qxs0 r.2.nodes) := by
  unfold m_interlock_parser_factor at hm
  refine enter Proofs.Tryd.func71 rfl rfl rfl ht ?_
  refine C_seq ?_
  refine C_region ?_
  refine W_assign rfl rfl rfl ?_
  refine W_end ?_
  refine E_then ?_
  refine C_seq_join (fun H' M' L' => ∃ l229 : (List ByteArray), ∃ l233 : List S_api_InterlockNode, ∃ c235 : Bool, ∃ v228 : Value, ∃ v231 : Value, ∃ xs232 : List Value, m_interlock_parser_factor_b1 l229 l233 c235 = some r ∧ RdS H' v228 l229 ∧ Rw H' v231 xs232 l233 ∧ H.le H' ∧ .row v231 71 (Rep.sz S_api_InterlockNode) l233.length xs232 :: .obj b0 (.cells [v228, v231, .bool (c235)].toArray 91 (0, 0)) :: M = M' ∧ [] = L') ?_ (fun J238 => ?_)
  · rintro H236 _ _ ⟨l229, l233, c235, v228, v231, xs232, hm, h230, hr234, hle237, rfl, rfl⟩
    unfold m_interlock_parser_factor_b1 at hm
    refine C_seq ?_
    refine C_region ?_
    refine W_assign rfl rfl rfl ?_
    refine W_end ?_
    refine E_then ?_
    refine C_ret ?_
    obtain rfl := Option.some.inj hm
    refine E_perm (List.Perm.swap _ _ _) ?_
    exact end1 rfl rfl ⟨hle237, v228, v231, xs232, rfl, rfl, h230, hr234⟩
  · refine C_block ?_
    refine C_seq ?_
    refine C_region ?_
    refine W_move rfl rfl rfl ?_
    refine W_nilCheck rfl rfl rfl ?_
    refine W_field (o := 2) rfl rfl Proofs.Tryd.runUnderlying91 rfl Proofs.Tryd.sizeOf4 rfl rfl rfl ?_
    refine W_load rfl rfl Proofs.Tryd.isAgg4 rfl (own_at (List.mem_cons_self ..) rfl) ?_
    refine W_assign rfl rfl rfl ?_
    refine W_end ?_
    refine E_then ?_
    refine C_cond (b := p0_p.bad) rfl (fun hb239 => ?_) (fun hb239 => ?_)
    · have hm := ite_t' hb239 hm
      refine C_skip ?_
      refine E_normal_block ?_
      exact E_keepJ (J238 _ _ _ ⟨p0_p.words, p0_p.nodes, p0_p.bad, v0, v1, xs0, hm, h0, h1, (Hp.le_refl _), rfl, rfl⟩) (List.Perm.swap _ _ _) trivial
    · have hm := ite_f' hb239 hm
      refine C_seq ?_
      refine C_region ?_
      refine W_move rfl rfl rfl ?_
      obtain ⟨r240, hc241, hm⟩ := bind_some hm
      refine W_call Proofs.Tryd.call47 rfl rfl rfl (fun w ht => by have h := m_interlock_parser_take_c (hm := hc241) h0 h1 ht; exact h) ?_
      rintro _ H248 _ ⟨hle249, v243, v245, xs246, rfl, rfl, h244, h247⟩
      refine W_assign rfl rfl rfl ?_
      refine W_end ?_
      refine E_then ?_
      refine C_cond (b := r240.1) rfl (fun hb250 => ?_) (fun hb250 => ?_)
      · have hm := ite_t' hb250 hm
        refine C_seq ?_
        refine C_region ?_
        refine W_move rfl rfl rfl ?_
        refine W_build (css := [[.int .i64 (0)]]) (zs := [.int .i64 (0), .string (⟨#[]⟩), .int .i64 (0), .int .i64 (0)]) (out := [.int .i64 (0), .string (⟨#[]⟩), .int .i64 (0), .int .i64 (0)]) (places := [(0, 1), (1, 1), (2, 1), (3, 1)]) rfl rfl rfl ⟨rfl, trivial⟩ Proofs.Tryd.zeroValue71 rfl Proofs.Tryd.runUnderlying71 (fun w => by kernel_rfl) rfl ?_
        obtain ⟨r251, hc252, hm⟩ := bind_some hm
        refine W_call Proofs.Tryd.call70 rfl rfl rfl (fun w ht => by have h := m_interlock_parser_add_c (hm := hc252) h244 h247 ht; exact h) ?_
        rintro _ H259 _ ⟨hle260, v254, v256, xs257, rfl, rfl, h255, h258⟩
        refine W_assign rfl rfl rfl ?_
        refine W_end ?_
        refine E_then ?_
        refine C_ret ?_
        refine E_ret_block ?_
        refine E_ret_then ?_
        obtain rfl := Option.some.inj hm
        exact end1 rfl rfl ⟨(Hp.le_trans hle249 hle260), v254, v256, xs257, rfl, rfl, h255, h258⟩
      · have hm := ite_f' hb250 hm
        refine C_seq ?_
        refine C_region ?_
        refine W_move rfl rfl rfl ?_
        obtain ⟨r261, hc262, hm⟩ := bind_some hm
        refine W_call Proofs.Tryd.call47 rfl rfl rfl (fun w ht => by have h := m_interlock_parser_take_c (hm := hc262) h244 h247 ht; exact h) ?_
        rintro _ H269 _ ⟨hle270, v264, v266, xs267, rfl, rfl, h265, h268⟩
        refine W_assign rfl rfl rfl ?_
        refine W_end ?_
        refine E_then ?_
        refine C_cond (b := r261.1) rfl (fun hb271 => ?_) (fun hb271 => ?_)
        · have hm := ite_t' hb271 hm
          refine C_seq ?_
          refine C_region ?_
          refine W_move rfl rfl rfl ?_
          refine W_build (css := [[.int .i64 (1)]]) (zs := [.int .i64 (0), .string (⟨#[]⟩), .int .i64 (0), .int .i64 (0)]) (out := [.int .i64 (1), .string (⟨#[]⟩), .int .i64 (0), .int .i64 (0)]) (places := [(0, 1), (1, 1), (2, 1), (3, 1)]) rfl rfl rfl ⟨rfl, trivial⟩ Proofs.Tryd.zeroValue71 rfl Proofs.Tryd.runUnderlying71 (fun w => by kernel_rfl) rfl ?_
          obtain ⟨r272, hc273, hm⟩ := bind_some hm
          refine W_call Proofs.Tryd.call70 rfl rfl rfl (fun w ht => by have h := m_interlock_parser_add_c (hm := hc273) h265 h268 ht; exact h) ?_
          rintro _ H280 _ ⟨hle281, v275, v277, xs278, rfl, rfl, h276, h279⟩
          refine W_assign rfl rfl rfl ?_
          refine W_end ?_
          refine E_then ?_
          refine C_ret ?_
          refine E_ret_block ?_
          refine E_ret_then ?_
          obtain rfl := Option.some.inj hm
          exact end1 rfl rfl ⟨(Hp.le_trans (Hp.le_trans hle249 hle270) hle281), v275, v277, xs278, rfl, rfl, h276, h279⟩
        · have hm := ite_f' hb271 hm
          refine C_seq ?_
          refine C_region ?_
          refine W_move rfl rfl rfl ?_
          obtain ⟨r282, hc283, hm⟩ := bind_some hm
          refine W_call Proofs.Tryd.call47 rfl rfl rfl (fun w ht => by have h := m_interlock_parser_take_c (hm := hc283) h265 h268 ht; exact h) ?_
          rintro _ H290 _ ⟨hle291, v285, v287, xs288, rfl, rfl, h286, h289⟩
          refine W_assign rfl rfl rfl ?_
          refine W_end ?_
          refine E_then ?_
          refine C_cond (b := r282.1) rfl (fun hb292 => ?_) (fun hb292 => ?_)
          · have hm := ite_t' hb292 hm
            refine C_seq ?_
            refine C_region ?_
            refine W_move rfl rfl rfl ?_
            refine W_move rfl rfl rfl ?_
            obtain ⟨r293, hc294, hm⟩ := bind_some hm
            refine W_call Proofs.Tryd.call48 rfl rfl rfl (fun w ht => by have h := m_interlock_parser_name_c (hm := hc294) h286 h289 ht; exact h) ?_
            rintro _ H301 _ ⟨hle302, v296, v298, xs299, rfl, rfl, h297, h300⟩
            refine W_build (css := [[.int .i64 (2)], [.string (r293.1)]]) (zs := [.int .i64 (0), .string (⟨#[]⟩), .int .i64 (0), .int .i64 (0)]) (out := [.int .i64 (2), .string (r293.1), .int .i64 (0), .int .i64 (0)]) (places := [(0, 1), (1, 1), (2, 1), (3, 1)]) rfl rfl rfl ⟨rfl, rfl, trivial⟩ Proofs.Tryd.zeroValue71 rfl Proofs.Tryd.runUnderlying71 (fun w => by kernel_rfl) rfl ?_
            obtain ⟨r303, hc304, hm⟩ := bind_some hm
            refine W_call Proofs.Tryd.call70 rfl rfl rfl (fun w ht => by have h := m_interlock_parser_add_c (hm := hc304) h297 h300 ht; exact h) ?_
            rintro _ H311 _ ⟨hle312, v306, v308, xs309, rfl, rfl, h307, h310⟩
            refine W_assign rfl rfl rfl ?_
            refine W_end ?_
            refine E_then ?_
            refine C_ret ?_
            refine E_ret_block ?_
            refine E_ret_then ?_
            obtain rfl := Option.some.inj hm
            exact end1 rfl rfl ⟨(Hp.le_trans (Hp.le_trans (Hp.le_trans (Hp.le_trans hle249 hle270) hle291) hle302) hle312), v306, v308, xs309, rfl, rfl, h307, h310⟩
          · have hm := ite_f' hb292 hm
            refine C_seq ?_
            refine C_region ?_
            refine W_move rfl rfl rfl ?_
            obtain ⟨r313, hc314, hm⟩ := bind_some hm
            refine W_call Proofs.Tryd.call47 rfl rfl rfl (fun w ht => by have h := m_interlock_parser_take_c (hm := hc314) h286 h289 ht; exact h) ?_
            rintro _ H321 _ ⟨hle322, v316, v318, xs319, rfl, rfl, h317, h320⟩
            refine W_assign rfl rfl rfl ?_
            refine W_end ?_
            refine E_then ?_
            refine C_cond (b := r313.1) rfl (fun hb323 => ?_) (fun hb323 => ?_)
            · have hm := ite_t' hb323 hm
              refine C_seq ?_
              refine C_region ?_
              refine W_move rfl rfl rfl ?_
              refine W_move rfl rfl rfl ?_
              obtain ⟨r324, hc325, hm⟩ := bind_some hm
              refine W_call Proofs.Tryd.call48 rfl rfl rfl (fun w ht => by have h := m_interlock_parser_name_c (hm := hc325) h317 h320 ht; exact h) ?_
              rintro _ H332 _ ⟨hle333, v327, v329, xs330, rfl, rfl, h328, h331⟩
              refine W_build (css := [[.int .i64 (3)], [.string (r324.1)]]) (zs := [.int .i64 (0), .string (⟨#[]⟩), .int .i64 (0), .int .i64 (0)]) (out := [.int .i64 (3), .string (r324.1), .int .i64 (0), .int .i64 (0)]) (places := [(0, 1), (1, 1), (2, 1), (3, 1)]) rfl rfl rfl ⟨rfl, rfl, trivial⟩ Proofs.Tryd.zeroValue71 rfl Proofs.Tryd.runUnderlying71 (fun w => by kernel_rfl) rfl ?_
              obtain ⟨r334, hc335, hm⟩ := bind_some hm
              refine W_call Proofs.Tryd.call70 rfl rfl rfl (fun w ht => by have h := m_interlock_parser_add_c (hm := hc335) h328 h331 ht; exact h) ?_
              rintro _ H342 _ ⟨hle343, v337, v339, xs340, rfl, rfl, h338, h341⟩
              refine W_assign rfl rfl rfl ?_
              refine W_end ?_
              refine E_then ?_
              refine C_ret ?_
              refine E_ret_block ?_
              refine E_ret_then ?_
              obtain rfl := Option.some.inj hm
              exact end1 rfl rfl ⟨(Hp.le_trans (Hp.le_trans (Hp.le_trans (Hp.le_trans (Hp.le_trans hle249 hle270) hle291) hle322) hle333) hle343), v337, v339, xs340, rfl, rfl, h338, h341⟩
            · have hm := ite_f' hb323 hm
              refine C_seq ?_
              refine C_region ?_
              refine W_move rfl rfl rfl ?_
              obtain ⟨r344, hc345, hm⟩ := bind_some hm
              refine W_call Proofs.Tryd.call47 rfl rfl rfl (fun w ht => by have h := m_interlock_parser_take_c (hm := hc345) h317 h320 ht; exact h) ?_
              rintro _ H352 _ ⟨hle353, v347, v349, xs350, rfl, rfl, h348, h351⟩
              refine W_assign rfl rfl rfl ?_
              refine W_end ?_
              refine E_then ?_
              refine C_cond (b := r344.1) rfl (fun hb354 => ?_) (fun hb354 => ?_)
              · have hm := ite_t' hb354 hm
                refine C_seq ?_
                cases hm
              · have hm := ite_f' hb354 hm
                refine C_seq ?_
                refine C_region ?_
                refine W_move rfl rfl rfl ?_
                obtain ⟨r355, hc356, hm⟩ := bind_some hm
                refine W_call Proofs.Tryd.call47 rfl rfl rfl (fun w ht => by have h := m_interlock_parser_take_c (hm := hc356) h348 h351 ht; exact h) ?_
                rintro _ H363 _ ⟨hle364, v358, v360, xs361, rfl, rfl, h359, h362⟩
                refine W_assign rfl rfl rfl ?_
                refine W_end ?_
                refine E_then ?_
                refine C_cond (b := r355.1) rfl (fun hb365 => ?_) (fun hb365 => ?_)
                · have hm := ite_t' hb365 hm
                  refine C_seq ?_
                  cases hm
                · have hm := ite_f' hb365 hm
                  refine C_region ?_
                  refine W_move rfl rfl rfl ?_
                  refine W_nilCheck rfl rfl rfl ?_
                  refine W_field (o := 2) rfl rfl Proofs.Tryd.runUnderlying91 rfl Proofs.Tryd.sizeOf4 rfl rfl rfl ?_
                  refine W_store (cs := [.bool (true)]) (out := [v358, v360, .bool (true)]) rfl Proofs.Tryd.sizeOf4 rfl rfl rfl rfl rfl (all_cons rfl all_nil) rfl ?_
                  refine W_end ?_
                  refine E_normal_block ?_
                  exact E_keepJ (J238 _ _ _ ⟨r355.2.words, r355.2.nodes, true, v358, v360, xs361, hm, h359, h362, (Hp.le_trans (Hp.le_trans (Hp.le_trans (Hp.le_trans (Hp.le_trans hle249 hle270) hle291) hle322) hle353) hle364), rfl, rfl⟩) (List.Perm.swap _ _ _) trivial

theorem m_interlock_parser_chain__interlock_parser_factorS0_c {B : Nat} {w0 w : World} {H : Hp} {M : List Res} {p0_p : S_interlock_parser} {word : ByteArray} {kind : Int} {b0 : Nat} {v0 : Value} {v1 : Value} {xs0 : List Value} {r : Int × S_interlock_parser} (hm : m_interlock_parser_chain__interlock_parser_factorS0 p0_p word kind = some r) (h0 : RdS H v0 p0_p.words) (h1 : Rw H v1 xs0 p0_p.nodes) (ht : St B w0 H (.obj b0 (.cells [v0, v1, .bool (p0_p.bad)].toArray 91 (0, 0)) :: .row v1 71 (Rep.sz S_api_InterlockNode) p0_p.nodes.length xs0 :: M) w) :
    Calls Proofs.Tryd.prog 60 [.pointer (some ⟨b0, 0, none⟩), .string (word), .int .i64 (kind), .func (.func 71) [.pointer (some ⟨b0, 0, none⟩)].toArray [].toArray].toArray w (Ret B w0 fun H' M' v => H.le H' ∧ ∃ qv0 : Value, ∃ qv1 : Value, ∃ qxs0 : List Value, .obj b0 (.cells [qv0, qv1, .bool (r.2.bad)].toArray 91 (0, 0)) :: .row qv1 71 (Rep.sz S_api_InterlockNode) r.2.nodes.length qxs0 :: M = M' ∧ .int .i64 (r.1) = v ∧ RdS H' qv0 r.2.words ∧ Rw H' qv1 qxs0 r.2.nodes) := by
  unfold m_interlock_parser_chain__interlock_parser_factorS0 at hm
  refine enter Proofs.Tryd.func60 rfl rfl rfl ht ?_
  refine C_seq ?_
  refine C_region ?_
  refine W_assign rfl rfl rfl ?_
  refine W_end ?_
  refine E_then ?_
  refine C_seq ?_
  refine C_region ?_
  refine W_move rfl rfl rfl ?_
  obtain ⟨r101, hc102, hm⟩ := bind_some hm
  refine W_callv Proofs.Tryd.call71 rfl rfl rfl rfl (fun w ht => by have h := m_interlock_parser_factor_c (hm := hc102) h0 h1 ht; exact h) ?_
  rintro _ H109 _ ⟨hle110, v104, v106, xs107, rfl, rfl, h105, h108⟩
  refine W_assign rfl rfl rfl ?_
  refine W_end ?_
  refine E_then ?_
  refine C_seq_join (fun H' M' L' => ∃ n249 : Int, ∃ l251 : (List ByteArray), ∃ l255 : List S_api_InterlockNode, ∃ c257 : Bool, ∃ v250 : Value, ∃ v253 : Value, ∃ xs254 : List Value, m_interlock_parser_chain__interlock_parser_factorS0_b2 n249 l251 l255 c257 = some r ∧ RdS H' v250 l251 ∧ Rw H' v253 xs254 l255 ∧ H109.le H' ∧ .row v253 71 (Rep.sz S_api_InterlockNode) l255.length xs254 :: .obj b0 (.cells [v250, v253, .bool (c257)].toArray 91 (0, 0)) :: M = M' ∧ [(9, .int .i64 (n249))] = L') ?_ (fun J260 => ?_)
  · rintro H258 _ _ ⟨n249, l251, l255, c257, v250, v253, xs254, hm, h252, hr256, hle259, rfl, rfl⟩
    unfold m_interlock_parser_chain__interlock_parser_factorS0_b2 at hm
    refine C_seq ?_
    refine C_region ?_
    refine W_move rfl rfl rfl ?_
    refine W_assign rfl rfl rfl ?_
    refine W_end ?_
    refine E_then ?_
    refine C_ret ?_
    obtain rfl := Option.some.inj hm
    refine E_perm (List.Perm.swap _ _ _) ?_
    exact end1 rfl rfl ⟨(Hp.le_trans hle110 hle259), v250, v253, xs254, rfl, rfl, h252, hr256⟩
  · refine C_block ?_
    refine C_keep (L' := [(0, .pointer (some ⟨b0, 0, none⟩)), (1, .string (word)), (2, .int .i64 (kind)), (3, .func (.func 71) [.pointer (some ⟨b0, 0, none⟩)].toArray [].toArray), (9, .int .i64 (r101.1))]) ⟨rfl, rfl, rfl, rfl, rfl, trivial⟩ (List.Perm.swap _ _ _) ?_
    refine C_loop (fun n H' M' L' => ∃ n347 : Int, ∃ l349 : (List ByteArray), ∃ l353 : List S_api_InterlockNode, ∃ c355 : Bool, ∃ v348 : Value, ∃ v351 : Value, ∃ xs352 : List Value, loopF (fun s358 n => m_interlock_parser_chain__interlock_parser_factorS0_b3 word kind s358.1 s358.2.1 s358.2.2.1 s358.2.2.2 n) n (n347, l349, l353, c355) = some r ∧ RdS H' v348 l349 ∧ Rw H' v351 xs352 l353 ∧ H109.le H' ∧ .row v351 71 (Rep.sz S_api_InterlockNode) l353.length xs352 :: .obj b0 (.cells [v348, v351, .bool (c355)].toArray 91 (0, 0)) :: M = M' ∧ [(0, .pointer (some ⟨b0, 0, none⟩)), (1, .string (word)), (2, .int .i64 (kind)), (3, .func (.func 71) [.pointer (some ⟨b0, 0, none⟩)].toArray [].toArray), (9, .int .i64 (n347))] = L') FUEL ⟨r101.1, r101.2.words, r101.2.nodes, r101.2.bad, v104, v106, xs107, hm, h105, h108, (Hp.le_refl _), rfl, rfl⟩ ?_
    rintro n361 H356 _ _ ⟨n347, l349, l353, c355, v348, v351, xs352, hm, h350, hr354, hle357, rfl, rfl⟩
    cases n361 with
    | zero => cases hm
    | succ n361 =>
      have hm : m_interlock_parser_chain__interlock_parser_factorS0_b3 word kind n347 l349 l353 c355 (loopF (fun s358 n => m_interlock_parser_chain__interlock_parser_factorS0_b3 word kind s358.1 s358.2.1 s358.2.2.1 s358.2.2.2 n) n361) = some r := hm
      generalize hn360 : loopF (fun s358 n => m_interlock_parser_chain__interlock_parser_factorS0_b3 word kind s358.1 s358.2.1 s358.2.2.1 s358.2.2.2 n) n361 = nx359 at hm
      unfold m_interlock_parser_chain__interlock_parser_factorS0_b3 at hm
      refine C_seq ?_
      refine C_seq ?_
      refine C_region ?_
      refine W_move rfl rfl rfl ?_
      refine W_nilCheck rfl rfl rfl ?_
      refine W_field (o := 2) rfl rfl Proofs.Tryd.runUnderlying91 rfl Proofs.Tryd.sizeOf4 rfl rfl rfl ?_
      refine W_load rfl rfl Proofs.Tryd.isAgg4 rfl (own_at (List.mem_cons_of_mem _ (List.mem_cons_self ..)) rfl) ?_
      refine W_un rfl rfl rfl rfl ?_
      refine W_move rfl rfl rfl ?_
      cases hb367 : (c355)
      · have hm := ite_f' hb367 hm
        refine W_move rfl rfl rfl ?_
        refine W_move rfl rfl rfl ?_
        refine W_perm (List.Perm.swap _ _ _) ?_
        obtain ⟨r368, hc369, hm⟩ := bind_some hm
        refine W_call Proofs.Tryd.call47 rfl rfl rfl (fun w ht => by have h := m_interlock_parser_take_c (hm := hc369) h350 hr354 ht; exact h) ?_
        rintro _ H376 _ ⟨hle377, v371, v373, xs374, rfl, rfl, h372, h375⟩
        refine W_pick rfl rfl rfl rfl ?_
        refine W_end ?_
        refine E_then ?_
        refine C_cond (b := r368.1) rfl (fun hb378 => ?_) (fun hb378 => ?_)
        · have hm := ite_t' hb378 hm
          refine C_skip ?_
          refine E_then ?_
          refine C_block ?_
          refine C_seq ?_
          refine C_region ?_
          refine W_move rfl rfl rfl ?_
          obtain ⟨r379, hc380, hm⟩ := bind_some hm
          refine W_callv Proofs.Tryd.call71 rfl rfl rfl rfl (fun w ht => by have h := m_interlock_parser_factor_c (hm := hc380) h372 h375 ht; exact h) ?_
          rintro _ H387 _ ⟨hle388, v382, v384, xs385, rfl, rfl, h383, h386⟩
          refine W_assign rfl rfl rfl ?_
          refine W_end ?_
          refine E_then ?_
          refine C_region ?_
          refine W_move rfl rfl rfl ?_
          refine W_move rfl rfl rfl ?_
          refine W_move rfl rfl rfl ?_
          refine W_move rfl rfl rfl ?_
          refine W_build (css := [[.int .i64 (kind)], [.int .i64 (n347)], [.int .i64 (r379.1)]]) (zs := [.int .i64 (0), .string (⟨#[]⟩), .int .i64 (0), .int .i64 (0)]) (out := [.int .i64 (kind), .string (⟨#[]⟩), .int .i64 (n347), .int .i64 (r379.1)]) (places := [(0, 1), (1, 1), (2, 1), (3, 1)]) rfl rfl rfl ⟨rfl, rfl, rfl, trivial⟩ Proofs.Tryd.zeroValue71 rfl Proofs.Tryd.runUnderlying71 (fun w => by kernel_rfl) rfl ?_
          obtain ⟨r389, hc390, hm⟩ := bind_some hm
          refine W_call Proofs.Tryd.call70 rfl rfl rfl (fun w ht => by have h := m_interlock_parser_add_c (hm := hc390) h383 h386 ht; exact h) ?_
          rintro _ H397 _ ⟨hle398, v392, v394, xs395, rfl, rfl, h393, h396⟩
          refine W_assign rfl rfl rfl ?_
          refine W_end ?_
          refine E_normal_block ?_
          exact E_keepJ (E_back (Nat.lt_succ_self _) ⟨r389.1, r389.2.words, r389.2.nodes, r389.2.bad, v392, v394, xs395, (by rw [hn360]; exact hm), h393, h396, (Hp.le_trans (Hp.le_trans (Hp.le_trans hle357 hle377) hle388) hle398), rfl, rfl⟩) (List.Perm.swap _ _ _) ⟨rfl, rfl, rfl, rfl, rfl, trivial⟩
        · have hm := ite_f' hb378 hm
          refine C_exit ?_
          refine E_exit_then ?_
          refine E_exit_then ?_
          refine E_exit_hit ?_
          exact E_keepJ (J260 _ _ _ ⟨n347, r368.2.words, r368.2.nodes, r368.2.bad, v371, v373, xs374, hm, h372, h375, (Hp.le_trans hle357 hle377), rfl, rfl⟩) (List.Perm.swap _ _ _) ⟨rfl, trivial⟩
      · have hm := ite_t' hb367 hm
        refine W_no rfl rfl rfl ?_
        refine W_no rfl rfl rfl ?_
        refine W_no rfl rfl rfl ?_
        refine W_pick rfl rfl rfl rfl ?_
        refine W_end ?_
        refine E_then ?_
        refine C_cond (b := false) rfl (fun hb => Bool.noConfusion hb) (fun _ => ?_)
        refine C_exit ?_
        refine E_exit_then ?_
        refine E_exit_then ?_
        refine E_exit_hit ?_
        exact E_keepJ (J260 _ _ _ ⟨n347, l349, l353, true, v348, v351, xs352, hm, h350, hr354, hle357, rfl, rfl⟩) (List.Perm.refl _) ⟨rfl, trivial⟩

theorem m_interlock_parser_and_c {B : Nat} {w0 w : World} {H : Hp} {M : List Res} {p0_p : S_interlock_parser} {b0 : Nat} {v0 : Value} {v1 : Value} {xs0 : List Value} {r : Int × S_interlock_parser} (hm : m_interlock_parser_and p0_p = some r) (h0 : RdS H v0 p0_p.words) (h1 : Rw H v1 xs0 p0_p.nodes) (ht : St B w0 H (.obj b0 (.cells [v0, v1, .bool (p0_p.bad)].toArray 91 (0, 0)) :: .row v1 71 (Rep.sz S_api_InterlockNode) p0_p.nodes.length xs0 :: M) w) :
    Calls Proofs.Tryd.prog 61 [.pointer (some ⟨b0, 0, none⟩)].toArray w (Ret B w0 fun H' M' v => H.le H' ∧ ∃ qv0 : Value, ∃ qv1 : Value, ∃ qxs0 : List Value, .obj b0 (.cells [qv0, qv1, .bool (r.2.bad)].toArray 91 (0, 0)) :: .row qv1 71 (Rep.sz S_api_InterlockNode) r.2.nodes.length qxs0 :: M = M' ∧ .int .i64 (r.1) = v ∧ RdS H' qv0 r.2.words ∧ Rw H' qv1 qxs0 r.2.nodes) := by
  unfold m_interlock_parser_and at hm
  refine enter Proofs.Tryd.func61 rfl rfl rfl ht ?_
  refine C_seq ?_
  refine C_region ?_
  refine W_assign rfl rfl rfl ?_
  refine W_end ?_
  refine E_then ?_
  refine C_seq ?_
  refine C_region ?_
  refine W_move rfl rfl rfl ?_
  refine W_move rfl rfl rfl ?_
  refine W_makeFunc rfl rfl rfl rfl ?_
  obtain ⟨r101, hc102, hm⟩ := bind_some hm
  refine W_call Proofs.Tryd.call60 rfl rfl rfl (fun w ht => by have h := m_interlock_parser_chain__interlock_parser_factorS0_c (hm := hc102) h0 h1 ht; exact h) ?_
  rintro _ H109 _ ⟨hle110, v104, v106, xs107, rfl, rfl, h105, h108⟩
  refine W_assign rfl rfl rfl ?_
  refine W_end ?_
  refine E_then ?_
  refine C_ret ?_
  obtain rfl := Option.some.inj hm
  exact end1 rfl rfl ⟨hle110, v104, v106, xs107, rfl, rfl, h105, h108⟩

theorem m_interlock_parser_chain__interlock_parser_andS0_c {B : Nat} {w0 w : World} {H : Hp} {M : List Res} {p0_p : S_interlock_parser} {word : ByteArray} {kind : Int} {b0 : Nat} {v0 : Value} {v1 : Value} {xs0 : List Value} {r : Int × S_interlock_parser} (hm : m_interlock_parser_chain__interlock_parser_andS0 p0_p word kind = some r) (h0 : RdS H v0 p0_p.words) (h1 : Rw H v1 xs0 p0_p.nodes) (ht : St B w0 H (.obj b0 (.cells [v0, v1, .bool (p0_p.bad)].toArray 91 (0, 0)) :: .row v1 71 (Rep.sz S_api_InterlockNode) p0_p.nodes.length xs0 :: M) w) :
    Calls Proofs.Tryd.prog 60 [.pointer (some ⟨b0, 0, none⟩), .string (word), .int .i64 (kind), .func (.func 61) [.pointer (some ⟨b0, 0, none⟩)].toArray [].toArray].toArray w (Ret B w0 fun H' M' v => H.le H' ∧ ∃ qv0 : Value, ∃ qv1 : Value, ∃ qxs0 : List Value, .obj b0 (.cells [qv0, qv1, .bool (r.2.bad)].toArray 91 (0, 0)) :: .row qv1 71 (Rep.sz S_api_InterlockNode) r.2.nodes.length qxs0 :: M = M' ∧ .int .i64 (r.1) = v ∧ RdS H' qv0 r.2.words ∧ Rw H' qv1 qxs0 r.2.nodes) := by
  unfold m_interlock_parser_chain__interlock_parser_andS0 at hm
  refine enter Proofs.Tryd.func60 rfl rfl rfl ht ?_
  refine C_seq ?_
  refine C_region ?_
  refine W_assign rfl rfl rfl ?_
  refine W_end ?_
  refine E_then ?_
  refine C_seq ?_
  refine C_region ?_
  refine W_move rfl rfl rfl ?_
  obtain ⟨r101, hc102, hm⟩ := bind_some hm
  refine W_callv Proofs.Tryd.call61 rfl rfl rfl rfl (fun w ht => by have h := m_interlock_parser_and_c (hm := hc102) h0 h1 ht; exact h) ?_
  rintro _ H109 _ ⟨hle110, v104, v106, xs107, rfl, rfl, h105, h108⟩
  refine W_assign rfl rfl rfl ?_
  refine W_end ?_
  refine E_then ?_
  refine C_seq_join (fun H' M' L' => ∃ n249 : Int, ∃ l251 : (List ByteArray), ∃ l255 : List S_api_InterlockNode, ∃ c257 : Bool, ∃ v250 : Value, ∃ v253 : Value, ∃ xs254 : List Value, m_interlock_parser_chain__interlock_parser_andS0_b2 n249 l251 l255 c257 = some r ∧ RdS H' v250 l251 ∧ Rw H' v253 xs254 l255 ∧ H109.le H' ∧ .row v253 71 (Rep.sz S_api_InterlockNode) l255.length xs254 :: .obj b0 (.cells [v250, v253, .bool (c257)].toArray 91 (0, 0)) :: M = M' ∧ [(9, .int .i64 (n249))] = L') ?_ (fun J260 => ?_)
  · rintro H258 _ _ ⟨n249, l251, l255, c257, v250, v253, xs254, hm, h252, hr256, hle259, rfl, rfl⟩
    unfold m_interlock_parser_chain__interlock_parser_andS0_b2 at hm
    refine C_seq ?_
    refine C_region ?_
    refine W_move rfl rfl rfl ?_
    refine W_assign rfl rfl rfl ?_
    refine W_end ?_
    refine E_then ?_
    refine C_ret ?_
    obtain rfl := Option.some.inj hm
    refine E_perm (List.Perm.swap _ _ _) ?_
    exact end1 rfl rfl ⟨(Hp.le_trans hle110 hle259), v250, v253, xs254, rfl, rfl, h252, hr256⟩
  · refine C_block ?_
    refine C_keep (L' := [(0, .pointer (some ⟨b0, 0, none⟩)), (1, .string (word)), (2, .int .i64 (kind)), (3, .func (.func 61) [.pointer (some ⟨b0, 0, none⟩)].toArray [].toArray), (9, .int .i64 (r101.1))]) ⟨rfl, rfl, rfl, rfl, rfl, trivial⟩ (List.Perm.swap _ _ _) ?_
    refine C_loop (fun n H' M' L' => ∃ n347 : Int, ∃ l349 : (List ByteArray), ∃ l353 : List S_api_InterlockNode, ∃ c355 : Bool, ∃ v348 : Value, ∃ v351 : Value, ∃ xs352 : List Value, loopF (fun s358 n => m_interlock_parser_chain__interlock_parser_andS0_b3 word kind s358.1 s358.2.1 s358.2.2.1 s358.2.2.2 n) n (n347, l349, l353, c355) = some r ∧ RdS H' v348 l349 ∧ Rw H' v351 xs352 l353 ∧ H109.le H' ∧ .row v351 71 (Rep.sz S_api_InterlockNode) l353.length xs352 :: .obj b0 (.cells [v348, v351, .bool (c355)].toArray 91 (0, 0)) :: M = M' ∧ [(0, .pointer (some ⟨b0, 0, none⟩)), (1, .string (word)), (2, .int .i64 (kind)), (3, .func (.func 61) [.pointer (some ⟨b0, 0, none⟩)].toArray [].toArray), (9, .int .i64 (n347))] = L') FUEL ⟨r101.1, r101.2.words, r101.2.nodes, r101.2.bad, v104, v106, xs107, hm, h105, h108, (Hp.le_refl _), rfl, rfl⟩ ?_
    rintro n361 H356 _ _ ⟨n347, l349, l353, c355, v348, v351, xs352, hm, h350, hr354, hle357, rfl, rfl⟩
    cases n361 with
    | zero => cases hm
    | succ n361 =>
      have hm : m_interlock_parser_chain__interlock_parser_andS0_b3 word kind n347 l349 l353 c355 (loopF (fun s358 n => m_interlock_parser_chain__interlock_parser_andS0_b3 word kind s358.1 s358.2.1 s358.2.2.1 s358.2.2.2 n) n361) = some r := hm
      generalize hn360 : loopF (fun s358 n => m_interlock_parser_chain__interlock_parser_andS0_b3 word kind s358.1 s358.2.1 s358.2.2.1 s358.2.2.2 n) n361 = nx359 at hm
      unfold m_interlock_parser_chain__interlock_parser_andS0_b3 at hm
      refine C_seq ?_
      refine C_seq ?_
      refine C_region ?_
      refine W_move rfl rfl rfl ?_
      refine W_nilCheck rfl rfl rfl ?_
      refine W_field (o := 2) rfl rfl Proofs.Tryd.runUnderlying91 rfl Proofs.Tryd.sizeOf4 rfl rfl rfl ?_
      refine W_load rfl rfl Proofs.Tryd.isAgg4 rfl (own_at (List.mem_cons_of_mem _ (List.mem_cons_self ..)) rfl) ?_
      refine W_un rfl rfl rfl rfl ?_
      refine W_move rfl rfl rfl ?_
      cases hb367 : (c355)
      · have hm := ite_f' hb367 hm
        refine W_move rfl rfl rfl ?_
        refine W_move rfl rfl rfl ?_
        refine W_perm (List.Perm.swap _ _ _) ?_
        obtain ⟨r368, hc369, hm⟩ := bind_some hm
        refine W_call Proofs.Tryd.call47 rfl rfl rfl (fun w ht => by have h := m_interlock_parser_take_c (hm := hc369) h350 hr354 ht; exact h) ?_
        rintro _ H376 _ ⟨hle377, v371, v373, xs374, rfl, rfl, h372, h375⟩
        refine W_pick rfl rfl rfl rfl ?_
        refine W_end ?_
        refine E_then ?_
        refine C_cond (b := r368.1) rfl (fun hb378 => ?_) (fun hb378 => ?_)
        · have hm := ite_t' hb378 hm
          refine C_skip ?_
          refine E_then ?_
          refine C_block ?_
          refine C_seq ?_
          refine C_region ?_
          refine W_move rfl rfl rfl ?_
          obtain ⟨r379, hc380, hm⟩ := bind_some hm
          refine W_callv Proofs.Tryd.call61 rfl rfl rfl rfl (fun w ht => by have h := m_interlock_parser_and_c (hm := hc380) h372 h375 ht; exact h) ?_
          rintro _ H387 _ ⟨hle388, v382, v384, xs385, rfl, rfl, h383, h386⟩
          refine W_assign rfl rfl rfl ?_
          refine W_end ?_
          refine E_then ?_
          refine C_region ?_
          refine W_move rfl rfl rfl ?_
          refine W_move rfl rfl rfl ?_
          refine W_move rfl rfl rfl ?_
          refine W_move rfl rfl rfl ?_
          refine W_build (css := [[.int .i64 (kind)], [.int .i64 (n347)], [.int .i64 (r379.1)]]) (zs := [.int .i64 (0), .string (⟨#[]⟩), .int .i64 (0), .int .i64 (0)]) (out := [.int .i64 (kind), .string (⟨#[]⟩), .int .i64 (n347), .int .i64 (r379.1)]) (places := [(0, 1), (1, 1), (2, 1), (3, 1)]) rfl rfl rfl ⟨rfl, rfl, rfl, trivial⟩ Proofs.Tryd.zeroValue71 rfl Proofs.Tryd.runUnderlying71 (fun w => by kernel_rfl) rfl ?_
          obtain ⟨r389, hc390, hm⟩ := bind_some hm
          refine W_call Proofs.Tryd.call70 rfl rfl rfl (fun w ht => by have h := m_interlock_parser_add_c (hm := hc390) h383 h386 ht; exact h) ?_
          rintro _ H397 _ ⟨hle398, v392, v394, xs395, rfl, rfl, h393, h396⟩
          refine W_assign rfl rfl rfl ?_
          refine W_end ?_
          refine E_normal_block ?_
          exact E_keepJ (E_back (Nat.lt_succ_self _) ⟨r389.1, r389.2.words, r389.2.nodes, r389.2.bad, v392, v394, xs395, (by rw [hn360]; exact hm), h393, h396, (Hp.le_trans (Hp.le_trans (Hp.le_trans hle357 hle377) hle388) hle398), rfl, rfl⟩) (List.Perm.swap _ _ _) ⟨rfl, rfl, rfl, rfl, rfl, trivial⟩
        · have hm := ite_f' hb378 hm
          refine C_exit ?_
          refine E_exit_then ?_
          refine E_exit_then ?_
          refine E_exit_hit ?_
          exact E_keepJ (J260 _ _ _ ⟨n347, r368.2.words, r368.2.nodes, r368.2.bad, v371, v373, xs374, hm, h372, h375, (Hp.le_trans hle357 hle377), rfl, rfl⟩) (List.Perm.swap _ _ _) ⟨rfl, trivial⟩
      · have hm := ite_t' hb367 hm
        refine W_no rfl rfl rfl ?_
        refine W_no rfl rfl rfl ?_
        refine W_no rfl rfl rfl ?_
        refine W_pick rfl rfl rfl rfl ?_
        refine W_end ?_
        refine E_then ?_
        refine C_cond (b := false) rfl (fun hb => Bool.noConfusion hb) (fun _ => ?_)
        refine C_exit ?_
        refine E_exit_then ?_
        refine E_exit_then ?_
        refine E_exit_hit ?_
        exact E_keepJ (J260 _ _ _ ⟨n347, l349, l353, true, v348, v351, xs352, hm, h350, hr354, hle357, rfl, rfl⟩) (List.Perm.refl _) ⟨rfl, trivial⟩

theorem m_interlock_parser_or_c {B : Nat} {w0 w : World} {H : Hp} {M : List Res} {p0_p : S_interlock_parser} {b0 : Nat} {v0 : Value} {v1 : Value} {xs0 : List Value} {r : Int × S_interlock_parser} (hm : m_interlock_parser_or p0_p = some r) (h0 : RdS H v0 p0_p.words) (h1 : Rw H v1 xs0 p0_p.nodes) (ht : St B w0 H (.obj b0 (.cells [v0, v1, .bool (p0_p.bad)].toArray 91 (0, 0)) :: .row v1 71 (Rep.sz S_api_InterlockNode) p0_p.nodes.length xs0 :: M) w) :
    Calls Proofs.Tryd.prog 49 [.pointer (some ⟨b0, 0, none⟩)].toArray w (Ret B w0 fun H' M' v => H.le H' ∧ ∃ qv0 : Value, ∃ qv1 : Value, ∃ qxs0 : List Value, .obj b0 (.cells [qv0, qv1, .bool (r.2.bad)].toArray 91 (0, 0)) :: .row qv1 71 (Rep.sz S_api_InterlockNode) r.2.nodes.length qxs0 :: M = M' ∧ .int .i64 (r.1) = v ∧ RdS H' qv0 r.2.words ∧ Rw H' qv1 qxs0 r.2.nodes) := by
  unfold m_interlock_parser_or at hm
  refine enter Proofs.Tryd.func49 rfl rfl rfl ht ?_
  refine C_seq ?_
  refine C_region ?_
  refine W_assign rfl rfl rfl ?_
  refine W_end ?_
  refine E_then ?_
  refine C_seq ?_
  refine C_region ?_
  refine W_move rfl rfl rfl ?_
  refine W_move rfl rfl rfl ?_
  refine W_makeFunc rfl rfl rfl rfl ?_
  obtain ⟨r101, hc102, hm⟩ := bind_some hm
  refine W_call Proofs.Tryd.call60 rfl rfl rfl (fun w ht => by have h := m_interlock_parser_chain__interlock_parser_andS0_c (hm := hc102) h0 h1 ht; exact h) ?_
  rintro _ H109 _ ⟨hle110, v104, v106, xs107, rfl, rfl, h105, h108⟩
  refine W_assign rfl rfl rfl ?_
  refine W_end ?_
  refine E_then ?_
  refine C_ret ?_
  obtain rfl := Option.some.inj hm
  exact end1 rfl rfl ⟨hle110, v104, v106, xs107, rfl, rfl, h105, h108⟩

theorem m_interlock_Parse_c {B : Nat} {w0 w : World} {H : Hp} {M : List Res} {p0_s : ByteArray} {r : (List S_api_InterlockRule) × Int × Int} (hm : m_interlock_Parse p0_s = some r) (ht : St B w0 H (M) w) :
    Calls Proofs.Tryd.prog 32 [.string (p0_s)].toArray w (Ret B w0 fun H' M' v => H.le H' ∧ ∃ qv0 : Value, ∃ qxs0 : List Value, .row qv0 38 (Rep.sz S_api_InterlockRule) r.1.length qxs0 :: M = M' ∧ .tuple #[qv0, .int .i64 (r.2.1), .int .i64 (r.2.2)] = v ∧ Rw H' qv0 qxs0 r.1) := by
  unfold m_interlock_Parse at hm
  refine enter Proofs.Tryd.func32 rfl rfl rfl ht ?_
  refine C_seq ?_
  refine C_region ?_
  refine W_assign rfl rfl rfl ?_
  refine W_assign rfl rfl rfl ?_
  refine W_assign rfl rfl rfl ?_
  refine W_end ?_
  refine E_then ?_
  refine C_seq ?_
  refine C_seq ?_
  refine C_region ?_
  refine W_move rfl rfl rfl ?_
  refine W_lenStr rfl rfl Proofs.Tryd.runUnderlying9 rfl ?_
  refine W_bin rfl rfl rfl rfl rfl ?_
  refine W_end ?_
  refine E_then ?_
  refine C_cond (b := decide (8192 < (p0_s.size : Int))) rfl (fun hb101 => ?_) (fun hb101 => ?_)
  · have hm := ite_t' hb101 hm
    refine C_seq ?_
    refine C_region ?_
    refine W_assign rfl rfl rfl ?_
    refine W_assign rfl rfl rfl ?_
    refine W_assign rfl rfl rfl ?_
    refine W_end ?_
    refine E_then ?_
    refine C_ret ?_
    refine E_ret_then ?_
    refine E_nilRow 38 (Rep.sz S_api_InterlockRule) ?_
    obtain rfl := Option.some.inj hm
    exact end3 rfl rfl rfl rfl ⟨(Hp.le_refl _), (.slice none 0 0), [], rfl, rfl, Rw.nil⟩
  · have hm := ite_f' hb101 hm
    refine C_skip ?_
    refine E_then ?_
    refine C_seq ?_
    refine C_seq ?_
    refine C_region ?_
    refine W_move rfl rfl rfl ?_
    refine W_bin rfl rfl rfl rfl rfl ?_
    refine W_end ?_
    refine E_then ?_
    refine C_cond (b := decide (p0_s = (⟨#[]⟩))) rfl (fun hb102 => ?_) (fun hb102 => ?_)
    · have hm := ite_t' hb102 hm
      refine C_seq ?_
      refine C_region ?_
      refine W_assign rfl rfl rfl ?_
      refine W_assign rfl rfl rfl ?_
      refine W_assign rfl rfl rfl ?_
      refine W_end ?_
      refine E_then ?_
      refine C_ret ?_
      refine E_ret_then ?_
      refine E_nilRow 38 (Rep.sz S_api_InterlockRule) ?_
      obtain rfl := Option.some.inj hm
      exact end3 rfl rfl rfl rfl ⟨(Hp.le_refl _), (.slice none 0 0), [], rfl, rfl, Rw.nil⟩
    · have hm := ite_f' hb102 hm
      refine C_skip ?_
      refine E_then ?_
      refine C_seq ?_
      refine C_region ?_
      refine W_move rfl rfl rfl ?_
      obtain ⟨r103, hc104, hm⟩ := bind_some hm
      refine W_call Proofs.Tryd.call45 rfl rfl rfl (fun w ht => by have h := m_strings_TrimSuffix_c (hm := hc104)  ht; exact h) ?_
      rintro _ _ _ ⟨rfl, rfl, rfl⟩
      obtain ⟨r105, hc106, hm⟩ := bind_some hm
      refine W_call Proofs.Tryd.call44 rfl rfl rfl (fun w ht => by have h := m_strings_Split_c (hm := hc106)  ht; exact h) ?_
      rintro _ _ _ ⟨rfl, v107, xs108, rfl, rfl, h109⟩
      have h109 := h109 H
      refine W_assign rfl rfl rfl ?_
      refine W_end ?_
      refine E_then ?_
      refine C_seq ?_
      refine C_seq ?_
      refine C_region ?_
      refine W_move rfl rfl rfl ?_
      obtain ⟨r110, hc111, hm⟩ := bind_some hm
      refine W_call Proofs.Tryd.call46 rfl rfl rfl (fun w ht => by have h := m_strings_HasSuffix_c (hm := hc111)  ht; exact h) ?_
      rintro _ _ _ ⟨rfl, rfl, rfl⟩
      refine W_un rfl rfl rfl rfl ?_
      refine W_end ?_
      refine E_then ?_
      refine C_cond (b := !r110) rfl (fun hb112 => ?_) (fun hb112 => ?_)
      · have hm := ite_t' hb112 hm
        refine C_seq ?_
        refine C_region ?_
        refine W_move rfl rfl rfl ?_
        refine W_lenO (List.mem_cons_self ..) rfl rfl Proofs.Tryd.runUnderlying86 rfl ?_
        refine W_bin rfl rfl rfl rfl rfl ?_
        refine W_assign rfl rfl rfl ?_
        refine W_assign rfl rfl rfl ?_
        refine W_assign rfl rfl rfl ?_
        refine W_end ?_
        refine E_then ?_
        refine C_ret ?_
        refine E_ret_then ?_
        refine E_nilRow 38 (Rep.sz S_api_InterlockRule) ?_
        obtain rfl := Option.some.inj hm
        refine E_drop (List.Sublist.cons_cons _ (List.Sublist.cons _ (List.Sublist.refl _))) ?_
        exact end3 rfl rfl rfl rfl ⟨(Hp.le_refl _), (.slice none 0 0), [], rfl, rfl, Rw.nil⟩
      · have hm := ite_f' hb112 hm
        refine C_skip ?_
        refine E_then ?_
        refine C_seq ?_
        refine C_region ?_
        refine W_assign rfl rfl rfl ?_
        refine W_end ?_
        refine E_then ?_
        refine C_seq ?_
        refine C_seq ?_
        refine C_region ?_
        refine W_move rfl rfl rfl ?_
        refine W_lenO (List.mem_cons_self ..) rfl rfl Proofs.Tryd.runUnderlying86 rfl ?_
        refine W_move rfl rfl rfl ?_
        refine W_end ?_
        refine E_then ?_
        refine C_block ?_
        refine C_rowMax (List.mem_cons_self ..) (fun hmx502 => ?_)
        refine C_nilRow 38 (Rep.sz S_api_InterlockRule) ?_
        refine C_keep (L' := [(6, (.slice none 0 0)), (25, v107), (26, .int .i64 ((r105.length : Int))), (27, .int .i64 (((0 : Nat) : Int)))]) ⟨rfl, rfl, rfl, rfl, trivial⟩ (List.Perm.refl _) ?_
        refine C_loop (fun n H' M' L' => ∃ (k113 : Nat) (zs504' : List ByteArray), ∃ l494 : List S_api_InterlockRule, ∃ v492 : Value, ∃ xs493 : List Value, (r105).drop k113 = zs504' ∧ zs504'.length = n ∧ forI (fun k y s498 n => m_interlock_Parse_b5 k y s498 n) (fun s498 => some (s498, 0, 0)) k113 zs504' l494 = some r ∧ Rw H' v492 xs493 l494 ∧ H.le H' ∧ .row v492 38 (Rep.sz S_api_InterlockRule) l494.length xs493 :: .row v107 9 (Rep.sz ByteArray) r105.length xs108 :: M = M' ∧ [(6, v492), (25, v107), (26, .int .i64 ((r105.length : Int))), (27, .int .i64 ((k113 : Int)))] = L') _ ⟨0, _, ([] : List S_api_InterlockRule), (.slice none 0 0), ([]), rfl, rfl, hm, Rw.nil, (Hp.le_refl _), rfl, rfl⟩ ?_
        rintro _ H496 _ _ ⟨k113, zs504', l494, v492, xs493, hd506, rfl, hm, hr495, hle497, rfl, rfl⟩
        refine C_seq ?_
        refine C_region ?_
        refine W_bin rfl rfl rfl rfl rfl ?_
        refine W_end (E_then ?_)
        refine C_seq ?_
        refine C_cond (b := decide ((k113 : Int) < (r105.length : Int))) rfl (fun hb508 => ?_) (fun hb508 => ?_)
        · obtain ⟨y503, zs504, rfl, hy505, hd507⟩ := rng_t hd506 hb508
          have hm : m_interlock_Parse_b5 k113 y503 l494 (forI (fun k y s498 n => m_interlock_Parse_b5 k y s498 n) (fun s498 => some (s498, 0, 0)) (k113 + 1) zs504) = some r := hm
          generalize hn500 : forI (fun k y s498 n => m_interlock_Parse_b5 k y s498 n) (fun s498 => some (s498, 0, 0)) (k113 + 1) zs504 = nx499 at hm
          unfold m_interlock_Parse_b5 at hm
          refine C_skip (E_then ?_)
          refine C_seq ?_
          refine C_block ?_
          refine C_seq ?_
          refine C_region ?_
          refine W_move rfl rfl rfl ?_
          refine W_indexO (List.mem_cons_of_mem _ (List.mem_cons_self ..)) rfl rfl Proofs.Tryd.runUnderlying86 Proofs.Tryd.sizeOf9 rfl rfl (Int.natCast_nonneg _) (List.getElem?_eq_some_iff.1 hy505).1 ?_
          obtain ⟨_, rfl, hg509⟩ := (h109).elem hy505
          refine W_load rfl rfl Proofs.Tryd.isAgg9 rfl (row_one0 (List.mem_cons_of_mem _ (List.mem_cons_self ..)) hg509 rfl) ?_
          refine W_assign rfl rfl rfl ?_
          refine W_assign rfl rfl rfl ?_
          refine W_end ?_
          refine E_then ?_
          refine C_seq ?_
          refine C_region ?_
          refine W_move rfl rfl rfl ?_
          obtain ⟨r510, hc511, hm⟩ := bind_some hm
          refine W_call Proofs.Tryd.call44 rfl rfl rfl (fun w ht => by have h := m_strings_Split_c (hm := hc511)  ht; exact h) ?_
          rintro _ _ _ ⟨rfl, v512, xs513, rfl, rfl, h514⟩
          have h514 := h514 H496
          refine W_build (css := [[v512]]) (zs := [.slice none 0 0, .slice none 0 0, .bool (false)]) (out := [v512, .slice none 0 0, .bool (false)]) (places := [(0, 1), (1, 1), (2, 1)]) rfl rfl rfl ⟨(Rw.cells h514), trivial⟩ Proofs.Tryd.zeroValue91 rfl Proofs.Tryd.runUnderlying91 (fun w => by kernel_rfl) rfl ?_
          refine W_box (cs := [v512, .slice none 0 0, .bool (false)]) rfl rfl rfl rfl (fun b515 => ?_)
          refine W_assign rfl rfl rfl ?_
          refine W_end ?_
          refine E_then ?_
          refine C_seq ?_
          refine C_region ?_
          refine W_move rfl rfl rfl ?_
          refine W_nilRow 71 (Rep.sz S_api_InterlockNode) ?_
          refine W_perm (List.Perm.trans (List.Perm.cons _ (List.Perm.swap _ _ _)) (List.Perm.swap _ _ _)) ?_
          refine W_freeze (h514).rd rfl (fun H516 hle517 h518 => ?_)
          refine W_perm (List.Perm.swap _ _ _) ?_
          obtain ⟨r519, hc520, hm⟩ := bind_some hm
          refine W_call Proofs.Tryd.call47 rfl rfl rfl (fun w ht => by have h := m_interlock_parser_take_c (hm := hc520) h518 Rw.nil ht; exact h) ?_
          rintro _ H527 _ ⟨hle528, v522, v524, xs525, rfl, rfl, h523, h526⟩
          refine W_build (css := [[.bool (r519.1)]]) (zs := [.bool (false), .string (⟨#[]⟩), .slice none 0 0]) (out := [.bool (r519.1), .string (⟨#[]⟩), .slice none 0 0]) (places := [(0, 1), (1, 1), (2, 1)]) rfl rfl rfl ⟨rfl, trivial⟩ Proofs.Tryd.zeroValue38 rfl Proofs.Tryd.runUnderlying38 (fun w => by kernel_rfl) rfl ?_
          refine W_alloc (cs := [.bool (false), .string (⟨#[]⟩), .slice none 0 0]) rfl rfl Proofs.Tryd.zeroValue38 rfl (fun b529 => ?_)
          refine W_store (cs := [.bool (r519.1), .string (⟨#[]⟩), .slice none 0 0]) (out := [.bool (r519.1), .string (⟨#[]⟩), .slice none 0 0]) rfl Proofs.Tryd.sizeOf38 rfl rfl rfl rfl rfl (all_cons rfl (all_cons rfl (all_cons rfl all_nil))) (over_all rfl) ?_
          refine W_end ?_
          refine E_then ?_
          refine C_seq ?_
          refine C_seq ?_
          refine C_region ?_
          refine W_field (o := 0) rfl rfl Proofs.Tryd.runUnderlying38 rfl Proofs.Tryd.sizeOf4 rfl rfl rfl ?_
          refine W_load rfl rfl Proofs.Tryd.isAgg4 rfl (own_at (List.mem_cons_self ..) rfl) ?_
          refine W_un rfl rfl rfl rfl ?_
          refine W_move rfl rfl rfl ?_
          cases hb530 : (r519.1)
          · have hm := ite_f' hb530 hm
            refine W_move rfl rfl rfl ?_
            refine W_perm (List.Perm.trans (List.Perm.swap _ _ _) (List.Perm.cons _ (List.Perm.swap _ _ _))) ?_
            obtain ⟨r531, hc532, hm⟩ := bind_some hm
            refine W_call Proofs.Tryd.call47 rfl rfl rfl (fun w ht => by have h := m_interlock_parser_take_c (hm := hc532) h523 h526 ht; exact h) ?_
            rintro _ H539 _ ⟨hle540, v534, v536, xs537, rfl, rfl, h535, h538⟩
            refine W_un rfl rfl rfl rfl ?_
            refine W_pick rfl rfl rfl rfl ?_
            refine W_end ?_
            refine E_then ?_
            refine C_cond (b := !r531.1) rfl (fun hb541 => ?_) (fun hb541 => ?_)
            · have hm := ite_t' hb541 hm
              refine C_seq ?_
              refine C_region ?_
              refine W_move rfl rfl rfl ?_
              refine W_assign rfl rfl rfl ?_
              refine W_assign rfl rfl rfl ?_
              refine W_assign rfl rfl rfl ?_
              refine W_end ?_
              refine E_then ?_
              refine C_ret ?_
              refine E_ret_then ?_
              refine E_ret_block ?_
              refine E_ret_then ?_
              refine E_ret_then ?_
              refine E_ret_block ?_
              refine E_ret_then ?_
              refine E_nilRow 38 (Rep.sz S_api_InterlockRule) ?_
              obtain rfl := Option.some.inj hm
              refine E_drop (List.Sublist.cons_cons _ (List.Sublist.cons _ (List.Sublist.cons _ (List.Sublist.cons _ (List.Sublist.cons _ (List.Sublist.cons _ (List.Sublist.refl _))))))) ?_
              exact end3 rfl rfl rfl rfl ⟨(Hp.le_trans (Hp.le_trans (Hp.le_trans hle497 hle517) hle528) hle540), (.slice none 0 0), [], rfl, rfl, Rw.nil⟩
            · have hm := ite_f' hb541 hm
              refine C_skip ?_
              refine E_then ?_
              refine C_seq ?_
              refine C_region ?_
              refine W_move rfl rfl rfl ?_
              obtain ⟨r542, hc543, hm⟩ := bind_some hm
              refine W_call Proofs.Tryd.call48 rfl rfl rfl (fun w ht => by have h := m_interlock_parser_name_c (hm := hc543) h535 h538 ht; exact h) ?_
              rintro _ H550 _ ⟨hle551, v545, v547, xs548, rfl, rfl, h546, h549⟩
              refine W_field (o := 1) rfl rfl Proofs.Tryd.runUnderlying38 rfl Proofs.Tryd.sizeOf9 rfl rfl rfl ?_
              refine W_perm (List.Perm.trans (List.Perm.cons _ (List.Perm.swap _ _ _)) (List.Perm.swap _ _ _)) ?_
              refine W_store (cs := [.string (r542.1)]) (out := [.bool (false), .string (r542.1), .slice none 0 0]) rfl Proofs.Tryd.sizeOf9 rfl rfl rfl rfl rfl (all_cons rfl all_nil) rfl ?_
              refine W_end ?_
              refine E_then ?_
              refine C_seq_join (fun H' M' L' => ∃ l564 : (List ByteArray), ∃ l568 : List S_api_InterlockNode, ∃ c570 : Bool, ∃ v563 : Value, ∃ v566 : Value, ∃ xs567 : List Value, m_interlock_Parse_b6 l494 nx499 k113 r542 l564 l568 c570 = some r ∧ RdS H' v563 l564 ∧ Rw H' v566 xs567 l568 ∧ H550.le H' ∧ .row v566 71 (Rep.sz S_api_InterlockNode) l568.length xs567 :: .obj b529 (.cells [.bool (false), .string (r542.1), .slice none 0 0].toArray 38 (0, 0)) :: .obj b515 (.cells [v563, v566, .bool (c570)].toArray 91 (0, 0)) :: .row v492 38 (Rep.sz S_api_InterlockRule) l494.length xs493 :: .row v107 9 (Rep.sz ByteArray) r105.length xs108 :: M = M' ∧ [(6, v492), (7, .int .i64 ((k113 : Int))), (9, .pointer (some ⟨b515, 0, none⟩)), (10, .pointer (some ⟨b529, 0, none⟩)), (25, v107), (26, .int .i64 ((r105.length : Int))), (27, .int .i64 ((k113 : Int)))] = L') ?_ (fun J573 => ?_)
              · rintro H571 _ _ ⟨l564, l568, c570, v563, v566, xs567, hm, h565, hr569, hle572, rfl, rfl⟩
                unfold m_interlock_Parse_b6 at hm
                refine C_seq ?_
                refine C_region ?_
                refine W_move rfl rfl rfl ?_
                refine W_perm (List.Perm.trans (List.Perm.cons _ (List.Perm.swap _ _ _)) (List.Perm.swap _ _ _)) ?_
                obtain ⟨r574, hc575, hm⟩ := bind_some hm
                refine W_call Proofs.Tryd.call49 rfl rfl rfl (fun w ht => by have h := m_interlock_parser_or_c (hm := hc575) h565 hr569 ht; exact h) ?_
                rintro _ H582 _ ⟨hle583, v577, v579, xs580, rfl, rfl, h578, h581⟩
                refine W_end ?_
                refine E_then ?_
                refine C_seq ?_
                refine C_seq ?_
                refine C_region ?_
                refine W_move rfl rfl rfl ?_
                refine W_nilCheck rfl rfl rfl ?_
                refine W_field (o := 1) rfl rfl Proofs.Tryd.runUnderlying91 rfl Proofs.Tryd.sizeOf36 rfl rfl rfl ?_
                refine W_load rfl rfl Proofs.Tryd.isAgg36 rfl (own_at (List.mem_cons_self ..) rfl) ?_
                refine W_field (o := 2) rfl rfl Proofs.Tryd.runUnderlying38 rfl Proofs.Tryd.sizeOf36 rfl rfl rfl ?_
                refine W_perm (List.Perm.trans (List.Perm.cons _ (List.Perm.swap _ _ _)) (List.Perm.swap _ _ _)) ?_
                refine W_store (cs := [v579]) (out := [.bool (false), .string (r542.1), v579]) rfl Proofs.Tryd.sizeOf36 rfl rfl (Rw.cells h581) rfl rfl (all_cons (Rw.one h581) all_nil) rfl ?_
                refine W_end ?_
                refine E_then ?_
                refine C_block ?_
                refine C_seq_join (fun H' M' L' => H582 = H' ∧ .obj b529 (.cells [.bool (false), .string (r542.1), v579].toArray 38 (0, 0)) :: .row v579 71 (Rep.sz S_api_InterlockNode) r574.2.nodes.length xs580 :: .row v492 38 (Rep.sz S_api_InterlockRule) l494.length xs493 :: .row v107 9 (Rep.sz ByteArray) r105.length xs108 :: M = M' ∧ [(6, v492), (7, .int .i64 ((k113 : Int))), (10, .pointer (some ⟨b529, 0, none⟩)), (25, v107), (26, .int .i64 ((r105.length : Int))), (27, .int .i64 ((k113 : Int))), (64, .bool (r574.2.bad || (decide (0 < (r574.2.words.length : Int)))))] = L') ?_ (fun J585 => ?_)
                · rintro _ _ _ ⟨rfl, rfl, rfl⟩
                  refine C_cond (b := r574.2.bad || (decide (0 < (r574.2.words.length : Int)))) rfl (fun hb586 => ?_) (fun hb586 => ?_)
                  · have hm := ite_t' hb586 hm
                    refine C_seq ?_
                    refine C_region ?_
                    refine W_move rfl rfl rfl ?_
                    refine W_assign rfl rfl rfl ?_
                    refine W_assign rfl rfl rfl ?_
                    refine W_assign rfl rfl rfl ?_
                    refine W_end ?_
                    refine E_then ?_
                    refine C_ret ?_
                    refine E_ret_block ?_
                    refine E_ret_then ?_
                    refine E_ret_block ?_
                    refine E_ret_then ?_
                    refine E_ret_then ?_
                    refine E_ret_block ?_
                    refine E_ret_then ?_
                    refine E_nilRow 38 (Rep.sz S_api_InterlockRule) ?_
                    obtain rfl := Option.some.inj hm
                    refine E_drop (List.Sublist.cons_cons _ (List.Sublist.cons _ (List.Sublist.cons _ (List.Sublist.cons _ (List.Sublist.cons _ (List.Sublist.refl _)))))) ?_
                    exact end3 rfl rfl rfl rfl ⟨(Hp.le_trans (Hp.le_trans (Hp.le_trans (Hp.le_trans (Hp.le_trans (Hp.le_trans hle497 hle517) hle528) hle540) hle551) hle572) hle583), (.slice none 0 0), [], rfl, rfl, Rw.nil⟩
                  · have hm := ite_f' hb586 hm
                    refine C_seq_join (fun H' M' L' => H582 = H' ∧ .obj b529 (.cells [.bool (false), .string (r542.1), v579].toArray 38 (0, 0)) :: .row v579 71 (Rep.sz S_api_InterlockNode) r574.2.nodes.length xs580 :: .row v492 38 (Rep.sz S_api_InterlockRule) l494.length xs493 :: .row v107 9 (Rep.sz ByteArray) r105.length xs108 :: M = M' ∧ [(6, v492), (7, .int .i64 ((k113 : Int))), (10, .pointer (some ⟨b529, 0, none⟩)), (25, v107), (26, .int .i64 ((r105.length : Int))), (27, .int .i64 ((k113 : Int))), (78, .bool ((decide (40 < (r574.2.nodes.length : Int))) || (decide (24 ≤ (k113 : Int)))))] = L') ?_ (fun J588 => ?_)
                    · rintro _ _ _ ⟨rfl, rfl, rfl⟩
                      refine C_cond (b := (decide (40 < (r574.2.nodes.length : Int))) || (decide (24 ≤ (k113 : Int)))) rfl (fun hb589 => ?_) (fun hb589 => ?_)
                      · have hm := ite_t' hb589 hm
                        refine C_seq ?_
                        refine C_region ?_
                        refine W_move rfl rfl rfl ?_
                        refine W_assign rfl rfl rfl ?_
                        refine W_assign rfl rfl rfl ?_
                        refine W_assign rfl rfl rfl ?_
                        refine W_end ?_
                        refine E_then ?_
                        refine C_ret ?_
                        refine E_ret_block ?_
                        refine E_ret_then ?_
                        refine E_ret_block ?_
                        refine E_ret_then ?_
                        refine E_ret_then ?_
                        refine E_ret_block ?_
                        refine E_ret_then ?_
                        refine E_nilRow 38 (Rep.sz S_api_InterlockRule) ?_
                        obtain rfl := Option.some.inj hm
                        refine E_drop (List.Sublist.cons_cons _ (List.Sublist.cons _ (List.Sublist.cons _ (List.Sublist.cons _ (List.Sublist.cons _ (List.Sublist.refl _)))))) ?_
                        exact end3 rfl rfl rfl rfl ⟨(Hp.le_trans (Hp.le_trans (Hp.le_trans (Hp.le_trans (Hp.le_trans (Hp.le_trans hle497 hle517) hle528) hle540) hle551) hle572) hle583), (.slice none 0 0), [], rfl, rfl, Rw.nil⟩
                      · have hm := ite_f' hb589 hm
                        refine C_skip ?_
                        refine E_normal_block ?_
                        refine E_then ?_
                        refine C_region ?_
                        refine W_move rfl rfl rfl ?_
                        refine W_loadAgg rfl rfl Proofs.Tryd.isAgg38 Proofs.Tryd.sizeOf38 rfl (own_all (List.mem_cons_self ..)) rfl ?_
                        refine W_perm (List.Perm.swap _ _ _) ?_
                        refine W_freeze (h581).rd rfl (fun H590 hle591 h592 => ?_)
                        refine W_buildSlice (α := S_api_InterlockRule) (css := [[.bool (false), .string (r542.1), v579]]) (zs := [.bool (false), .string (⟨#[]⟩), .slice none 0 0]) (out := [.bool (false), .string (r542.1), v579]) (ys := [(S_api_InterlockRule.mk false r542.1 r574.2.nodes)]) rfl rfl rfl ⟨rfl, trivial⟩ Proofs.Tryd.runUnderlying44 Proofs.Tryd.sizeOf38 rfl Proofs.Tryd.zeroValue38 (by kernel_rfl) rfl rfl rfl rfl ⟨[.bool (false), .string (r542.1), v579], [], rfl, ⟨v579, rfl, h592⟩, rfl⟩ rfl ?_
                        intro b593 v594 H595 hv596 hle597 h598
                        have hc599 : Value.cap' v594 = ([(S_api_InterlockRule.mk false r542.1 r574.2.nodes)]).length := by rw [hv596]; rfl
                        obtain ⟨hz600, hm⟩ := need_some hm
                        refine W_perm (List.Perm.swap _ _ _) ?_
                        refine W_appendO (α := S_api_InterlockRule) (l := l494) (ys := [(S_api_InterlockRule.mk false r542.1 r574.2.nodes)]) rfl rfl Proofs.Tryd.underlying44 ⟨_, rfl, rfl, rfl, rfl⟩ rfl rfl rfl rfl rfl ((((((((hr495.mono hle517).mono hle528).mono hle540).mono hle551).mono hle572).mono hle583).mono hle591).mono hle597) h598 hz600 ?_
                        intro v601 xs602 hr603
                        refine W_assign rfl rfl rfl ?_
                        refine W_end ?_
                        refine E_normal_block ?_
                        refine E_then ?_
                        refine C_region ?_
                        refine W_bin rfl rfl rfl rfl rfl ?_
                        refine W_move rfl rfl rfl ?_
                        refine W_end ?_
                        refine E_drop (List.Sublist.cons_cons _ (List.Sublist.cons _ (List.Sublist.refl _))) ?_
                        exact E_keepJ (E_back (Nat.lt_succ_self _) ⟨k113 + 1, zs504, (l494 ++ ([(S_api_InterlockRule.mk false r542.1 r574.2.nodes)])), v601, xs602, hd507, rfl, (by rw [hn500]; exact hm), hr603, (Hp.le_trans (Hp.le_trans (Hp.le_trans (Hp.le_trans (Hp.le_trans (Hp.le_trans (Hp.le_trans (Hp.le_trans hle497 hle517) hle528) hle540) hle551) hle572) hle583) hle591) hle597), rfl, rfl⟩) (List.Perm.refl _) ⟨rfl, rfl, rfl, (congrArg (fun z => some (Value.int .i64 z)) (i64_succ hy505 hmx502)), trivial⟩
                    · refine C_region ?_
                      refine W_field (o := 2) rfl rfl Proofs.Tryd.runUnderlying38 rfl Proofs.Tryd.sizeOf36 rfl rfl rfl ?_
                      refine W_load rfl rfl Proofs.Tryd.isAgg36 rfl (own_at (List.mem_cons_self ..) rfl) ?_
                      refine W_lenO (List.mem_cons_of_mem _ (List.mem_cons_self ..)) rfl rfl Proofs.Tryd.runUnderlying36 rfl ?_
                      refine W_bin rfl rfl rfl rfl rfl ?_
                      refine W_move rfl rfl rfl ?_
                      cases hb604 : (decide (40 < (r574.2.nodes.length : Int)))
                      · refine W_move rfl rfl rfl ?_
                        refine W_bin rfl rfl rfl rfl rfl ?_
                        refine W_pick rfl rfl rfl rfl ?_
                        refine W_assign rfl rfl rfl ?_
                        refine W_end ?_
                        exact E_keepJ (J588 _ _ _ ⟨rfl, rfl, rfl⟩) (List.Perm.refl _) ⟨rfl, rfl, rfl, rfl, rfl, rfl, (by show some (Value.bool (decide (24 ≤ (k113 : Int)))) = some (Value.bool ((decide (40 < (r574.2.nodes.length : Int))) || (decide (24 ≤ (k113 : Int))))); simp only [hb101, hb102, hb112, hb530, hb541, hb586, hb604, Bool.and_true, Bool.true_and, Bool.false_and, Bool.and_false, Bool.or_true, Bool.true_or, Bool.or_false, Bool.false_or, Bool.not_true, Bool.not_false]), trivial⟩
                      · refine W_no rfl rfl rfl ?_
                        refine W_no rfl rfl rfl ?_
                        refine W_pick rfl rfl rfl rfl ?_
                        refine W_assign rfl rfl rfl ?_
                        refine W_end ?_
                        exact E_keepJ (J588 _ _ _ ⟨rfl, rfl, rfl⟩) (List.Perm.refl _) ⟨rfl, rfl, rfl, rfl, rfl, rfl, (by show some (Value.bool (true)) = some (Value.bool ((decide (40 < (r574.2.nodes.length : Int))) || (decide (24 ≤ (k113 : Int))))); simp only [hb101, hb102, hb112, hb530, hb541, hb586, hb604, Bool.and_true, Bool.true_and, Bool.false_and, Bool.and_false, Bool.or_true, Bool.true_or, Bool.or_false, Bool.false_or, Bool.not_true, Bool.not_false]), trivial⟩
                · refine C_region ?_
                  refine W_move rfl rfl rfl ?_
                  refine W_nilCheck rfl rfl rfl ?_
                  refine W_field (o := 2) rfl rfl Proofs.Tryd.runUnderlying91 rfl Proofs.Tryd.sizeOf4 rfl rfl rfl ?_
                  refine W_load rfl rfl Proofs.Tryd.isAgg4 rfl (own_at (List.mem_cons_of_mem _ (List.mem_cons_self ..)) rfl) ?_
                  refine W_move rfl rfl rfl ?_
                  cases hb605 : (r574.2.bad)
                  · refine W_move rfl rfl rfl ?_
                    refine W_nilCheck rfl rfl rfl ?_
                    refine W_field (o := 0) rfl rfl Proofs.Tryd.runUnderlying91 rfl Proofs.Tryd.sizeOf86 rfl rfl rfl ?_
                    refine W_load rfl rfl Proofs.Tryd.isAgg86 rfl (own_at (List.mem_cons_of_mem _ (List.mem_cons_self ..)) rfl) ?_
                    refine W_lenR rfl rfl Proofs.Tryd.runUnderlying86 rfl h578 ?_
                    refine W_bin rfl rfl rfl rfl rfl ?_
                    refine W_pick rfl rfl rfl rfl ?_
                    refine W_assign rfl rfl rfl ?_
                    refine W_end ?_
                    refine E_drop (List.Sublist.cons_cons _ (List.Sublist.cons _ (List.Sublist.refl _))) ?_
                    exact E_keepJ (J585 _ _ _ ⟨rfl, rfl, rfl⟩) (List.Perm.refl _) ⟨rfl, rfl, rfl, rfl, rfl, rfl, (by show some (Value.bool (decide (0 < (r574.2.words.length : Int)))) = some (Value.bool (r574.2.bad || (decide (0 < (r574.2.words.length : Int))))); simp only [hb101, hb102, hb112, hb530, hb541, hb605, Bool.and_true, Bool.true_and, Bool.false_and, Bool.and_false, Bool.or_true, Bool.true_or, Bool.or_false, Bool.false_or, Bool.not_true, Bool.not_false]), trivial⟩
                  · refine W_no rfl rfl rfl ?_
                    refine W_no rfl rfl rfl ?_
                    refine W_no rfl rfl rfl ?_
                    refine W_no rfl rfl rfl ?_
                    refine W_no rfl rfl rfl ?_
                    refine W_no rfl rfl rfl ?_
                    refine W_pick rfl rfl rfl rfl ?_
                    refine W_assign rfl rfl rfl ?_
                    refine W_end ?_
                    refine E_drop (List.Sublist.cons_cons _ (List.Sublist.cons _ (List.Sublist.refl _))) ?_
                    exact E_keepJ (J585 _ _ _ ⟨rfl, rfl, rfl⟩) (List.Perm.refl _) ⟨rfl, rfl, rfl, rfl, rfl, rfl, (by show some (Value.bool (true)) = some (Value.bool (r574.2.bad || (decide (0 < (r574.2.words.length : Int))))); simp only [hb101, hb102, hb112, hb530, hb541, hb605, Bool.and_true, Bool.true_and, Bool.false_and, Bool.and_false, Bool.or_true, Bool.true_or, Bool.or_false, Bool.false_or, Bool.not_true, Bool.not_false]), trivial⟩
              · refine C_seq ?_
                refine C_region ?_
                refine W_move rfl rfl rfl ?_
                refine W_perm (List.Perm.trans (List.Perm.swap _ _ _) (List.Perm.cons _ (List.Perm.swap _ _ _))) ?_
                obtain ⟨r606, hc607, hm⟩ := bind_some hm
                refine W_call Proofs.Tryd.call47 rfl rfl rfl (fun w ht => by have h := m_interlock_parser_take_c (hm := hc607) h546 h549 ht; exact h) ?_
                rintro _ H614 _ ⟨hle615, v609, v611, xs612, rfl, rfl, h610, h613⟩
                refine W_un rfl rfl rfl rfl ?_
                refine W_end ?_
                refine E_then ?_
                refine C_cond (b := !r606.1) rfl (fun hb616 => ?_) (fun hb616 => ?_)
                · have hm := ite_t' hb616 hm
                  refine C_region ?_
                  refine W_move rfl rfl rfl ?_
                  refine W_nilCheck rfl rfl rfl ?_
                  refine W_field (o := 2) rfl rfl Proofs.Tryd.runUnderlying91 rfl Proofs.Tryd.sizeOf4 rfl rfl rfl ?_
                  refine W_store (cs := [.bool (true)]) (out := [v609, v611, .bool (true)]) rfl Proofs.Tryd.sizeOf4 rfl rfl rfl rfl rfl (all_cons rfl all_nil) rfl ?_
                  refine W_end ?_
                  exact E_keepJ (J573 _ _ _ ⟨r606.2.words, r606.2.nodes, true, v609, v611, xs612, hm, h610, h613, hle615, rfl, rfl⟩) (List.Perm.trans (List.Perm.swap _ _ _) (List.Perm.cons _ (List.Perm.swap _ _ _))) ⟨rfl, rfl, rfl, rfl, rfl, rfl, rfl, trivial⟩
                · have hm := ite_f' hb616 hm
                  refine C_skip ?_
                  exact E_keepJ (J573 _ _ _ ⟨r606.2.words, r606.2.nodes, r606.2.bad, v609, v611, xs612, hm, h610, h613, hle615, rfl, rfl⟩) (List.Perm.trans (List.Perm.swap _ _ _) (List.Perm.cons _ (List.Perm.swap _ _ _))) ⟨rfl, rfl, rfl, rfl, rfl, rfl, rfl, trivial⟩
          · have hm := ite_t' hb530 hm
            refine W_no rfl rfl rfl ?_
            refine W_no rfl rfl rfl ?_
            refine W_no rfl rfl rfl ?_
            refine W_pick rfl rfl rfl rfl ?_
            refine W_end ?_
            refine E_then ?_
            refine C_cond (b := false) rfl (fun hb => Bool.noConfusion hb) (fun _ => ?_)
            refine C_skip ?_
            refine E_then ?_
            refine C_seq ?_
            refine C_region ?_
            refine W_move rfl rfl rfl ?_
            refine W_perm (List.Perm.trans (List.Perm.swap _ _ _) (List.Perm.cons _ (List.Perm.swap _ _ _))) ?_
            obtain ⟨r617, hc618, hm⟩ := bind_some hm
            refine W_call Proofs.Tryd.call48 rfl rfl rfl (fun w ht => by have h := m_interlock_parser_name_c (hm := hc618) h523 h526 ht; exact h) ?_
            rintro _ H625 _ ⟨hle626, v620, v622, xs623, rfl, rfl, h621, h624⟩
            refine W_field (o := 1) rfl rfl Proofs.Tryd.runUnderlying38 rfl Proofs.Tryd.sizeOf9 rfl rfl rfl ?_
            refine W_perm (List.Perm.trans (List.Perm.cons _ (List.Perm.swap _ _ _)) (List.Perm.swap _ _ _)) ?_
            refine W_store (cs := [.string (r617.1)]) (out := [.bool (true), .string (r617.1), .slice none 0 0]) rfl Proofs.Tryd.sizeOf9 rfl rfl rfl rfl rfl (all_cons rfl all_nil) rfl ?_
            refine W_end ?_
            refine E_then ?_
            refine C_seq_join (fun H' M' L' => ∃ l639 : (List ByteArray), ∃ l643 : List S_api_InterlockNode, ∃ c645 : Bool, ∃ v638 : Value, ∃ v641 : Value, ∃ xs642 : List Value, m_interlock_Parse_b7 l494 nx499 k113 r617 l639 l643 c645 = some r ∧ RdS H' v638 l639 ∧ Rw H' v641 xs642 l643 ∧ H625.le H' ∧ .row v641 71 (Rep.sz S_api_InterlockNode) l643.length xs642 :: .obj b529 (.cells [.bool (true), .string (r617.1), .slice none 0 0].toArray 38 (0, 0)) :: .obj b515 (.cells [v638, v641, .bool (c645)].toArray 91 (0, 0)) :: .row v492 38 (Rep.sz S_api_InterlockRule) l494.length xs493 :: .row v107 9 (Rep.sz ByteArray) r105.length xs108 :: M = M' ∧ [(6, v492), (7, .int .i64 ((k113 : Int))), (9, .pointer (some ⟨b515, 0, none⟩)), (10, .pointer (some ⟨b529, 0, none⟩)), (25, v107), (26, .int .i64 ((r105.length : Int))), (27, .int .i64 ((k113 : Int)))] = L') ?_ (fun J648 => ?_)
            · rintro H646 _ _ ⟨l639, l643, c645, v638, v641, xs642, hm, h640, hr644, hle647, rfl, rfl⟩
              unfold m_interlock_Parse_b7 at hm
              refine C_seq ?_
              refine C_region ?_
              refine W_move rfl rfl rfl ?_
              refine W_perm (List.Perm.trans (List.Perm.cons _ (List.Perm.swap _ _ _)) (List.Perm.swap _ _ _)) ?_
              obtain ⟨r649, hc650, hm⟩ := bind_some hm
              refine W_call Proofs.Tryd.call49 rfl rfl rfl (fun w ht => by have h := m_interlock_parser_or_c (hm := hc650) h640 hr644 ht; exact h) ?_
              rintro _ H657 _ ⟨hle658, v652, v654, xs655, rfl, rfl, h653, h656⟩
              refine W_end ?_
              refine E_then ?_
              refine C_seq ?_
              refine C_seq ?_
              refine C_region ?_
              refine W_move rfl rfl rfl ?_
              refine W_nilCheck rfl rfl rfl ?_
              refine W_field (o := 1) rfl rfl Proofs.Tryd.runUnderlying91 rfl Proofs.Tryd.sizeOf36 rfl rfl rfl ?_
              refine W_load rfl rfl Proofs.Tryd.isAgg36 rfl (own_at (List.mem_cons_self ..) rfl) ?_
              refine W_field (o := 2) rfl rfl Proofs.Tryd.runUnderlying38 rfl Proofs.Tryd.sizeOf36 rfl rfl rfl ?_
              refine W_perm (List.Perm.trans (List.Perm.cons _ (List.Perm.swap _ _ _)) (List.Perm.swap _ _ _)) ?_
              refine W_store (cs := [v654]) (out := [.bool (true), .string (r617.1), v654]) rfl Proofs.Tryd.sizeOf36 rfl rfl (Rw.cells h656) rfl rfl (all_cons (Rw.one h656) all_nil) rfl ?_
              refine W_end ?_
              refine E_then ?_
              refine C_block ?_
              refine C_seq_join (fun H' M' L' => H657 = H' ∧ .obj b529 (.cells [.bool (true), .string (r617.1), v654].toArray 38 (0, 0)) :: .row v654 71 (Rep.sz S_api_InterlockNode) r649.2.nodes.length xs655 :: .row v492 38 (Rep.sz S_api_InterlockRule) l494.length xs493 :: .row v107 9 (Rep.sz ByteArray) r105.length xs108 :: M = M' ∧ [(6, v492), (7, .int .i64 ((k113 : Int))), (10, .pointer (some ⟨b529, 0, none⟩)), (25, v107), (26, .int .i64 ((r105.length : Int))), (27, .int .i64 ((k113 : Int))), (64, .bool (r649.2.bad || (decide (0 < (r649.2.words.length : Int)))))] = L') ?_ (fun J660 => ?_)
              · rintro _ _ _ ⟨rfl, rfl, rfl⟩
                refine C_cond (b := r649.2.bad || (decide (0 < (r649.2.words.length : Int)))) rfl (fun hb661 => ?_) (fun hb661 => ?_)
                · have hm := ite_t' hb661 hm
                  refine C_seq ?_
                  refine C_region ?_
                  refine W_move rfl rfl rfl ?_
                  refine W_assign rfl rfl rfl ?_
                  refine W_assign rfl rfl rfl ?_
                  refine W_assign rfl rfl rfl ?_
                  refine W_end ?_
                  refine E_then ?_
                  refine C_ret ?_
                  refine E_ret_block ?_
                  refine E_ret_then ?_
                  refine E_ret_block ?_
                  refine E_ret_then ?_
                  refine E_ret_then ?_
                  refine E_ret_block ?_
                  refine E_ret_then ?_
                  refine E_nilRow 38 (Rep.sz S_api_InterlockRule) ?_
                  obtain rfl := Option.some.inj hm
                  refine E_drop (List.Sublist.cons_cons _ (List.Sublist.cons _ (List.Sublist.cons _ (List.Sublist.cons _ (List.Sublist.cons _ (List.Sublist.refl _)))))) ?_
                  exact end3 rfl rfl rfl rfl ⟨(Hp.le_trans (Hp.le_trans (Hp.le_trans (Hp.le_trans (Hp.le_trans hle497 hle517) hle528) hle626) hle647) hle658), (.slice none 0 0), [], rfl, rfl, Rw.nil⟩
                · have hm := ite_f' hb661 hm
                  refine C_seq_join (fun H' M' L' => H657 = H' ∧ .obj b529 (.cells [.bool (true), .string (r617.1), v654].toArray 38 (0, 0)) :: .row v654 71 (Rep.sz S_api_InterlockNode) r649.2.nodes.length xs655 :: .row v492 38 (Rep.sz S_api_InterlockRule) l494.length xs493 :: .row v107 9 (Rep.sz ByteArray) r105.length xs108 :: M = M' ∧ [(6, v492), (7, .int .i64 ((k113 : Int))), (10, .pointer (some ⟨b529, 0, none⟩)), (25, v107), (26, .int .i64 ((r105.length : Int))), (27, .int .i64 ((k113 : Int))), (78, .bool ((decide (40 < (r649.2.nodes.length : Int))) || (decide (24 ≤ (k113 : Int)))))] = L') ?_ (fun J663 => ?_)
                  · rintro _ _ _ ⟨rfl, rfl, rfl⟩
                    refine C_cond (b := (decide (40 < (r649.2.nodes.length : Int))) || (decide (24 ≤ (k113 : Int)))) rfl (fun hb664 => ?_) (fun hb664 => ?_)
                    · have hm := ite_t' hb664 hm
                      refine C_seq ?_
                      refine C_region ?_
                      refine W_move rfl rfl rfl ?_
                      refine W_assign rfl rfl rfl ?_
                      refine W_assign rfl rfl rfl ?_
                      refine W_assign rfl rfl rfl ?_
                      refine W_end ?_
                      refine E_then ?_
                      refine C_ret ?_
                      refine E_ret_block ?_
                      refine E_ret_then ?_
                      refine E_ret_block ?_
                      refine E_ret_then ?_
                      refine E_ret_then ?_
                      refine E_ret_block ?_
                      refine E_ret_then ?_
                      refine E_nilRow 38 (Rep.sz S_api_InterlockRule) ?_
                      obtain rfl := Option.some.inj hm
                      refine E_drop (List.Sublist.cons_cons _ (List.Sublist.cons _ (List.Sublist.cons _ (List.Sublist.cons _ (List.Sublist.cons _ (List.Sublist.refl _)))))) ?_
                      exact end3 rfl rfl rfl rfl ⟨(Hp.le_trans (Hp.le_trans (Hp.le_trans (Hp.le_trans (Hp.le_trans hle497 hle517) hle528) hle626) hle647) hle658), (.slice none 0 0), [], rfl, rfl, Rw.nil⟩
                    · have hm := ite_f' hb664 hm
                      refine C_skip ?_
                      refine E_normal_block ?_
                      refine E_then ?_
                      refine C_region ?_
                      refine W_move rfl rfl rfl ?_
                      refine W_loadAgg rfl rfl Proofs.Tryd.isAgg38 Proofs.Tryd.sizeOf38 rfl (own_all (List.mem_cons_self ..)) rfl ?_
                      refine W_perm (List.Perm.swap _ _ _) ?_
                      refine W_freeze (h656).rd rfl (fun H665 hle666 h667 => ?_)
                      refine W_buildSlice (α := S_api_InterlockRule) (css := [[.bool (true), .string (r617.1), v654]]) (zs := [.bool (false), .string (⟨#[]⟩), .slice none 0 0]) (out := [.bool (true), .string (r617.1), v654]) (ys := [(S_api_InterlockRule.mk true r617.1 r649.2.nodes)]) rfl rfl rfl ⟨rfl, trivial⟩ Proofs.Tryd.runUnderlying44 Proofs.Tryd.sizeOf38 rfl Proofs.Tryd.zeroValue38 (by kernel_rfl) rfl rfl rfl rfl ⟨[.bool (true), .string (r617.1), v654], [], rfl, ⟨v654, rfl, h667⟩, rfl⟩ rfl ?_
                      intro b668 v669 H670 hv671 hle672 h673
                      have hc674 : Value.cap' v669 = ([(S_api_InterlockRule.mk true r617.1 r649.2.nodes)]).length := by rw [hv671]; rfl
                      obtain ⟨hz675, hm⟩ := need_some hm
                      refine W_perm (List.Perm.swap _ _ _) ?_
                      refine W_appendO (α := S_api_InterlockRule) (l := l494) (ys := [(S_api_InterlockRule.mk true r617.1 r649.2.nodes)]) rfl rfl Proofs.Tryd.underlying44 ⟨_, rfl, rfl, rfl, rfl⟩ rfl rfl rfl rfl rfl (((((((hr495.mono hle517).mono hle528).mono hle626).mono hle647).mono hle658).mono hle666).mono hle672) h673 hz675 ?_
                      intro v676 xs677 hr678
                      refine W_assign rfl rfl rfl ?_
                      refine W_end ?_
                      refine E_normal_block ?_
                      refine E_then ?_
                      refine C_region ?_
                      refine W_bin rfl rfl rfl rfl rfl ?_
                      refine W_move rfl rfl rfl ?_
                      refine W_end ?_
                      refine E_drop (List.Sublist.cons_cons _ (List.Sublist.cons _ (List.Sublist.refl _))) ?_
                      exact E_keepJ (E_back (Nat.lt_succ_self _) ⟨k113 + 1, zs504, (l494 ++ ([(S_api_InterlockRule.mk true r617.1 r649.2.nodes)])), v676, xs677, hd507, rfl, (by rw [hn500]; exact hm), hr678, (Hp.le_trans (Hp.le_trans (Hp.le_trans (Hp.le_trans (Hp.le_trans (Hp.le_trans (Hp.le_trans hle497 hle517) hle528) hle626) hle647) hle658) hle666) hle672), rfl, rfl⟩) (List.Perm.refl _) ⟨rfl, rfl, rfl, (congrArg (fun z => some (Value.int .i64 z)) (i64_succ hy505 hmx502)), trivial⟩
                  · refine C_region ?_
                    refine W_field (o := 2) rfl rfl Proofs.Tryd.runUnderlying38 rfl Proofs.Tryd.sizeOf36 rfl rfl rfl ?_
                    refine W_load rfl rfl Proofs.Tryd.isAgg36 rfl (own_at (List.mem_cons_self ..) rfl) ?_
                    refine W_lenO (List.mem_cons_of_mem _ (List.mem_cons_self ..)) rfl rfl Proofs.Tryd.runUnderlying36 rfl ?_
                    refine W_bin rfl rfl rfl rfl rfl ?_
                    refine W_move rfl rfl rfl ?_
                    cases hb679 : (decide (40 < (r649.2.nodes.length : Int)))
                    · refine W_move rfl rfl rfl ?_
                      refine W_bin rfl rfl rfl rfl rfl ?_
                      refine W_pick rfl rfl rfl rfl ?_
                      refine W_assign rfl rfl rfl ?_
                      refine W_end ?_
                      exact E_keepJ (J663 _ _ _ ⟨rfl, rfl, rfl⟩) (List.Perm.refl _) ⟨rfl, rfl, rfl, rfl, rfl, rfl, (by show some (Value.bool (decide (24 ≤ (k113 : Int)))) = some (Value.bool ((decide (40 < (r649.2.nodes.length : Int))) || (decide (24 ≤ (k113 : Int))))); simp only [hb101, hb102, hb112, hb530, hb661, hb679, Bool.and_true, Bool.true_and, Bool.false_and, Bool.and_false, Bool.or_true, Bool.true_or, Bool.or_false, Bool.false_or, Bool.not_true, Bool.not_false]), trivial⟩
                    · refine W_no rfl rfl rfl ?_
                      refine W_no rfl rfl rfl ?_
                      refine W_pick rfl rfl rfl rfl ?_
                      refine W_assign rfl rfl rfl ?_
                      refine W_end ?_
                      exact E_keepJ (J663 _ _ _ ⟨rfl, rfl, rfl⟩) (List.Perm.refl _) ⟨rfl, rfl, rfl, rfl, rfl, rfl, (by show some (Value.bool (true)) = some (Value.bool ((decide (40 < (r649.2.nodes.length : Int))) || (decide (24 ≤ (k113 : Int))))); simp only [hb101, hb102, hb112, hb530, hb661, hb679, Bool.and_true, Bool.true_and, Bool.false_and, Bool.and_false, Bool.or_true, Bool.true_or, Bool.or_false, Bool.false_or, Bool.not_true, Bool.not_false]), trivial⟩
              · refine C_region ?_
                refine W_move rfl rfl rfl ?_
                refine W_nilCheck rfl rfl rfl ?_
                refine W_field (o := 2) rfl rfl Proofs.Tryd.runUnderlying91 rfl Proofs.Tryd.sizeOf4 rfl rfl rfl ?_
                refine W_load rfl rfl Proofs.Tryd.isAgg4 rfl (own_at (List.mem_cons_of_mem _ (List.mem_cons_self ..)) rfl) ?_
                refine W_move rfl rfl rfl ?_
                cases hb680 : (r649.2.bad)
                · refine W_move rfl rfl rfl ?_
                  refine W_nilCheck rfl rfl rfl ?_
                  refine W_field (o := 0) rfl rfl Proofs.Tryd.runUnderlying91 rfl Proofs.Tryd.sizeOf86 rfl rfl rfl ?_
                  refine W_load rfl rfl Proofs.Tryd.isAgg86 rfl (own_at (List.mem_cons_of_mem _ (List.mem_cons_self ..)) rfl) ?_
                  refine W_lenR rfl rfl Proofs.Tryd.runUnderlying86 rfl h653 ?_
                  refine W_bin rfl rfl rfl rfl rfl ?_
                  refine W_pick rfl rfl rfl rfl ?_
                  refine W_assign rfl rfl rfl ?_
                  refine W_end ?_
                  refine E_drop (List.Sublist.cons_cons _ (List.Sublist.cons _ (List.Sublist.refl _))) ?_
                  exact E_keepJ (J660 _ _ _ ⟨rfl, rfl, rfl⟩) (List.Perm.refl _) ⟨rfl, rfl, rfl, rfl, rfl, rfl, (by show some (Value.bool (decide (0 < (r649.2.words.length : Int)))) = some (Value.bool (r649.2.bad || (decide (0 < (r649.2.words.length : Int))))); simp only [hb101, hb102, hb112, hb530, hb680, Bool.and_true, Bool.true_and, Bool.false_and, Bool.and_false, Bool.or_true, Bool.true_or, Bool.or_false, Bool.false_or, Bool.not_true, Bool.not_false]), trivial⟩
                · refine W_no rfl rfl rfl ?_
                  refine W_no rfl rfl rfl ?_
                  refine W_no rfl rfl rfl ?_
                  refine W_no rfl rfl rfl ?_
                  refine W_no rfl rfl rfl ?_
                  refine W_no rfl rfl rfl ?_
                  refine W_pick rfl rfl rfl rfl ?_
                  refine W_assign rfl rfl rfl ?_
                  refine W_end ?_
                  refine E_drop (List.Sublist.cons_cons _ (List.Sublist.cons _ (List.Sublist.refl _))) ?_
                  exact E_keepJ (J660 _ _ _ ⟨rfl, rfl, rfl⟩) (List.Perm.refl _) ⟨rfl, rfl, rfl, rfl, rfl, rfl, (by show some (Value.bool (true)) = some (Value.bool (r649.2.bad || (decide (0 < (r649.2.words.length : Int))))); simp only [hb101, hb102, hb112, hb530, hb680, Bool.and_true, Bool.true_and, Bool.false_and, Bool.and_false, Bool.or_true, Bool.true_or, Bool.or_false, Bool.false_or, Bool.not_true, Bool.not_false]), trivial⟩
            · refine C_seq ?_
              refine C_region ?_
              refine W_move rfl rfl rfl ?_
              refine W_perm (List.Perm.trans (List.Perm.swap _ _ _) (List.Perm.cons _ (List.Perm.swap _ _ _))) ?_
              obtain ⟨r681, hc682, hm⟩ := bind_some hm
              refine W_call Proofs.Tryd.call47 rfl rfl rfl (fun w ht => by have h := m_interlock_parser_take_c (hm := hc682) h621 h624 ht; exact h) ?_
              rintro _ H689 _ ⟨hle690, v684, v686, xs687, rfl, rfl, h685, h688⟩
              refine W_un rfl rfl rfl rfl ?_
              refine W_end ?_
              refine E_then ?_
              refine C_cond (b := !r681.1) rfl (fun hb691 => ?_) (fun hb691 => ?_)
              · have hm := ite_t' hb691 hm
                refine C_region ?_
                refine W_move rfl rfl rfl ?_
                refine W_nilCheck rfl rfl rfl ?_
                refine W_field (o := 2) rfl rfl Proofs.Tryd.runUnderlying91 rfl Proofs.Tryd.sizeOf4 rfl rfl rfl ?_
                refine W_store (cs := [.bool (true)]) (out := [v684, v686, .bool (true)]) rfl Proofs.Tryd.sizeOf4 rfl rfl rfl rfl rfl (all_cons rfl all_nil) rfl ?_
                refine W_end ?_
                exact E_keepJ (J648 _ _ _ ⟨r681.2.words, r681.2.nodes, true, v684, v686, xs687, hm, h685, h688, hle690, rfl, rfl⟩) (List.Perm.trans (List.Perm.swap _ _ _) (List.Perm.cons _ (List.Perm.swap _ _ _))) ⟨rfl, rfl, rfl, rfl, rfl, rfl, rfl, trivial⟩
              · have hm := ite_f' hb691 hm
                refine C_skip ?_
                exact E_keepJ (J648 _ _ _ ⟨r681.2.words, r681.2.nodes, r681.2.bad, v684, v686, xs687, hm, h685, h688, hle690, rfl, rfl⟩) (List.Perm.trans (List.Perm.swap _ _ _) (List.Perm.cons _ (List.Perm.swap _ _ _))) ⟨rfl, rfl, rfl, rfl, rfl, rfl, rfl, trivial⟩
        · obtain rfl := rng_f hd506 hb508
          have hm : (some (l494, 0, 0)) = some r := hm
          refine C_exit (E_exit_then ?_)
          refine E_exit_then ?_
          refine E_exit_hit ?_
          refine E_then ?_
          refine C_seq ?_
          refine C_region ?_
          refine W_move rfl rfl rfl ?_
          refine W_assign rfl rfl rfl ?_
          refine W_assign rfl rfl rfl ?_
          refine W_assign rfl rfl rfl ?_
          refine W_end ?_
          refine E_then ?_
          refine C_ret ?_
          obtain rfl := Option.some.inj hm
          refine E_drop (List.Sublist.cons_cons _ (List.Sublist.cons _ (List.Sublist.refl _))) ?_
          exact end3 rfl rfl rfl rfl ⟨hle497, v492, xs493, rfl, rfl, hr495⟩
end Go.Sim
