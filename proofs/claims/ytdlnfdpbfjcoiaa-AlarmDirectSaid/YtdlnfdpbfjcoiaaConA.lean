/-
  Printed by a program: each Go function computes its model.
-/
import Derived.Test.YtdlnfdpbfjcoiaaConA1
namespace Go.Sim
open Go
set_option linter.unusedVariables false
set_option linter.unusedSimpArgs false
set_option maxRecDepth 100000
theorem m_gridhallkeep4_AlarmCovered_c {B : Nat} {w0 w : World} {H : Hp} {M : List Res} {causes : (List S_api_AlarmCause)} {p1_l : (List ByteArray)} {v0 : Value} {v1 : Value} {r : Bool} (hm : m_gridhallkeep4_AlarmCovered causes p1_l = some r) (h0 : RdS H v0 causes) (h1 : RdS H v1 p1_l) (ht : St B w0 H (M) w) :
    Calls Proofs.Try.prog 4 [v0, v1].toArray w (Ret B w0 fun H' M' v => H = H' ∧ M = M' ∧ .bool (r) = v) := by
  unfold m_gridhallkeep4_AlarmCovered at hm
  refine enter Proofs.Try.func4 rfl rfl rfl ht ?_
  refine C_seq ?_
  refine C_region ?_
  refine W_assign rfl rfl rfl ?_
  refine W_end ?_
  refine E_then ?_
  refine C_seq ?_
  refine C_region ?_
  refine W_move rfl rfl rfl ?_
  refine W_move rfl rfl rfl ?_
  refine W_lenR rfl rfl Proofs.Try.runUnderlying23 rfl h1 ?_
  refine W_min rfl rfl rfl rfl ?_
  obtain ⟨hz101, hm⟩ := need_some hm
  refine W_sliceR (α := ByteArray) (l := 0) (h := (min (p1_l.length : Int) 10 : Int).toNat) (xs := p1_l) rfl rfl Proofs.Try.runUnderlying23 Proofs.Try.sizeOf9 rfl h1 (by omega) (by omega) (.inl rfl) (fun cap hcap => by rw [if_pos rfl]; exact (.inl ⟨rfl, rfl⟩)) (fun m hmm => (.inr ⟨_, _, _, rfl, rfl, by omega, by omega, rfl⟩)) (.inl ⟨rfl, rfl⟩) ?_
  intro v102 h103 hc104
  refine W_assign rfl rfl rfl ?_
  refine W_end ?_
  refine E_then ?_
  refine C_seq ?_
  refine C_region ?_
  refine W_move rfl rfl rfl ?_
  refine W_move rfl rfl rfl ?_
  obtain ⟨r105, hc106, hm⟩ := bind_some hm
  refine W_call Proofs.Try.call10 rfl rfl rfl (fun w ht => by have h := m_alarm_Causes_c (hm := hc106) h0 h103 ht; exact h) ?_
  rintro _ _ _ ⟨rfl, v107, xs108, rfl, rfl, h109⟩
  have h109 := h109 H
  refine W_move rfl rfl rfl ?_
  refine W_extract rfl rfl rfl rfl ?_
  refine W_extract rfl rfl rfl rfl ?_
  refine W_assign rfl rfl rfl ?_
  refine W_assign rfl rfl rfl ?_
  refine W_end ?_
  refine E_then ?_
  refine C_seq ?_
  refine C_seq ?_
  refine C_region ?_
  refine W_move rfl rfl rfl ?_
  refine W_bin rfl rfl rfl rfl rfl ?_
  refine W_end ?_
  refine E_then ?_
  refine C_cond (b := !decide (r105.2 = 0)) rfl (fun hb110 => ?_) (fun hb110 => ?_)
  · have hm := ite_t' hb110 hm
    obtain ⟨r114, hc115, hm⟩ := bind_some hm
    refine C_seq_join (fun H' M' L' => H = H' ∧ M = M' ∧ [(4, .bool (r114 && (decide ((r105.1.length : Int) = 0))))] = L') ?_ (fun J116 => ?_)
    · rintro _ _ _ ⟨rfl, rfl, rfl⟩
      refine C_ret ?_
      refine E_ret_then ?_
      obtain rfl := Option.some.inj hm
      refine E_weak (Hp.le_refl _) ?_
      exact end1 rfl rfl ⟨rfl, rfl, rfl⟩
    · refine C_region ?_
      refine W_call Proofs.Try.call6 rfl rfl rfl (fun w ht => by have h := m_gridhallkeep4_alarmFact_c (hm := hc115)  ht; exact h) ?_
      rintro _ _ _ ⟨rfl, rfl, rfl⟩
      refine W_move rfl rfl rfl ?_
      cases hb117 : (r114)
      · refine W_no rfl rfl rfl ?_
        refine W_no rfl rfl rfl ?_
        refine W_no rfl rfl rfl ?_
        refine W_pick rfl rfl rfl rfl ?_
        refine W_assign rfl rfl rfl ?_
        refine W_end ?_
        refine E_drop (List.Sublist.cons _ (List.Sublist.refl _)) ?_
        exact E_keepJ (J116 _ _ _ ⟨rfl, rfl, rfl⟩) (List.Perm.refl _) ⟨(by show some (Value.bool (false)) = some (Value.bool (r114 && (decide ((r105.1.length : Int) = 0)))); simp only [hb110, hb117, Bool.and_true, Bool.true_and, Bool.false_and, Bool.and_false, Bool.or_true, Bool.true_or, Bool.or_false, Bool.false_or, Bool.not_true, Bool.not_false]), trivial⟩
      · refine W_move rfl rfl rfl ?_
        refine W_lenO (List.mem_cons_self ..) rfl rfl Proofs.Try.runUnderlying23 rfl ?_
        refine W_bin rfl rfl rfl rfl rfl ?_
        refine W_pick rfl rfl rfl rfl ?_
        refine W_assign rfl rfl rfl ?_
        refine W_end ?_
        refine E_drop (List.Sublist.cons _ (List.Sublist.refl _)) ?_
        exact E_keepJ (J116 _ _ _ ⟨rfl, rfl, rfl⟩) (List.Perm.refl _) ⟨(by show some (Value.bool (decide ((r105.1.length : Int) = 0))) = some (Value.bool (r114 && (decide ((r105.1.length : Int) = 0)))); simp only [hb110, hb117, Bool.and_true, Bool.true_and, Bool.false_and, Bool.and_false, Bool.or_true, Bool.true_or, Bool.or_false, Bool.false_or, Bool.not_true, Bool.not_false]), trivial⟩
  · have hm := ite_f' hb110 hm
    refine C_skip ?_
    refine E_then ?_
    refine C_seq ?_
    refine C_seq ?_
    refine C_region ?_
    refine W_move rfl rfl rfl ?_
    refine W_lenR rfl rfl Proofs.Try.runUnderlying23 rfl h103 ?_
    refine W_move rfl rfl rfl ?_
    refine W_end ?_
    refine E_then ?_
    refine C_block ?_
    refine C_keep (L' := [(0, v0), (1, v102), (5, v107), (32, v102), (33, .int .i64 (((slc p1_l 0 ((min (p1_l.length : Int) 10 : Int).toNat)).length : Int))), (34, .int .i64 (((0 : Nat) : Int)))]) ⟨rfl, rfl, rfl, rfl, rfl, rfl, trivial⟩ (List.Perm.refl _) ?_
    refine C_loop (fun n H' M' L' => ∃ (k118 : Nat) (zs222' : List ByteArray), (slc p1_l 0 ((min (p1_l.length : Int) 10 : Int).toNat)).drop k118 = zs222' ∧ zs222'.length = n ∧ forI (fun k y s217 n => m_gridhallkeep4_AlarmCovered_b3 causes p1_l r105 k y n) (fun _ => (m_gridhallkeep4_alarmFact).bind fun r273 => some r273) k118 zs222' () = some r ∧ H.le H' ∧ .row v107 9 (Rep.sz ByteArray) r105.1.length xs108 :: M = M' ∧ [(0, v0), (1, v102), (5, v107), (32, v102), (33, .int .i64 (((slc p1_l 0 ((min (p1_l.length : Int) 10 : Int).toNat)).length : Int))), (34, .int .i64 ((k118 : Int)))] = L') _ ⟨0, _, rfl, rfl, hm, (Hp.le_refl _), rfl, rfl⟩ ?_
    rintro _ H215 _ _ ⟨k118, zs222', hd224, rfl, hm, hle216, rfl, rfl⟩
    refine C_seq ?_
    refine C_region ?_
    refine W_bin rfl rfl rfl rfl rfl ?_
    refine W_end (E_then ?_)
    refine C_seq ?_
    refine C_cond (b := decide ((k118 : Int) < ((slc p1_l 0 ((min (p1_l.length : Int) 10 : Int).toNat)).length : Int))) rfl (fun hb226 => ?_) (fun hb226 => ?_)
    · obtain ⟨y221, zs222, rfl, hy223, hd225⟩ := rng_t hd224 hb226
      have hm : m_gridhallkeep4_AlarmCovered_b3 causes p1_l r105 k118 y221 (forI (fun k y s217 n => m_gridhallkeep4_AlarmCovered_b3 causes p1_l r105 k y n) (fun _ => (m_gridhallkeep4_alarmFact).bind fun r273 => some r273) (k118 + 1) zs222) = some r := hm
      generalize hn219 : forI (fun k y s217 n => m_gridhallkeep4_AlarmCovered_b3 causes p1_l r105 k y n) (fun _ => (m_gridhallkeep4_alarmFact).bind fun r273 => some r273) (k118 + 1) zs222 = nx218 at hm
      unfold m_gridhallkeep4_AlarmCovered_b3 at hm
      refine C_skip (E_then ?_)
      refine C_seq ?_
      refine C_block ?_
      refine C_seq ?_
      refine C_region ?_
      obtain ⟨_, rfl, hc227⟩ := (h103).elem hy223
      refine W_indexS rfl rfl Proofs.Try.runUnderlying23 Proofs.Try.sizeOf9 rfl (h103.mono hle216) rfl (Int.natCast_nonneg _) hy223 ?_
      refine W_load rfl rfl Proofs.Try.isAgg9 rfl (HCells.one (hc227.mono hle216) 0 rfl).at ?_
      refine W_assign rfl rfl rfl ?_
      refine W_end ?_
      refine E_then ?_
      refine C_seq ?_
      refine C_region ?_
      refine W_move rfl rfl rfl ?_
      refine W_move rfl rfl rfl ?_
      refine W_move rfl rfl rfl ?_
      obtain ⟨r228, hc229, hm⟩ := bind_some hm
      refine W_call Proofs.Try.call8 rfl rfl rfl (fun w ht => by have h := m_alarm_Explain_c (hm := hc229) (h0.mono hle216) (h103.mono hle216) ht; exact h) ?_
      rintro _ _ _ ⟨rfl, v230, xs231, rfl, rfl, h232⟩
      have h232 := h232 H215
      refine W_move rfl rfl rfl ?_
      refine W_extract rfl rfl rfl rfl ?_
      refine W_extract rfl rfl rfl rfl ?_
      refine W_assign rfl rfl rfl ?_
      refine W_assign rfl rfl rfl ?_
      refine W_end ?_
      refine E_then ?_
      refine C_seq ?_
      refine C_seq ?_
      refine C_region ?_
      refine W_move rfl rfl rfl ?_
      refine W_bin rfl rfl rfl rfl rfl ?_
      refine W_move rfl rfl rfl ?_
      cases hb233 : (decide (r228.2 = 0))
      · have hm := ite_f' hb233 hm
        refine W_no rfl rfl rfl ?_
        refine W_no rfl rfl rfl ?_
        refine W_no rfl rfl rfl ?_
        refine W_pick rfl rfl rfl rfl ?_
        refine W_move rfl rfl rfl ?_
        refine W_no rfl rfl rfl ?_
        refine W_no rfl rfl rfl ?_
        refine W_no rfl rfl rfl ?_
        refine W_pick rfl rfl rfl rfl ?_
        refine W_end ?_
        refine E_then ?_
        refine C_cond (b := true) rfl (fun _ => ?_) (fun hb => Bool.noConfusion hb)
        refine C_seq ?_
        refine C_region ?_
        refine W_assign rfl rfl rfl ?_
        refine W_end ?_
        refine E_then ?_
        refine C_ret ?_
        refine E_ret_then ?_
        refine E_ret_block ?_
        refine E_ret_then ?_
        refine E_ret_then ?_
        refine E_ret_block ?_
        refine E_ret_then ?_
        obtain rfl := Option.some.inj hm
        refine E_drop (List.Sublist.cons _ (List.Sublist.cons _ (List.Sublist.refl _))) ?_
        refine E_weak hle216 ?_
        exact end1 rfl rfl ⟨rfl, rfl, rfl⟩
      · have hm := ite_t' hb233 hm
        refine W_move rfl rfl rfl ?_
        refine W_lenO (List.mem_cons_self ..) rfl rfl Proofs.Try.runUnderlying23 rfl ?_
        refine W_bin rfl rfl rfl rfl rfl ?_
        refine W_pick rfl rfl rfl rfl ?_
        refine W_move rfl rfl rfl ?_
        cases hb234 : (decide ((r228.1.length : Int) = 0))
        · have hm := ite_f' hb234 hm
          refine W_move rfl rfl rfl ?_
          obtain ⟨r235, hc236, hm⟩ := bind_some hm
          refine W_call Proofs.Try.call11 rfl rfl rfl (fun w ht => by obtain ⟨H0_, hl0_, ht0_, hr0_, bk0_⟩ := ht.lendRow h232 rfl; have h := m_slices_IsSorted_string_string_c (hm := hc236) hr0_ ht0_; exact lend_back bk0_ (h)) ?_
          rintro _ _ _ ⟨rfl, ⟨_, rfl, rfl, rfl⟩⟩
          refine W_un rfl rfl rfl rfl ?_
          refine W_pick rfl rfl rfl rfl ?_
          refine W_end ?_
          refine E_then ?_
          refine C_cond (b := !r235) rfl (fun hb237 => ?_) (fun hb237 => ?_)
          · have hm := ite_t' hb237 hm
            refine C_seq ?_
            refine C_region ?_
            refine W_assign rfl rfl rfl ?_
            refine W_end ?_
            refine E_then ?_
            refine C_ret ?_
            refine E_ret_then ?_
            refine E_ret_block ?_
            refine E_ret_then ?_
            refine E_ret_then ?_
            refine E_ret_block ?_
            refine E_ret_then ?_
            obtain rfl := Option.some.inj hm
            refine E_drop (List.Sublist.cons _ (List.Sublist.cons _ (List.Sublist.refl _))) ?_
            refine E_weak hle216 ?_
            exact end1 rfl rfl ⟨rfl, rfl, rfl⟩
          · have hm := ite_f' hb237 hm
            refine C_skip ?_
            refine E_then ?_
            refine C_seq ?_
            refine C_seq ?_
            refine C_region ?_
            refine W_move rfl rfl rfl ?_
            refine W_lenO (List.mem_cons_self ..) rfl rfl Proofs.Try.runUnderlying23 rfl ?_
            refine W_move rfl rfl rfl ?_
            refine W_end ?_
            refine E_then ?_
            refine C_block ?_
            refine C_rowMax (List.mem_cons_self ..) (fun hmx253 => ?_)
            refine C_keep (L' := [(0, v0), (1, v102), (5, v107), (8, .string (y221)), (9, v230), (32, v102), (33, .int .i64 (((slc p1_l 0 ((min (p1_l.length : Int) 10 : Int).toNat)).length : Int))), (34, .int .i64 ((k118 : Int))), (57, v230), (58, .int .i64 ((r228.1.length : Int))), (59, .int .i64 (((0 : Nat) : Int)))]) ⟨rfl, rfl, rfl, rfl, rfl, rfl, rfl, rfl, rfl, rfl, rfl, trivial⟩ (List.Perm.refl _) ?_
            refine C_loop (fun n H' M' L' => ∃ (k238 : Nat) (zs255' : List ByteArray), (r228.1).drop k238 = zs255' ∧ zs255'.length = n ∧ forI (fun k y s249 n => m_gridhallkeep4_AlarmCovered_b4 r105 k y n) (fun _ => (m_slices_Contains_string_string r105.1 y221).bind fun r264 => if r264 then ((m_slices_Equal_string_string r228.1 ([y221])).bind fun r270 => if !r270 then (some false) else (nx218 ())) else (nx218 ())) k238 zs255' () = some r ∧ H215.le H' ∧ .row v230 9 (Rep.sz ByteArray) r228.1.length xs231 :: .row v107 9 (Rep.sz ByteArray) r105.1.length xs108 :: M = M' ∧ [(0, v0), (1, v102), (5, v107), (8, .string (y221)), (9, v230), (32, v102), (33, .int .i64 (((slc p1_l 0 ((min (p1_l.length : Int) 10 : Int).toNat)).length : Int))), (34, .int .i64 ((k118 : Int))), (57, v230), (58, .int .i64 ((r228.1.length : Int))), (59, .int .i64 ((k238 : Int)))] = L') _ ⟨0, _, rfl, rfl, hm, (Hp.le_refl _), rfl, rfl⟩ ?_
            rintro _ H247 _ _ ⟨k238, zs255', hd257, rfl, hm, hle248, rfl, rfl⟩
            refine C_seq ?_
            refine C_region ?_
            refine W_bin rfl rfl rfl rfl rfl ?_
            refine W_end (E_then ?_)
            refine C_seq ?_
            refine C_cond (b := decide ((k238 : Int) < (r228.1.length : Int))) rfl (fun hb259 => ?_) (fun hb259 => ?_)
            · obtain ⟨y254, zs255, rfl, hy256, hd258⟩ := rng_t hd257 hb259
              have hm : m_gridhallkeep4_AlarmCovered_b4 r105 k238 y254 (forI (fun k y s249 n => m_gridhallkeep4_AlarmCovered_b4 r105 k y n) (fun _ => (m_slices_Contains_string_string r105.1 y221).bind fun r264 => if r264 then ((m_slices_Equal_string_string r228.1 ([y221])).bind fun r270 => if !r270 then (some false) else (nx218 ())) else (nx218 ())) (k238 + 1) zs255) = some r := hm
              generalize hn251 : forI (fun k y s249 n => m_gridhallkeep4_AlarmCovered_b4 r105 k y n) (fun _ => (m_slices_Contains_string_string r105.1 y221).bind fun r264 => if r264 then ((m_slices_Equal_string_string r228.1 ([y221])).bind fun r270 => if !r270 then (some false) else (nx218 ())) else (nx218 ())) (k238 + 1) zs255 = nx250 at hm
              unfold m_gridhallkeep4_AlarmCovered_b4 at hm
              refine C_skip (E_then ?_)
              refine C_seq ?_
              refine C_block ?_
              refine C_seq ?_
              refine C_region ?_
              refine W_indexO (List.mem_cons_self ..) rfl rfl Proofs.Try.runUnderlying23 Proofs.Try.sizeOf9 rfl rfl (Int.natCast_nonneg _) (List.getElem?_eq_some_iff.1 hy256).1 ?_
              obtain ⟨_, rfl, hg260⟩ := (h232).elem hy256
              refine W_load rfl rfl Proofs.Try.isAgg9 rfl (row_one0 (List.mem_cons_self ..) hg260 rfl) ?_
              refine W_assign rfl rfl rfl ?_
              refine W_end ?_
              refine E_then ?_
              refine C_seq ?_
              refine C_region ?_
              refine W_move rfl rfl rfl ?_
              refine W_move rfl rfl rfl ?_
              refine W_perm (List.Perm.swap _ _ _) ?_
              obtain ⟨r261, hc262, hm⟩ := bind_some hm
              refine W_call Proofs.Try.call9 rfl rfl rfl (fun w ht => by obtain ⟨H0_, hl0_, ht0_, hr0_, bk0_⟩ := ht.lendRow ((h109.mono hle216).mono hle248) rfl; have h := m_slices_Contains_string_string_c (hm := hc262) hr0_ ht0_; exact lend_back bk0_ (h)) ?_
              rintro _ _ _ ⟨rfl, ⟨_, rfl, rfl, rfl⟩⟩
              refine W_un rfl rfl rfl rfl ?_
              refine W_end ?_
              refine E_then ?_
              refine C_cond (b := !r261) rfl (fun hb263 => ?_) (fun hb263 => ?_)
              · have hm := ite_t' hb263 hm
                refine C_seq ?_
                refine C_region ?_
                refine W_assign rfl rfl rfl ?_
                refine W_end ?_
                refine E_then ?_
                refine C_ret ?_
                refine E_ret_block ?_
                refine E_ret_then ?_
                refine E_ret_then ?_
                refine E_ret_block ?_
                refine E_ret_then ?_
                refine E_ret_block ?_
                refine E_ret_then ?_
                refine E_ret_then ?_
                refine E_ret_block ?_
                refine E_ret_then ?_
                obtain rfl := Option.some.inj hm
                refine E_drop (List.Sublist.cons _ (List.Sublist.cons _ (List.Sublist.refl _))) ?_
                refine E_weak (Hp.le_trans hle216 hle248) ?_
                exact end1 rfl rfl ⟨rfl, rfl, rfl⟩
              · have hm := ite_f' hb263 hm
                refine C_skip ?_
                refine E_normal_block ?_
                refine E_then ?_
                refine C_region ?_
                refine W_bin rfl rfl rfl rfl rfl ?_
                refine W_move rfl rfl rfl ?_
                refine W_end ?_
                exact E_keepJ (E_back (Nat.lt_succ_self _) ⟨k238 + 1, zs255, hd258, rfl, (by rw [hn251]; exact hm), hle248, rfl, rfl⟩) (List.Perm.swap _ _ _) ⟨rfl, rfl, rfl, rfl, rfl, rfl, rfl, rfl, rfl, rfl, (congrArg (fun z => some (Value.int .i64 z)) (i64_succ hy256 hmx253)), trivial⟩
            · obtain rfl := rng_f hd257 hb259
              have hm : ((m_slices_Contains_string_string r105.1 y221).bind fun r264 => if r264 then ((m_slices_Equal_string_string r228.1 ([y221])).bind fun r270 => if !r270 then (some false) else (nx218 ())) else (nx218 ())) = some r := hm
              refine C_exit (E_exit_then ?_)
              refine E_exit_then ?_
              refine E_exit_hit ?_
              refine E_then ?_
              refine C_seq ?_
              refine C_region ?_
              refine W_move rfl rfl rfl ?_
              refine W_move rfl rfl rfl ?_
              refine W_perm (List.Perm.swap _ _ _) ?_
              obtain ⟨r264, hc265, hm⟩ := bind_some hm
              refine W_call Proofs.Try.call9 rfl rfl rfl (fun w ht => by obtain ⟨H0_, hl0_, ht0_, hr0_, bk0_⟩ := ht.lendRow ((h109.mono hle216).mono hle248) rfl; have h := m_slices_Contains_string_string_c (hm := hc265) hr0_ ht0_; exact lend_back bk0_ (h)) ?_
              rintro _ _ _ ⟨rfl, ⟨_, rfl, rfl, rfl⟩⟩
              refine W_move rfl rfl rfl ?_
              cases hb266 : (r264)
              · have hm := ite_f' hb266 hm
                refine W_no rfl rfl rfl ?_
                refine W_no rfl rfl rfl ?_
                refine W_no rfl rfl rfl ?_
                refine W_no rfl rfl rfl ?_
                refine W_no rfl rfl rfl ?_
                refine W_pick rfl rfl rfl rfl ?_
                refine W_end ?_
                refine E_then ?_
                refine C_cond (b := false) rfl (fun hb => Bool.noConfusion hb) (fun _ => ?_)
                refine C_skip ?_
                refine E_normal_block ?_
                refine E_then ?_
                refine C_region ?_
                refine W_bin rfl rfl rfl rfl rfl ?_
                refine W_move rfl rfl rfl ?_
                refine W_end ?_
                refine E_drop (List.Sublist.cons_cons _ (List.Sublist.cons _ (List.Sublist.refl _))) ?_
                exact E_keepJ (E_back (Nat.lt_succ_self _) ⟨k118 + 1, zs222, hd225, rfl, (by rw [hn219]; exact hm), (Hp.le_trans hle216 hle248), rfl, rfl⟩) (List.Perm.refl _) ⟨rfl, rfl, rfl, rfl, rfl, (congrArg (fun z => some (Value.int .i64 z)) (i64_succ hy223 ((h103.mono hle216)).lenMax)), trivial⟩
              · have hm := ite_t' hb266 hm
                refine W_move rfl rfl rfl ?_
                refine W_move rfl rfl rfl ?_
                refine W_buildSliceO (α := ByteArray) (css := [[.string (y221)]]) (zs := [.string (⟨#[]⟩)]) (out := [.string (y221)]) (ys := [y221]) rfl rfl rfl ⟨rfl, trivial⟩ Proofs.Try.runUnderlying23 Proofs.Try.sizeOf9 rfl Proofs.Try.zeroValue9 (by kernel_rfl) rfl rfl rfl rfl ⟨[.string (y221)], [], rfl, rfl, rfl⟩ rfl ?_
                intro v267 xs268 hr269
                refine W_perm (List.Perm.trans (List.Perm.cons _ (List.Perm.swap _ _ _)) (List.Perm.swap _ _ _)) ?_
                obtain ⟨r270, hc271, hm⟩ := bind_some hm
                refine W_call Proofs.Try.call12 rfl rfl rfl (fun w ht => by obtain ⟨H0_, hl0_, ht0_, hr0_, bk0_⟩ := ht.lendRow (h232.mono hle248) rfl; obtain ⟨H1_, hl1_, ht1_, hr1_, bk1_⟩ := ht0_.lendRow (hr269.mono hl0_) rfl; have h := m_slices_Equal_string_string_c (hm := hc271) (hr0_.mono hl1_) hr1_ ht1_; exact lend_back bk0_ (lend_back bk1_ (h))) ?_
                rintro _ _ _ ⟨rfl, ⟨_, rfl, ⟨_, rfl, rfl, rfl⟩⟩⟩
                refine W_un rfl rfl rfl rfl ?_
                refine W_pick rfl rfl rfl rfl ?_
                refine W_end ?_
                refine E_then ?_
                refine C_cond (b := !r270) rfl (fun hb272 => ?_) (fun hb272 => ?_)
                · have hm := ite_t' hb272 hm
                  refine C_seq ?_
                  refine C_region ?_
                  refine W_assign rfl rfl rfl ?_
                  refine W_end ?_
                  refine E_then ?_
                  refine C_ret ?_
                  refine E_ret_block ?_
                  refine E_ret_then ?_
                  refine E_ret_then ?_
                  refine E_ret_block ?_
                  refine E_ret_then ?_
                  obtain rfl := Option.some.inj hm
                  refine E_drop (List.Sublist.cons _ (List.Sublist.cons _ (List.Sublist.cons _ (List.Sublist.refl _)))) ?_
                  refine E_weak (Hp.le_trans hle216 hle248) ?_
                  exact end1 rfl rfl ⟨rfl, rfl, rfl⟩
                · have hm := ite_f' hb272 hm
                  refine C_skip ?_
                  refine E_normal_block ?_
                  refine E_then ?_
                  refine C_region ?_
                  refine W_bin rfl rfl rfl rfl rfl ?_
                  refine W_move rfl rfl rfl ?_
                  refine W_end ?_
                  refine E_drop (List.Sublist.cons _ (List.Sublist.cons _ (List.Sublist.refl _))) ?_
                  exact E_keepJ (E_back (Nat.lt_succ_self _) ⟨k118 + 1, zs222, hd225, rfl, (by rw [hn219]; exact hm), (Hp.le_trans hle216 hle248), rfl, rfl⟩) (List.Perm.refl _) ⟨rfl, rfl, rfl, rfl, rfl, (congrArg (fun z => some (Value.int .i64 z)) (i64_succ hy223 ((h103.mono hle216)).lenMax)), trivial⟩
        · have hm := ite_t' hb234 hm
          refine W_no rfl rfl rfl ?_
          refine W_no rfl rfl rfl ?_
          refine W_no rfl rfl rfl ?_
          refine W_pick rfl rfl rfl rfl ?_
          refine W_end ?_
          refine E_then ?_
          refine C_cond (b := true) rfl (fun _ => ?_) (fun hb => Bool.noConfusion hb)
          refine C_seq ?_
          refine C_region ?_
          refine W_assign rfl rfl rfl ?_
          refine W_end ?_
          refine E_then ?_
          refine C_ret ?_
          refine E_ret_then ?_
          refine E_ret_block ?_
          refine E_ret_then ?_
          refine E_ret_then ?_
          refine E_ret_block ?_
          refine E_ret_then ?_
          obtain rfl := Option.some.inj hm
          refine E_drop (List.Sublist.cons _ (List.Sublist.cons _ (List.Sublist.refl _))) ?_
          refine E_weak hle216 ?_
          exact end1 rfl rfl ⟨rfl, rfl, rfl⟩
    · obtain rfl := rng_f hd224 hb226
      have hm : ((m_gridhallkeep4_alarmFact).bind fun r273 => some r273) = some r := hm
      refine C_exit (E_exit_then ?_)
      refine E_exit_then ?_
      refine E_exit_hit ?_
      refine E_then ?_
      refine C_seq ?_
      refine C_region ?_
      obtain ⟨r273, hc274, hm⟩ := bind_some hm
      refine W_call Proofs.Try.call6 rfl rfl rfl (fun w ht => by have h := m_gridhallkeep4_alarmFact_c (hm := hc274)  ht; exact h) ?_
      rintro _ _ _ ⟨rfl, rfl, rfl⟩
      refine W_assign rfl rfl rfl ?_
      refine W_end ?_
      refine E_then ?_
      refine C_ret ?_
      obtain rfl := Option.some.inj hm
      refine E_drop (List.Sublist.cons _ (List.Sublist.refl _)) ?_
      refine E_weak hle216 ?_
      exact end1 rfl rfl ⟨rfl, rfl, rfl⟩
end Go.Sim
