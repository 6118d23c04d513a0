/-
  Printed by a program: each Go function computes its model.
-/
import Derived.Test.YthcolhlbmcbdjaaConT1
namespace Go.Sim
open Go
set_option linter.unusedVariables false
set_option linter.unusedSimpArgs false
set_option maxRecDepth 100000
theorem m_gridhallkeep4_TelemetryAges_c {B : Nat} {w0 w : World} {H : Hp} {M : List Res} {age : Int} {p1_l : (List S_api_TelemetryMsg)} {now : Int} {later : Int} {v0 : Value} {r : Bool} (hm : m_gridhallkeep4_TelemetryAges age p1_l now later = some r) (h0 : RdS H v0 p1_l) (ht : St B w0 H (M) w) :
    Calls Proofs.Try.prog 4 [.int .i64 (age), v0, .int .i64 (now), .int .i64 (later)].toArray w (Ret B w0 fun H' M' v => H = H' ∧ M = M' ∧ .bool (r) = v) := by
  unfold m_gridhallkeep4_TelemetryAges at hm
  refine enter Proofs.Try.func4 rfl rfl rfl ht ?_
  refine C_seq ?_
  refine C_region ?_
  refine W_assign rfl rfl rfl ?_
  refine W_end ?_
  refine E_then ?_
  refine C_seq ?_
  refine C_region ?_
  refine W_move rfl rfl rfl ?_
  refine W_call Proofs.Try.call10 rfl rfl rfl (fun w ht => by have h := m_telemetry_New_c (hm := (rfl : m_telemetry_New age = _))  ht; exact h) ?_
  rintro _ H112 _ (⟨hn106, hle108, rfl, rfl⟩ | ⟨sp101, hn109, hle111, b102, v103, xs104, rfl, rfl, h105⟩)
  · have hm := optC_n hn106 hm
    refine W_move rfl rfl rfl ?_
    refine W_extract rfl rfl rfl rfl ?_
    refine W_extract rfl rfl rfl rfl ?_
    refine W_assign rfl rfl rfl ?_
    refine W_assign rfl rfl rfl ?_
    refine W_end ?_
    refine E_then ?_
    refine C_seq ?_
    refine C_seq_join (fun H' M' L' => H112 = H' ∧ M = M' ∧ [(0, .int .i64 (age)), (1, v0), (2, .int .i64 (now)), (3, .int .i64 (later)), (9, .pointer none), (31, .bool (true))] = L') ?_ (fun J114 => ?_)
    · rintro _ _ _ ⟨rfl, rfl, rfl⟩
      refine C_cond (b := true) rfl (fun _ => ?_) (fun hb => Bool.noConfusion hb)
      obtain ⟨r118, hc119, hm⟩ := bind_some hm
      refine C_seq_join (fun H' M' L' => H112 = H' ∧ M = M' ∧ [(8, .bool (r118))] = L') ?_ (fun J120 => ?_)
      · rintro _ _ _ ⟨rfl, rfl, rfl⟩
        refine C_ret ?_
        refine E_ret_then ?_
        obtain rfl := Option.some.inj hm
        refine E_weak hle108 ?_
        exact end1 rfl rfl ⟨rfl, rfl, rfl⟩
      · refine C_region ?_
        refine W_call Proofs.Try.call11 rfl rfl rfl (fun w ht => by have h := m_gridhallkeep4_telemetryFact_c (hm := hc119)  ht; exact h) ?_
        rintro _ _ _ ⟨rfl, rfl, rfl⟩
        refine W_move rfl rfl rfl ?_
        cases hb121 : (r118)
        · refine W_no rfl rfl rfl ?_
          refine W_no rfl rfl rfl ?_
          refine W_pick rfl rfl rfl rfl ?_
          refine W_assign rfl rfl rfl ?_
          refine W_end ?_
          exact E_keepJ (J120 _ _ _ ⟨rfl, rfl, rfl⟩) (List.Perm.refl _) ⟨(by show some (Value.bool (false)) = some (Value.bool (r118)); simp only [hb121, Bool.and_true, Bool.true_and, Bool.false_and, Bool.and_false, Bool.or_true, Bool.true_or, Bool.or_false, Bool.false_or, Bool.not_true, Bool.not_false]), trivial⟩
        · refine W_move rfl rfl rfl ?_
          refine W_ptrNil rfl rfl Proofs.Try.runUnderlying29 rfl rfl ?_
          refine W_pick rfl rfl rfl rfl ?_
          refine W_assign rfl rfl rfl ?_
          refine W_end ?_
          exact E_keepJ (J120 _ _ _ ⟨rfl, rfl, rfl⟩) (List.Perm.refl _) ⟨(by show some (Value.bool (true)) = some (Value.bool (r118)); simp only [hb121, Bool.and_true, Bool.true_and, Bool.false_and, Bool.and_false, Bool.or_true, Bool.true_or, Bool.or_false, Bool.false_or, Bool.not_true, Bool.not_false]), trivial⟩
    · refine C_region ?_
      refine W_move rfl rfl rfl ?_
      refine W_bin rfl rfl rfl rfl rfl ?_
      refine W_move rfl rfl rfl ?_
      cases hb122 : (decide ((((m_telemetry_New age)).2) = 0))
      · refine W_no rfl rfl rfl ?_
        refine W_no rfl rfl rfl ?_
        refine W_pick rfl rfl rfl rfl ?_
        refine W_end ?_
        exact E_keepJ (J114 _ _ _ ⟨rfl, rfl, rfl⟩) (List.Perm.refl _) ⟨rfl, rfl, rfl, rfl, rfl, rfl, trivial⟩
      · refine W_move rfl rfl rfl ?_
        refine W_ptrNil rfl rfl Proofs.Try.runUnderlying29 rfl rfl ?_
        refine W_pick rfl rfl rfl rfl ?_
        refine W_end ?_
        exact E_keepJ (J114 _ _ _ ⟨rfl, rfl, rfl⟩) (List.Perm.refl _) ⟨rfl, rfl, rfl, rfl, rfl, rfl, trivial⟩
  · have hm := optC_s hn109 hm
    refine W_move rfl rfl rfl ?_
    refine W_extract rfl rfl rfl rfl ?_
    refine W_extract rfl rfl rfl rfl ?_
    refine W_assign rfl rfl rfl ?_
    refine W_assign rfl rfl rfl ?_
    refine W_end ?_
    refine E_then ?_
    refine C_seq ?_
    refine C_seq_join (fun H' M' L' => H112 = H' ∧ .obj b102 (.cells [.int .i64 (sp101.age), v103].toArray 53 (0, 0)) :: .row v103 57 (Rep.sz S_telemetry_point) sp101.all_.length xs104 :: M = M' ∧ [(0, .int .i64 (age)), (1, v0), (2, .int .i64 (now)), (3, .int .i64 (later)), (9, .pointer (some ⟨b102, 0, none⟩)), (31, .bool (!decide ((((m_telemetry_New age)).2) = 0)))] = L') ?_ (fun J124 => ?_)
    · rintro _ _ _ ⟨rfl, rfl, rfl⟩
      refine C_cond (b := !decide ((((m_telemetry_New age)).2) = 0)) rfl (fun hb125 => ?_) (fun hb125 => ?_)
      · have hm := ite_t' hb125 hm
        obtain ⟨r129, hc130, hm⟩ := bind_some hm
        refine C_seq_join (fun H' M' L' => H112 = H' ∧ M = M' ∧ [(8, .bool (false))] = L') ?_ (fun J131 => ?_)
        · rintro _ _ _ ⟨rfl, rfl, rfl⟩
          refine C_ret ?_
          refine E_ret_then ?_
          obtain rfl := Option.some.inj hm
          refine E_weak hle111 ?_
          exact end1 rfl rfl ⟨rfl, rfl, rfl⟩
        · refine C_region ?_
          refine W_call Proofs.Try.call11 rfl rfl rfl (fun w ht => by have h := m_gridhallkeep4_telemetryFact_c (hm := hc130)  ht; exact h) ?_
          rintro _ _ _ ⟨rfl, rfl, rfl⟩
          refine W_move rfl rfl rfl ?_
          cases hb132 : (r129)
          · refine W_no rfl rfl rfl ?_
            refine W_no rfl rfl rfl ?_
            refine W_pick rfl rfl rfl rfl ?_
            refine W_assign rfl rfl rfl ?_
            refine W_end ?_
            refine E_drop (List.Sublist.cons _ (List.Sublist.cons _ (List.Sublist.refl _))) ?_
            exact E_keepJ (J131 _ _ _ ⟨rfl, rfl, rfl⟩) (List.Perm.refl _) ⟨rfl, trivial⟩
          · refine W_move rfl rfl rfl ?_
            refine W_ptrNil rfl rfl Proofs.Try.runUnderlying29 rfl rfl ?_
            refine W_pick rfl rfl rfl rfl ?_
            refine W_assign rfl rfl rfl ?_
            refine W_end ?_
            refine E_drop (List.Sublist.cons _ (List.Sublist.cons _ (List.Sublist.refl _))) ?_
            exact E_keepJ (J131 _ _ _ ⟨rfl, rfl, rfl⟩) (List.Perm.refl _) ⟨rfl, trivial⟩
      · have hm := ite_f' hb125 hm
        refine C_skip ?_
        refine E_then ?_
        refine C_seq ?_
        refine C_seq ?_
        refine C_region ?_
        refine W_move rfl rfl rfl ?_
        refine W_move rfl rfl rfl ?_
        refine W_lenR rfl rfl Proofs.Try.runUnderlying28 rfl (h0.mono hle111) ?_
        refine W_min rfl rfl rfl rfl ?_
        obtain ⟨hz133, hm⟩ := need_some hm
        refine W_sliceR (α := S_api_TelemetryMsg) (l := 0) (h := (min (p1_l.length : Int) 8 : Int).toNat) (xs := p1_l) rfl rfl Proofs.Try.runUnderlying28 Proofs.Try.sizeOf35 rfl (h0.mono hle111) (by omega) (by omega) (.inl rfl) (fun cap hcap => by rw [if_pos rfl]; exact (.inl ⟨rfl, rfl⟩)) (fun m hmm => (.inr ⟨_, _, _, rfl, rfl, by omega, by omega, rfl⟩)) (.inl ⟨rfl, rfl⟩) ?_
        intro v134 h135 hc136
        refine W_lenR rfl rfl Proofs.Try.runUnderlying28 rfl h135 ?_
        refine W_move rfl rfl rfl ?_
        refine W_end ?_
        refine E_then ?_
        refine C_block ?_
        refine C_keep (L' := [(0, .int .i64 (age)), (2, .int .i64 (now)), (3, .int .i64 (later)), (9, .pointer (some ⟨b102, 0, none⟩)), (41, v134), (42, .int .i64 (((slc p1_l 0 ((min (p1_l.length : Int) 8 : Int).toNat)).length : Int))), (43, .int .i64 (((0 : Nat) : Int)))]) ⟨rfl, rfl, rfl, rfl, rfl, rfl, rfl, trivial⟩ (List.Perm.swap _ _ _) ?_
        refine C_loop (fun n H' M' L' => ∃ (k137 : Nat) (zs176' : List S_api_TelemetryMsg), ∃ n164 : Int, ∃ l167 : List S_telemetry_point, ∃ v165 : Value, ∃ xs166 : List Value, (slc p1_l 0 ((min (p1_l.length : Int) 8 : Int).toNat)).drop k137 = zs176' ∧ zs176'.length = n ∧ forI (fun k y s171 n => m_gridhallkeep4_TelemetryAges_b1 age k y s171.1 s171.2 n) (fun s171 => (m_gridhallref4_Cut now 0 1000).bind fun r189 => (m_gridhallref4_Cut later 0 1000).bind fun r191 => (m_telemetry_Points_List (S_telemetry_Points.mk s171.1 s171.2)).bind fun r193 => forI (fun k y s241 n => m_gridhallkeep4_TelemetryAges_b2 age s171.1 s171.2 r189 r191 k y n) (fun _ => (m_gridhallkeep4_telemetryFact).bind fun r272 => some r272) 0 r193 ()) k137 zs176' (n164, l167) = some r ∧ Rw H' v165 xs166 l167 ∧ H112.le H' ∧ .row v165 57 (Rep.sz S_telemetry_point) l167.length xs166 :: .obj b102 (.cells [.int .i64 (n164), v165].toArray 53 (0, 0)) :: M = M' ∧ [(0, .int .i64 (age)), (2, .int .i64 (now)), (3, .int .i64 (later)), (9, .pointer (some ⟨b102, 0, none⟩)), (41, v134), (42, .int .i64 (((slc p1_l 0 ((min (p1_l.length : Int) 8 : Int).toNat)).length : Int))), (43, .int .i64 ((k137 : Int)))] = L') _ ⟨0, _, sp101.age, sp101.all_, v103, xs104, rfl, rfl, hm, h105, (Hp.le_refl _), rfl, rfl⟩ ?_
        rintro _ H169 _ _ ⟨k137, zs176', n164, l167, v165, xs166, hd178, rfl, hm, hr168, hle170, rfl, rfl⟩
        refine C_seq ?_
        refine C_region ?_
        refine W_bin rfl rfl rfl rfl rfl ?_
        refine W_end (E_then ?_)
        refine C_seq ?_
        refine C_cond (b := decide ((k137 : Int) < ((slc p1_l 0 ((min (p1_l.length : Int) 8 : Int).toNat)).length : Int))) rfl (fun hb180 => ?_) (fun hb180 => ?_)
        · obtain ⟨y175, zs176, rfl, hy177, hd179⟩ := rng_t hd178 hb180
          have hm : m_gridhallkeep4_TelemetryAges_b1 age k137 y175 n164 l167 (forI (fun k y s171 n => m_gridhallkeep4_TelemetryAges_b1 age k y s171.1 s171.2 n) (fun s171 => (m_gridhallref4_Cut now 0 1000).bind fun r189 => (m_gridhallref4_Cut later 0 1000).bind fun r191 => (m_telemetry_Points_List (S_telemetry_Points.mk s171.1 s171.2)).bind fun r193 => forI (fun k y s241 n => m_gridhallkeep4_TelemetryAges_b2 age s171.1 s171.2 r189 r191 k y n) (fun _ => (m_gridhallkeep4_telemetryFact).bind fun r272 => some r272) 0 r193 ()) (k137 + 1) zs176) = some r := hm
          generalize hn173 : forI (fun k y s171 n => m_gridhallkeep4_TelemetryAges_b1 age k y s171.1 s171.2 n) (fun s171 => (m_gridhallref4_Cut now 0 1000).bind fun r189 => (m_gridhallref4_Cut later 0 1000).bind fun r191 => (m_telemetry_Points_List (S_telemetry_Points.mk s171.1 s171.2)).bind fun r193 => forI (fun k y s241 n => m_gridhallkeep4_TelemetryAges_b2 age s171.1 s171.2 r189 r191 k y n) (fun _ => (m_gridhallkeep4_telemetryFact).bind fun r272 => some r272) 0 r193 ()) (k137 + 1) zs176 = nx172 at hm
          unfold m_gridhallkeep4_TelemetryAges_b1 at hm
          refine C_skip (E_then ?_)
          refine C_seq ?_
          refine C_block ?_
          refine C_seq ?_
          refine C_region ?_
          obtain ⟨_, ⟨rfl⟩, hc181⟩ := (h135).elem hy177
          refine W_indexS rfl rfl Proofs.Try.runUnderlying28 Proofs.Try.sizeOf35 rfl (h135.mono hle170) rfl (Int.natCast_nonneg _) hy177 ?_
          refine W_loadAgg rfl rfl Proofs.Try.isAgg35 Proofs.Try.sizeOf35 rfl (hc181.mono hle170).at rfl ?_
          refine W_alloc (cs := [.string (⟨#[]⟩), .int .i64 (0), .int .i64 (0), .int .i64 (0)]) rfl rfl Proofs.Try.zeroValue35 rfl (fun b182 => ?_)
          refine W_store (cs := [.string (y175.Point), .int .i64 (y175.Number), .int .i64 (y175.Time), .int .i64 (y175.Value)]) (out := [.string (y175.Point), .int .i64 (y175.Number), .int .i64 (y175.Time), .int .i64 (y175.Value)]) rfl Proofs.Try.sizeOf35 rfl rfl rfl rfl rfl (all_cons rfl (all_cons rfl (all_cons rfl (all_cons rfl all_nil)))) (over_all rfl) ?_
          refine W_end ?_
          refine E_then ?_
          refine C_region ?_
          refine W_move rfl rfl rfl ?_
          refine W_loadAgg rfl rfl Proofs.Try.isAgg35 Proofs.Try.sizeOf35 rfl (own_all (List.mem_cons_self ..)) rfl ?_
          refine W_perm (List.Perm.trans (List.Perm.cons _ (List.Perm.swap _ _ _)) (List.Perm.trans (List.Perm.swap _ _ _) (List.Perm.cons _ (List.Perm.swap _ _ _)))) ?_
          obtain ⟨r183, hc184, hm⟩ := bind_some hm
          refine W_call Proofs.Try.call12 rfl rfl rfl (fun w ht => by have h := m_telemetry_Points_Take_c (hm := hc184) hr168 ht; exact h) ?_
          rintro _ _ _ ⟨rfl, v186, xs187, rfl, rfl, h188⟩
          have h188 := h188 H169
          refine W_end ?_
          refine E_normal_block ?_
          refine E_then ?_
          refine C_region ?_
          refine W_bin rfl rfl rfl rfl rfl ?_
          refine W_move rfl rfl rfl ?_
          refine W_end ?_
          refine E_drop (List.Sublist.cons_cons _ (List.Sublist.cons_cons _ (List.Sublist.cons _ (List.Sublist.refl _)))) ?_
          exact E_keepJ (E_back (Nat.lt_succ_self _) ⟨k137 + 1, zs176, r183.2.2.age, r183.2.2.all_, v186, xs187, hd179, rfl, (by rw [hn173]; exact hm), h188, hle170, rfl, rfl⟩) (List.Perm.swap _ _ _) ⟨rfl, rfl, rfl, rfl, rfl, rfl, (congrArg (fun z => some (Value.int .i64 z)) (i64_succ hy177 ((h135.mono hle170)).lenMax)), trivial⟩
        · obtain rfl := rng_f hd178 hb180
          have hm : ((m_gridhallref4_Cut now 0 1000).bind fun r189 => (m_gridhallref4_Cut later 0 1000).bind fun r191 => (m_telemetry_Points_List (S_telemetry_Points.mk n164 l167)).bind fun r193 => forI (fun k y s241 n => m_gridhallkeep4_TelemetryAges_b2 age n164 l167 r189 r191 k y n) (fun _ => (m_gridhallkeep4_telemetryFact).bind fun r272 => some r272) 0 r193 ()) = some r := hm
          refine C_exit (E_exit_then ?_)
          refine E_exit_then ?_
          refine E_exit_hit ?_
          refine E_then ?_
          refine C_seq ?_
          refine C_region ?_
          refine W_move rfl rfl rfl ?_
          obtain ⟨r189, hc190, hm⟩ := bind_some hm
          refine W_call Proofs.Try.call13 rfl rfl rfl (fun w ht => by have h := m_gridhallref4_Cut_c (hm := hc190)  ht; exact h) ?_
          rintro _ _ _ ⟨rfl, rfl, rfl⟩
          refine W_move rfl rfl rfl ?_
          obtain ⟨r191, hc192, hm⟩ := bind_some hm
          refine W_call Proofs.Try.call13 rfl rfl rfl (fun w ht => by have h := m_gridhallref4_Cut_c (hm := hc192)  ht; exact h) ?_
          rintro _ _ _ ⟨rfl, rfl, rfl⟩
          refine W_assign rfl rfl rfl ?_
          refine W_assign rfl rfl rfl ?_
          refine W_end ?_
          refine E_then ?_
          refine C_seq ?_
          refine C_seq ?_
          refine C_region ?_
          refine W_move rfl rfl rfl ?_
          refine W_perm (List.Perm.swap _ _ _) ?_
          obtain ⟨r193, hc194, hm⟩ := bind_some hm
          refine W_call Proofs.Try.call14 rfl rfl rfl (fun w ht => by have h := m_telemetry_Points_List_c (hm := hc194) hr168 ht; exact h) ?_
          rintro _ _ _ ⟨rfl, v195, xs196, rfl, rfl, h197⟩
          have h197 := h197 H169
          refine W_lenO (List.mem_cons_self ..) rfl rfl Proofs.Try.runUnderlying28 rfl ?_
          refine W_move rfl rfl rfl ?_
          refine W_end ?_
          refine E_then ?_
          refine C_block ?_
          refine C_rowMax (List.mem_cons_self ..) (fun hmx245 => ?_)
          refine C_keep (L' := [(0, .int .i64 (age)), (2, .int .i64 (r189)), (3, .int .i64 (r191)), (9, .pointer (some ⟨b102, 0, none⟩)), (56, v195), (57, .int .i64 ((r193.length : Int))), (58, .int .i64 (((0 : Nat) : Int)))]) ⟨rfl, rfl, rfl, rfl, rfl, rfl, rfl, trivial⟩ (List.Perm.refl _) ?_
          refine C_loop (fun n H' M' L' => ∃ (k198 : Nat) (zs247' : List S_api_TelemetryMsg), (r193).drop k198 = zs247' ∧ zs247'.length = n ∧ forI (fun k y s241 n => m_gridhallkeep4_TelemetryAges_b2 age n164 l167 r189 r191 k y n) (fun _ => (m_gridhallkeep4_telemetryFact).bind fun r272 => some r272) k198 zs247' () = some r ∧ H169.le H' ∧ .row v195 35 (Rep.sz S_api_TelemetryMsg) r193.length xs196 :: .obj b102 (.cells [.int .i64 (n164), v165].toArray 53 (0, 0)) :: .row v165 57 (Rep.sz S_telemetry_point) l167.length xs166 :: M = M' ∧ [(0, .int .i64 (age)), (2, .int .i64 (r189)), (3, .int .i64 (r191)), (9, .pointer (some ⟨b102, 0, none⟩)), (56, v195), (57, .int .i64 ((r193.length : Int))), (58, .int .i64 ((k198 : Int)))] = L') _ ⟨0, _, rfl, rfl, hm, (Hp.le_refl _), rfl, rfl⟩ ?_
          rintro _ H239 _ _ ⟨k198, zs247', hd249, rfl, hm, hle240, rfl, rfl⟩
          refine C_seq ?_
          refine C_region ?_
          refine W_bin rfl rfl rfl rfl rfl ?_
          refine W_end (E_then ?_)
          refine C_seq ?_
          refine C_cond (b := decide ((k198 : Int) < (r193.length : Int))) rfl (fun hb251 => ?_) (fun hb251 => ?_)
          · obtain ⟨y246, zs247, rfl, hy248, hd250⟩ := rng_t hd249 hb251
            have hm : m_gridhallkeep4_TelemetryAges_b2 age n164 l167 r189 r191 k198 y246 (forI (fun k y s241 n => m_gridhallkeep4_TelemetryAges_b2 age n164 l167 r189 r191 k y n) (fun _ => (m_gridhallkeep4_telemetryFact).bind fun r272 => some r272) (k198 + 1) zs247) = some r := hm
            generalize hn243 : forI (fun k y s241 n => m_gridhallkeep4_TelemetryAges_b2 age n164 l167 r189 r191 k y n) (fun _ => (m_gridhallkeep4_telemetryFact).bind fun r272 => some r272) (k198 + 1) zs247 = nx242 at hm
            unfold m_gridhallkeep4_TelemetryAges_b2 at hm
            refine C_skip (E_then ?_)
            refine C_seq ?_
            refine C_block ?_
            refine C_seq ?_
            refine C_region ?_
            refine W_indexO (List.mem_cons_self ..) rfl rfl Proofs.Try.runUnderlying28 Proofs.Try.sizeOf35 rfl rfl (Int.natCast_nonneg _) (List.getElem?_eq_some_iff.1 hy248).1 ?_
            obtain ⟨_, rfl, hg252⟩ := (h197).elem hy248
            refine W_loadAgg (cs := [.string (y246.Point), .int .i64 (y246.Number), .int .i64 (y246.Time), .int .i64 (y246.Value)]) rfl rfl Proofs.Try.isAgg35 Proofs.Try.sizeOf35 rfl (row_cells (List.mem_cons_self ..) hg252) rfl ?_
            refine W_alloc (cs := [.string (⟨#[]⟩), .int .i64 (0), .int .i64 (0), .int .i64 (0)]) rfl rfl Proofs.Try.zeroValue35 rfl (fun b253 => ?_)
            refine W_store (cs := [.string (y246.Point), .int .i64 (y246.Number), .int .i64 (y246.Time), .int .i64 (y246.Value)]) (out := [.string (y246.Point), .int .i64 (y246.Number), .int .i64 (y246.Time), .int .i64 (y246.Value)]) rfl Proofs.Try.sizeOf35 rfl rfl rfl rfl rfl (all_cons rfl (all_cons rfl (all_cons rfl (all_cons rfl all_nil)))) (over_all rfl) ?_
            refine W_end ?_
            refine E_then ?_
            refine C_seq ?_
            refine C_region ?_
            refine W_move rfl rfl rfl ?_
            refine W_field (o := 0) rfl rfl Proofs.Try.runUnderlying35 rfl Proofs.Try.sizeOf9 rfl rfl rfl ?_
            refine W_load rfl rfl Proofs.Try.isAgg9 rfl (own_at (List.mem_cons_self ..) rfl) ?_
            refine W_move rfl rfl rfl ?_
            refine W_perm (List.Perm.trans (List.Perm.cons _ (List.Perm.swap _ _ _)) (List.Perm.trans (List.Perm.swap _ _ _) (List.Perm.trans (List.Perm.cons _ (List.Perm.cons _ (List.Perm.swap _ _ _))) (List.Perm.cons _ (List.Perm.swap _ _ _))))) ?_
            obtain ⟨r254, hc255, hm⟩ := bind_some hm
            refine W_call Proofs.Try.call15 rfl rfl rfl (fun w ht => by have h := m_telemetry_Points_Value_c (hm := hc255) (hr168.mono hle240) ht; exact h) ?_
            rintro _ _ _ ⟨rfl, rfl, rfl⟩
            refine W_move rfl rfl rfl ?_
            refine W_extract rfl rfl rfl rfl ?_
            refine W_extract rfl rfl rfl rfl ?_
            refine W_extract rfl rfl rfl rfl ?_
            refine W_assign rfl rfl rfl ?_
            refine W_assign rfl rfl rfl ?_
            refine W_assign rfl rfl rfl ?_
            refine W_end ?_
            refine E_then ?_
            refine C_seq ?_
            refine C_region ?_
            refine W_move rfl rfl rfl ?_
            refine W_field (o := 0) rfl rfl Proofs.Try.runUnderlying35 rfl Proofs.Try.sizeOf9 rfl rfl rfl ?_
            refine W_load rfl rfl Proofs.Try.isAgg9 rfl (own_at (List.mem_cons_of_mem _ (List.mem_cons_of_mem _ (List.mem_cons_self ..))) rfl) ?_
            refine W_move rfl rfl rfl ?_
            refine W_move rfl rfl rfl ?_
            refine W_bin rfl rfl rfl rfl rfl ?_
            obtain ⟨r256, hc257, hm⟩ := bind_some hm
            refine W_call Proofs.Try.call15 rfl rfl rfl (fun w ht => by have h := m_telemetry_Points_Value_c (hm := hc257) (hr168.mono hle240) ht; exact h) ?_
            rintro _ _ _ ⟨rfl, rfl, rfl⟩
            refine W_move rfl rfl rfl ?_
            refine W_extract rfl rfl rfl rfl ?_
            refine W_extract rfl rfl rfl rfl ?_
            refine W_extract rfl rfl rfl rfl ?_
            refine W_assign rfl rfl rfl ?_
            refine W_assign rfl rfl rfl ?_
            refine W_assign rfl rfl rfl ?_
            refine W_end ?_
            refine E_then ?_
            refine C_seq_join (fun H' M' L' => H239 = H' ∧ .obj b102 (.cells [.int .i64 (n164), v165].toArray 53 (0, 0)) :: .row v165 57 (Rep.sz S_telemetry_point) l167.length xs166 :: .row v195 35 (Rep.sz S_api_TelemetryMsg) r193.length xs196 :: M = M' ∧ [(0, .int .i64 (age)), (2, .int .i64 (r189)), (3, .int .i64 (r191)), (9, .pointer (some ⟨b102, 0, none⟩)), (56, v195), (57, .int .i64 ((r193.length : Int))), (58, .int .i64 ((k198 : Int))), (118, .bool ((decide (r254.2.2 = 0)) && ((((((!decide (r256.2.2 = 0)) || (!decide (r254.1 = r256.1))) || (!decide (r254.1 = y246.Value))) || (decide (r256.2.1 < r254.2.1))) || (decide (r254.2.1 = 2))) || (!decide ((decide (r254.2.1 = 0)) = (decide ((IntKind.i64.wrap (r189 - y246.Time)) ≤ age)))))))] = L') ?_ (fun J264 => ?_)
            · rintro _ _ _ ⟨rfl, rfl, rfl⟩
              refine C_cond (b := (decide (r254.2.2 = 0)) && ((((((!decide (r256.2.2 = 0)) || (!decide (r254.1 = r256.1))) || (!decide (r254.1 = y246.Value))) || (decide (r256.2.1 < r254.2.1))) || (decide (r254.2.1 = 2))) || (!decide ((decide (r254.2.1 = 0)) = (decide ((IntKind.i64.wrap (r189 - y246.Time)) ≤ age)))))) rfl (fun hb265 => ?_) (fun hb265 => ?_)
              · have hm := ite_t' hb265 hm
                refine C_seq ?_
                refine C_region ?_
                refine W_assign rfl rfl rfl ?_
                refine W_end ?_
                refine E_then ?_
                refine C_ret ?_
                refine E_ret_block ?_
                refine E_ret_then ?_
                refine E_ret_then ?_
                refine E_ret_block ?_
                refine E_ret_then ?_
                obtain rfl := Option.some.inj hm
                refine E_drop (List.Sublist.cons _ (List.Sublist.cons _ (List.Sublist.cons _ (List.Sublist.refl _)))) ?_
                refine E_weak (Hp.le_trans (Hp.le_trans hle111 hle170) hle240) ?_
                exact end1 rfl rfl ⟨rfl, rfl, rfl⟩
              · have hm := ite_f' hb265 hm
                refine C_skip ?_
                refine E_normal_block ?_
                refine E_then ?_
                refine C_region ?_
                refine W_bin rfl rfl rfl rfl rfl ?_
                refine W_move rfl rfl rfl ?_
                refine W_end ?_
                exact E_keepJ (E_back (Nat.lt_succ_self _) ⟨k198 + 1, zs247, hd250, rfl, (by rw [hn243]; exact hm), hle240, rfl, rfl⟩) (List.Perm.trans (List.Perm.cons _ (List.Perm.swap _ _ _)) (List.Perm.swap _ _ _)) ⟨rfl, rfl, rfl, rfl, rfl, rfl, (congrArg (fun z => some (Value.int .i64 z)) (i64_succ hy248 hmx245)), trivial⟩
            · refine C_region ?_
              refine W_move rfl rfl rfl ?_
              refine W_bin rfl rfl rfl rfl rfl ?_
              refine W_move rfl rfl rfl ?_
              cases hb266 : (decide (r254.2.2 = 0))
              · refine W_no rfl rfl rfl ?_
                refine W_no rfl rfl rfl ?_
                refine W_no rfl rfl rfl ?_
                refine W_no rfl rfl rfl ?_
                refine W_no rfl rfl rfl ?_
                refine W_no rfl rfl rfl ?_
                refine W_no rfl rfl rfl ?_
                refine W_no rfl rfl rfl ?_
                refine W_no rfl rfl rfl ?_
                refine W_no rfl rfl rfl ?_
                refine W_no rfl rfl rfl ?_
                refine W_no rfl rfl rfl ?_
                refine W_no rfl rfl rfl ?_
                refine W_no rfl rfl rfl ?_
                refine W_no rfl rfl rfl ?_
                refine W_no rfl rfl rfl ?_
                refine W_no rfl rfl rfl ?_
                refine W_no rfl rfl rfl ?_
                refine W_no rfl rfl rfl ?_
                refine W_no rfl rfl rfl ?_
                refine W_no rfl rfl rfl ?_
                refine W_no rfl rfl rfl ?_
                refine W_no rfl rfl rfl ?_
                refine W_no rfl rfl rfl ?_
                refine W_no rfl rfl rfl ?_
                refine W_no rfl rfl rfl ?_
                refine W_no rfl rfl rfl ?_
                refine W_no rfl rfl rfl ?_
                refine W_no rfl rfl rfl ?_
                refine W_no rfl rfl rfl ?_
                refine W_no rfl rfl rfl ?_
                refine W_no rfl rfl rfl ?_
                refine W_no rfl rfl rfl ?_
                refine W_pick rfl rfl rfl rfl ?_
                refine W_end ?_
                refine E_drop (List.Sublist.cons_cons _ (List.Sublist.cons_cons _ (List.Sublist.cons _ (List.Sublist.refl _)))) ?_
                exact E_keepJ (J264 _ _ _ ⟨rfl, rfl, rfl⟩) (List.Perm.refl _) ⟨rfl, rfl, rfl, rfl, rfl, rfl, rfl, (by show some (Value.bool (false)) = some (Value.bool ((decide (r254.2.2 = 0)) && ((((((!decide (r256.2.2 = 0)) || (!decide (r254.1 = r256.1))) || (!decide (r254.1 = y246.Value))) || (decide (r256.2.1 < r254.2.1))) || (decide (r254.2.1 = 2))) || (!decide ((decide (r254.2.1 = 0)) = (decide ((IntKind.i64.wrap (r189 - y246.Time)) ≤ age))))))); simp only [hb125, hb266, Bool.and_true, Bool.true_and, Bool.false_and, Bool.and_false, Bool.or_true, Bool.true_or, Bool.or_false, Bool.false_or, Bool.not_true, Bool.not_false]), trivial⟩
              · refine W_move rfl rfl rfl ?_
                refine W_bin rfl rfl rfl rfl rfl ?_
                refine W_move rfl rfl rfl ?_
                cases hb267 : (decide (r256.2.2 = 0))
                · refine W_no rfl rfl rfl ?_
                  refine W_no rfl rfl rfl ?_
                  refine W_no rfl rfl rfl ?_
                  refine W_pick rfl rfl rfl rfl ?_
                  refine W_move rfl rfl rfl ?_
                  refine W_no rfl rfl rfl ?_
                  refine W_no rfl rfl rfl ?_
                  refine W_no rfl rfl rfl ?_
                  refine W_no rfl rfl rfl ?_
                  refine W_pick rfl rfl rfl rfl ?_
                  refine W_move rfl rfl rfl ?_
                  refine W_no rfl rfl rfl ?_
                  refine W_no rfl rfl rfl ?_
                  refine W_no rfl rfl rfl ?_
                  refine W_pick rfl rfl rfl rfl ?_
                  refine W_move rfl rfl rfl ?_
                  refine W_no rfl rfl rfl ?_
                  refine W_no rfl rfl rfl ?_
                  refine W_pick rfl rfl rfl rfl ?_
                  refine W_move rfl rfl rfl ?_
                  refine W_no rfl rfl rfl ?_
                  refine W_no rfl rfl rfl ?_
                  refine W_no rfl rfl rfl ?_
                  refine W_no rfl rfl rfl ?_
                  refine W_no rfl rfl rfl ?_
                  refine W_no rfl rfl rfl ?_
                  refine W_no rfl rfl rfl ?_
                  refine W_no rfl rfl rfl ?_
                  refine W_no rfl rfl rfl ?_
                  refine W_pick rfl rfl rfl rfl ?_
                  refine W_pick rfl rfl rfl rfl ?_
                  refine W_end ?_
                  refine E_drop (List.Sublist.cons_cons _ (List.Sublist.cons_cons _ (List.Sublist.cons _ (List.Sublist.refl _)))) ?_
                  exact E_keepJ (J264 _ _ _ ⟨rfl, rfl, rfl⟩) (List.Perm.refl _) ⟨rfl, rfl, rfl, rfl, rfl, rfl, rfl, (by show some (Value.bool (true)) = some (Value.bool ((decide (r254.2.2 = 0)) && ((((((!decide (r256.2.2 = 0)) || (!decide (r254.1 = r256.1))) || (!decide (r254.1 = y246.Value))) || (decide (r256.2.1 < r254.2.1))) || (decide (r254.2.1 = 2))) || (!decide ((decide (r254.2.1 = 0)) = (decide ((IntKind.i64.wrap (r189 - y246.Time)) ≤ age))))))); simp only [hb125, hb266, hb267, Bool.and_true, Bool.true_and, Bool.false_and, Bool.and_false, Bool.or_true, Bool.true_or, Bool.or_false, Bool.false_or, Bool.not_true, Bool.not_false]), trivial⟩
                · refine W_move rfl rfl rfl ?_
                  refine W_move rfl rfl rfl ?_
                  refine W_bin rfl rfl rfl rfl rfl ?_
                  refine W_pick rfl rfl rfl rfl ?_
                  refine W_move rfl rfl rfl ?_
                  cases hb268 : (decide (r254.1 = r256.1))
                  · refine W_no rfl rfl rfl ?_
                    refine W_no rfl rfl rfl ?_
                    refine W_no rfl rfl rfl ?_
                    refine W_no rfl rfl rfl ?_
                    refine W_pick rfl rfl rfl rfl ?_
                    refine W_move rfl rfl rfl ?_
                    refine W_no rfl rfl rfl ?_
                    refine W_no rfl rfl rfl ?_
                    refine W_no rfl rfl rfl ?_
                    refine W_pick rfl rfl rfl rfl ?_
                    refine W_move rfl rfl rfl ?_
                    refine W_no rfl rfl rfl ?_
                    refine W_no rfl rfl rfl ?_
                    refine W_pick rfl rfl rfl rfl ?_
                    refine W_move rfl rfl rfl ?_
                    refine W_no rfl rfl rfl ?_
                    refine W_no rfl rfl rfl ?_
                    refine W_no rfl rfl rfl ?_
                    refine W_no rfl rfl rfl ?_
                    refine W_no rfl rfl rfl ?_
                    refine W_no rfl rfl rfl ?_
                    refine W_no rfl rfl rfl ?_
                    refine W_no rfl rfl rfl ?_
                    refine W_no rfl rfl rfl ?_
                    refine W_pick rfl rfl rfl rfl ?_
                    refine W_pick rfl rfl rfl rfl ?_
                    refine W_end ?_
                    refine E_drop (List.Sublist.cons_cons _ (List.Sublist.cons_cons _ (List.Sublist.cons _ (List.Sublist.refl _)))) ?_
                    exact E_keepJ (J264 _ _ _ ⟨rfl, rfl, rfl⟩) (List.Perm.refl _) ⟨rfl, rfl, rfl, rfl, rfl, rfl, rfl, (by show some (Value.bool (true)) = some (Value.bool ((decide (r254.2.2 = 0)) && ((((((!decide (r256.2.2 = 0)) || (!decide (r254.1 = r256.1))) || (!decide (r254.1 = y246.Value))) || (decide (r256.2.1 < r254.2.1))) || (decide (r254.2.1 = 2))) || (!decide ((decide (r254.2.1 = 0)) = (decide ((IntKind.i64.wrap (r189 - y246.Time)) ≤ age))))))); simp only [hb125, hb266, hb267, hb268, Bool.and_true, Bool.true_and, Bool.false_and, Bool.and_false, Bool.or_true, Bool.true_or, Bool.or_false, Bool.false_or, Bool.not_true, Bool.not_false]), trivial⟩
                  · refine W_move rfl rfl rfl ?_
                    refine W_field (o := 3) rfl rfl Proofs.Try.runUnderlying35 rfl Proofs.Try.sizeOf3 rfl rfl rfl ?_
                    refine W_load rfl rfl Proofs.Try.isAgg3 rfl (own_at (List.mem_cons_of_mem _ (List.mem_cons_of_mem _ (List.mem_cons_self ..))) rfl) ?_
                    refine W_bin rfl rfl rfl rfl rfl ?_
                    refine W_pick rfl rfl rfl rfl ?_
                    refine W_move rfl rfl rfl ?_
                    cases hb269 : (decide (r254.1 = y246.Value))
                    · refine W_no rfl rfl rfl ?_
                      refine W_no rfl rfl rfl ?_
                      refine W_no rfl rfl rfl ?_
                      refine W_pick rfl rfl rfl rfl ?_
                      refine W_move rfl rfl rfl ?_
                      refine W_no rfl rfl rfl ?_
                      refine W_no rfl rfl rfl ?_
                      refine W_pick rfl rfl rfl rfl ?_
                      refine W_move rfl rfl rfl ?_
                      refine W_no rfl rfl rfl ?_
                      refine W_no rfl rfl rfl ?_
                      refine W_no rfl rfl rfl ?_
                      refine W_no rfl rfl rfl ?_
                      refine W_no rfl rfl rfl ?_
                      refine W_no rfl rfl rfl ?_
                      refine W_no rfl rfl rfl ?_
                      refine W_no rfl rfl rfl ?_
                      refine W_no rfl rfl rfl ?_
                      refine W_pick rfl rfl rfl rfl ?_
                      refine W_pick rfl rfl rfl rfl ?_
                      refine W_end ?_
                      refine E_drop (List.Sublist.cons_cons _ (List.Sublist.cons_cons _ (List.Sublist.cons _ (List.Sublist.refl _)))) ?_
                      exact E_keepJ (J264 _ _ _ ⟨rfl, rfl, rfl⟩) (List.Perm.refl _) ⟨rfl, rfl, rfl, rfl, rfl, rfl, rfl, (by show some (Value.bool (true)) = some (Value.bool ((decide (r254.2.2 = 0)) && ((((((!decide (r256.2.2 = 0)) || (!decide (r254.1 = r256.1))) || (!decide (r254.1 = y246.Value))) || (decide (r256.2.1 < r254.2.1))) || (decide (r254.2.1 = 2))) || (!decide ((decide (r254.2.1 = 0)) = (decide ((IntKind.i64.wrap (r189 - y246.Time)) ≤ age))))))); simp only [hb125, hb266, hb267, hb268, hb269, Bool.and_true, Bool.true_and, Bool.false_and, Bool.and_false, Bool.or_true, Bool.true_or, Bool.or_false, Bool.false_or, Bool.not_true, Bool.not_false]), trivial⟩
                    · refine W_move rfl rfl rfl ?_
                      refine W_move rfl rfl rfl ?_
                      refine W_bin rfl rfl rfl rfl rfl ?_
                      refine W_pick rfl rfl rfl rfl ?_
                      refine W_move rfl rfl rfl ?_
                      cases hb270 : (decide (r256.2.1 < r254.2.1))
                      · refine W_move rfl rfl rfl ?_
                        refine W_bin rfl rfl rfl rfl rfl ?_
                        refine W_pick rfl rfl rfl rfl ?_
                        refine W_move rfl rfl rfl ?_
                        cases hb271 : (decide (r254.2.1 = 2))
                        · refine W_move rfl rfl rfl ?_
                          refine W_bin rfl rfl rfl rfl rfl ?_
                          refine W_move rfl rfl rfl ?_
                          refine W_field (o := 2) rfl rfl Proofs.Try.runUnderlying35 rfl Proofs.Try.sizeOf3 rfl rfl rfl ?_
                          refine W_load rfl rfl Proofs.Try.isAgg3 rfl (own_at (List.mem_cons_of_mem _ (List.mem_cons_of_mem _ (List.mem_cons_self ..))) rfl) ?_
                          refine W_bin rfl rfl rfl rfl rfl ?_
                          refine W_move rfl rfl rfl ?_
                          refine W_bin rfl rfl rfl rfl rfl ?_
                          refine W_neBool rfl rfl Proofs.Try.runUnderlying4 rfl rfl ?_
                          refine W_pick rfl rfl rfl rfl ?_
                          refine W_pick rfl rfl rfl rfl ?_
                          refine W_end ?_
                          refine E_drop (List.Sublist.cons_cons _ (List.Sublist.cons_cons _ (List.Sublist.cons _ (List.Sublist.refl _)))) ?_
                          exact E_keepJ (J264 _ _ _ ⟨rfl, rfl, rfl⟩) (List.Perm.refl _) ⟨rfl, rfl, rfl, rfl, rfl, rfl, rfl, (by show some (Value.bool (!decide ((decide (r254.2.1 = 0)) = (decide ((IntKind.i64.wrap (r189 - y246.Time)) ≤ age))))) = some (Value.bool ((decide (r254.2.2 = 0)) && ((((((!decide (r256.2.2 = 0)) || (!decide (r254.1 = r256.1))) || (!decide (r254.1 = y246.Value))) || (decide (r256.2.1 < r254.2.1))) || (decide (r254.2.1 = 2))) || (!decide ((decide (r254.2.1 = 0)) = (decide ((IntKind.i64.wrap (r189 - y246.Time)) ≤ age))))))); simp only [hb125, hb266, hb267, hb268, hb269, hb270, hb271, Bool.and_true, Bool.true_and, Bool.false_and, Bool.and_false, Bool.or_true, Bool.true_or, Bool.or_false, Bool.false_or, Bool.not_true, Bool.not_false]), trivial⟩
                        · refine W_no rfl rfl rfl ?_
                          refine W_no rfl rfl rfl ?_
                          refine W_no rfl rfl rfl ?_
                          refine W_no rfl rfl rfl ?_
                          refine W_no rfl rfl rfl ?_
                          refine W_no rfl rfl rfl ?_
                          refine W_no rfl rfl rfl ?_
                          refine W_no rfl rfl rfl ?_
                          refine W_no rfl rfl rfl ?_
                          refine W_pick rfl rfl rfl rfl ?_
                          refine W_pick rfl rfl rfl rfl ?_
                          refine W_end ?_
                          refine E_drop (List.Sublist.cons_cons _ (List.Sublist.cons_cons _ (List.Sublist.cons _ (List.Sublist.refl _)))) ?_
                          exact E_keepJ (J264 _ _ _ ⟨rfl, rfl, rfl⟩) (List.Perm.refl _) ⟨rfl, rfl, rfl, rfl, rfl, rfl, rfl, (by show some (Value.bool (true)) = some (Value.bool ((decide (r254.2.2 = 0)) && ((((((!decide (r256.2.2 = 0)) || (!decide (r254.1 = r256.1))) || (!decide (r254.1 = y246.Value))) || (decide (r256.2.1 < r254.2.1))) || (decide (r254.2.1 = 2))) || (!decide ((decide (r254.2.1 = 0)) = (decide ((IntKind.i64.wrap (r189 - y246.Time)) ≤ age))))))); simp only [hb125, hb266, hb267, hb268, hb269, hb270, hb271, Bool.and_true, Bool.true_and, Bool.false_and, Bool.and_false, Bool.or_true, Bool.true_or, Bool.or_false, Bool.false_or, Bool.not_true, Bool.not_false]), trivial⟩
                      · refine W_no rfl rfl rfl ?_
                        refine W_no rfl rfl rfl ?_
                        refine W_pick rfl rfl rfl rfl ?_
                        refine W_move rfl rfl rfl ?_
                        refine W_no rfl rfl rfl ?_
                        refine W_no rfl rfl rfl ?_
                        refine W_no rfl rfl rfl ?_
                        refine W_no rfl rfl rfl ?_
                        refine W_no rfl rfl rfl ?_
                        refine W_no rfl rfl rfl ?_
                        refine W_no rfl rfl rfl ?_
                        refine W_no rfl rfl rfl ?_
                        refine W_no rfl rfl rfl ?_
                        refine W_pick rfl rfl rfl rfl ?_
                        refine W_pick rfl rfl rfl rfl ?_
                        refine W_end ?_
                        refine E_drop (List.Sublist.cons_cons _ (List.Sublist.cons_cons _ (List.Sublist.cons _ (List.Sublist.refl _)))) ?_
                        exact E_keepJ (J264 _ _ _ ⟨rfl, rfl, rfl⟩) (List.Perm.refl _) ⟨rfl, rfl, rfl, rfl, rfl, rfl, rfl, (by show some (Value.bool (true)) = some (Value.bool ((decide (r254.2.2 = 0)) && ((((((!decide (r256.2.2 = 0)) || (!decide (r254.1 = r256.1))) || (!decide (r254.1 = y246.Value))) || (decide (r256.2.1 < r254.2.1))) || (decide (r254.2.1 = 2))) || (!decide ((decide (r254.2.1 = 0)) = (decide ((IntKind.i64.wrap (r189 - y246.Time)) ≤ age))))))); simp only [hb125, hb266, hb267, hb268, hb269, hb270, Bool.and_true, Bool.true_and, Bool.false_and, Bool.and_false, Bool.or_true, Bool.true_or, Bool.or_false, Bool.false_or, Bool.not_true, Bool.not_false]), trivial⟩
          · obtain rfl := rng_f hd249 hb251
            have hm : ((m_gridhallkeep4_telemetryFact).bind fun r272 => some r272) = some r := hm
            refine C_exit (E_exit_then ?_)
            refine E_exit_then ?_
            refine E_exit_hit ?_
            refine E_then ?_
            refine C_seq ?_
            refine C_region ?_
            obtain ⟨r272, hc273, hm⟩ := bind_some hm
            refine W_call Proofs.Try.call11 rfl rfl rfl (fun w ht => by have h := m_gridhallkeep4_telemetryFact_c (hm := hc273)  ht; exact h) ?_
            rintro _ _ _ ⟨rfl, rfl, rfl⟩
            refine W_assign rfl rfl rfl ?_
            refine W_end ?_
            refine E_then ?_
            refine C_ret ?_
            obtain rfl := Option.some.inj hm
            refine E_drop (List.Sublist.cons _ (List.Sublist.cons _ (List.Sublist.cons _ (List.Sublist.refl _)))) ?_
            refine E_weak (Hp.le_trans (Hp.le_trans hle111 hle170) hle240) ?_
            exact end1 rfl rfl ⟨rfl, rfl, rfl⟩
    · refine C_region ?_
      refine W_move rfl rfl rfl ?_
      refine W_bin rfl rfl rfl rfl rfl ?_
      refine W_move rfl rfl rfl ?_
      cases hb274 : (decide ((((m_telemetry_New age)).2) = 0))
      · refine W_no rfl rfl rfl ?_
        refine W_no rfl rfl rfl ?_
        refine W_pick rfl rfl rfl rfl ?_
        refine W_end ?_
        exact E_keepJ (J124 _ _ _ ⟨rfl, rfl, rfl⟩) (List.Perm.refl _) ⟨rfl, rfl, rfl, rfl, rfl, (by show some (Value.bool (true)) = some (Value.bool (!decide ((((m_telemetry_New age)).2) = 0))); simp only [hb274, Bool.and_true, Bool.true_and, Bool.false_and, Bool.and_false, Bool.or_true, Bool.true_or, Bool.or_false, Bool.false_or, Bool.not_true, Bool.not_false]), trivial⟩
      · refine W_move rfl rfl rfl ?_
        refine W_ptrNil rfl rfl Proofs.Try.runUnderlying29 rfl rfl ?_
        refine W_pick rfl rfl rfl rfl ?_
        refine W_end ?_
        exact E_keepJ (J124 _ _ _ ⟨rfl, rfl, rfl⟩) (List.Perm.refl _) ⟨rfl, rfl, rfl, rfl, rfl, (by show some (Value.bool (false)) = some (Value.bool (!decide ((((m_telemetry_New age)).2) = 0))); simp only [hb274, Bool.and_true, Bool.true_and, Bool.false_and, Bool.and_false, Bool.or_true, Bool.true_or, Bool.or_false, Bool.false_or, Bool.not_true, Bool.not_false]), trivial⟩

theorem clone16_c {B : Nat} {w0 w : World} {H : Hp} {M : List Res} {s : List S_api_TelemetryMsg} {v0 : Value} (h0 : RdS H v0 s) (hz : s.length * 40 ≤ 140737488355328) (ht : St B w0 H M w) :
    Calls Proofs.Try.prog 16 [v0].toArray w (Ret B w0 fun H' M' v => H = H' ∧ ∃ (v' : Value) (xs' : List Value), .row v' 35 (Rep.sz S_api_TelemetryMsg) s.length xs' :: M = M' ∧ v' = v ∧ RwF v' xs' s) := by
  refine enter Proofs.Try.func16 rfl rfl rfl ht ?_
  obtain ⟨o, n, c, rfl⟩ := h0.shape
  refine C_seq ?_
  refine C_region ?_
  refine W_assign rfl rfl rfl ?_
  refine W_end (E_then ?_)
  refine C_seq ?_
  refine C_seq ?_
  refine C_region ?_
  refine W_move rfl rfl rfl ?_
  refine W_eqNil rfl rfl Proofs.Try.runUnderlying28 rfl rfl ?_
  refine W_end (E_then ?_)
  cases o with
  | none =>
    refine C_cond (b := true) rfl (fun _ => ?_) (fun hb => Bool.noConfusion hb)
    obtain rfl := h0.isNil
    refine C_seq ?_
    refine C_region ?_
    refine W_assign rfl rfl rfl ?_
    refine W_end (E_then ?_)
    refine C_ret (E_ret_then ?_)
    refine E_nilRow 35 (Rep.sz S_api_TelemetryMsg) ?_
    exact end1 rfl rfl ⟨rfl, .slice none 0 0, [], rfl, rfl, (Rw.nil (H := H)).toF⟩
  | some a =>
    refine C_cond (b := false) rfl (fun hb => Bool.noConfusion hb) (fun _ => ?_)
    refine C_skip (E_then ?_)
    refine C_seq ?_
    refine C_region ?_
    refine W_build0 S_api_TelemetryMsg rfl rfl Proofs.Try.runUnderlying28 Proofs.Try.sizeOf35 ?_
    intro v1 xs1 h1
    refine W_move rfl rfl rfl ?_
    refine W_appendO (α := S_api_TelemetryMsg) (l := []) (ys := s) (bytes := 40) rfl rfl Proofs.Try.underlying28 ⟨_, rfl, rfl, rfl, rfl⟩ rfl rfl rfl rfl rfl h1 h0 (by simpa using hz) ?_
    intro v2 xs2 h2
    refine W_assign rfl rfl rfl ?_
    refine W_end (E_then ?_)
    refine C_ret ?_
    exact end1 rfl rfl ⟨rfl, v2, xs2, rfl, rfl, h2.toF⟩

theorem m_slices_Equal_api_TelemetryMsg_api_TelemetryMsg_c {B : Nat} {w0 w : World} {H : Hp} {M : List Res} {p0_s1 : (List S_api_TelemetryMsg)} {p1_s2 : (List S_api_TelemetryMsg)} {v0 : Value} {v1 : Value} {r : Bool} (hm : m_slices_Equal_api_TelemetryMsg_api_TelemetryMsg p0_s1 p1_s2 = some r) (h0 : RdS H v0 p0_s1) (h1 : RdS H v1 p1_s2) (ht : St B w0 H (M) w) :
    Calls Proofs.Try.prog 17 [v0, v1].toArray w (Ret B w0 fun H' M' v => H = H' ∧ M = M' ∧ .bool (r) = v) := by
  unfold m_slices_Equal_api_TelemetryMsg_api_TelemetryMsg at hm
  refine enter Proofs.Try.func17 rfl rfl rfl ht ?_
  refine C_seq ?_
  refine C_region ?_
  refine W_assign rfl rfl rfl ?_
  refine W_end ?_
  refine E_then ?_
  refine C_seq ?_
  refine C_seq ?_
  refine C_region ?_
  refine W_move rfl rfl rfl ?_
  refine W_lenR rfl rfl Proofs.Try.runUnderlying28 rfl h0 ?_
  refine W_move rfl rfl rfl ?_
  refine W_lenR rfl rfl Proofs.Try.runUnderlying28 rfl h1 ?_
  refine W_bin rfl rfl rfl rfl rfl ?_
  refine W_end ?_
  refine E_then ?_
  refine C_cond (b := !decide ((p0_s1.length : Int) = (p1_s2.length : Int))) rfl (fun hb101 => ?_) (fun hb101 => ?_)
  · have hm := ite_t' hb101 hm
    refine C_seq ?_
    refine C_region ?_
    refine W_assign rfl rfl rfl ?_
    refine W_end ?_
    refine E_then ?_
    refine C_ret ?_
    refine E_ret_then ?_
    obtain rfl := Option.some.inj hm
    refine E_weak (Hp.le_refl _) ?_
    exact end1 rfl rfl ⟨rfl, rfl, rfl⟩
  · have hm := ite_f' hb101 hm
    refine C_skip ?_
    refine E_then ?_
    refine C_seq ?_
    refine C_seq ?_
    refine C_region ?_
    refine W_move rfl rfl rfl ?_
    refine W_lenR rfl rfl Proofs.Try.runUnderlying28 rfl h0 ?_
    refine W_move rfl rfl rfl ?_
    refine W_end ?_
    refine E_then ?_
    refine C_block ?_
    refine C_keep (L' := [(0, v0), (1, v1), (12, .int .i64 ((p0_s1.length : Int))), (13, .int .i64 (((0 : Nat) : Int)))]) ⟨rfl, rfl, rfl, rfl, trivial⟩ (List.Perm.refl _) ?_
    refine C_loop (fun n H' M' L' => ∃ (k102 : Nat) (zs136' : Nat), k102 + zs136' = ((p0_s1.length : Int) : Int).toNat ∧ zs136' = n ∧ forN (fun k s131 n => m_slices_Equal_api_TelemetryMsg_api_TelemetryMsg_b1 p0_s1 p1_s2 k n) (fun _ => some true) zs136' k102 () = some r ∧ H.le H' ∧ M = M' ∧ [(0, v0), (1, v1), (12, .int .i64 ((p0_s1.length : Int))), (13, .int .i64 ((k102 : Int)))] = L') _ ⟨0, _, Nat.zero_add _, rfl, hm, (Hp.le_refl _), rfl, rfl⟩ ?_
    rintro _ H129 _ _ ⟨k102, zs136', hd138, rfl, hm, hle130, rfl, rfl⟩
    refine C_seq ?_
    refine C_region ?_
    refine W_bin rfl rfl rfl rfl rfl ?_
    refine W_end (E_then ?_)
    refine C_seq ?_
    refine C_cond (b := decide ((k102 : Int) < (p0_s1.length : Int))) rfl (fun hb140 => ?_) (fun hb140 => ?_)
    · obtain ⟨zs136, rfl, hd139, hy137⟩ := rngN_t hd138 hb140
      have hm : m_slices_Equal_api_TelemetryMsg_api_TelemetryMsg_b1 p0_s1 p1_s2 k102 (forN (fun k s131 n => m_slices_Equal_api_TelemetryMsg_api_TelemetryMsg_b1 p0_s1 p1_s2 k n) (fun _ => some true) zs136 (k102 + 1)) = some r := hm
      generalize hn133 : forN (fun k s131 n => m_slices_Equal_api_TelemetryMsg_api_TelemetryMsg_b1 p0_s1 p1_s2 k n) (fun _ => some true) zs136 (k102 + 1) = nx132 at hm
      unfold m_slices_Equal_api_TelemetryMsg_api_TelemetryMsg_b1 at hm
      refine C_skip (E_then ?_)
      refine C_seq ?_
      refine C_block ?_
      refine C_seq ?_
      refine C_region ?_
      refine W_move rfl rfl rfl ?_
      refine W_assign rfl rfl rfl ?_
      refine W_end ?_
      refine E_then ?_
      refine C_seq ?_
      obtain ⟨y141, h142, he143, hm⟩ := idx_some hm
      obtain ⟨_, ⟨rfl⟩, hc144⟩ := (h0).elem he143
      obtain ⟨y145, h146, he147, hm⟩ := idx_some hm
      obtain ⟨_, ⟨rfl⟩, hc148⟩ := (h1).elem he147
      refine C_region_tok0 8 (phiT [(fun H rs v => [] = rs ∧ v0 = v), (fun H rs v => [] = rs ∧ .int .i64 ((k102 : Int)) = v), (fun H rs v => [] = rs ∧ .pointer (some ((Value.base (v0)).add (((k102 : Int) : Int).toNat * 4))) = v), (fun H rs v => [] = rs ∧ .agg [.string (y141.Point), .int .i64 (y141.Number), .int .i64 (y141.Time), .int .i64 (y141.Value)].toArray = v), (fun H rs v => [] = rs ∧ v1 = v), (fun H rs v => [] = rs ∧ .int .i64 ((k102 : Int)) = v), (fun H rs v => [] = rs ∧ .pointer (some ((Value.base (v1)).add (((k102 : Int) : Int).toNat * 4))) = v), (fun H rs v => [] = rs ∧ .agg [.string (y145.Point), .int .i64 (y145.Number), .int .i64 (y145.Time), .int .i64 (y145.Value)].toArray = v)]) [[], [], [], [], [], [], [], []] [[], [], [], [], [], [], [], []] [] [0, 1, 2, 3, 4, 5, 6, 7] Facts.mixed (by kernel_rfl) rfl rfl rfl (by kernel_rfl) (phiT_mono ⟨eq_monoT _ _, eq_monoT _ _, eq_monoT _ _, eq_monoT _ _, eq_monoT _ _, eq_monoT _ _, eq_monoT _ _, eq_monoT _ _, trivial⟩) ⟨?_, ?_, ?_, ?_, ?_, ?_, ?_, ?_, trivial⟩ ?_
      · intro HX hX X Rest hR
        intro hU
        refine W_move rfl rfl rfl ?_
        exact W_end (OneT_end [] (Hp.le_refl _) ⟨rfl, rfl⟩)
      · intro HX hX X Rest hR
        intro hU
        refine W_move rfl rfl rfl ?_
        exact W_end (OneT_end [] (Hp.le_refl _) ⟨rfl, rfl⟩)
      · intro HX hX X Rest hR
        rintro _ _ ⟨rfl, rfl⟩
        rintro _ _ ⟨rfl, rfl⟩
        intro hU
        refine W_indexS rfl rfl Proofs.Try.runUnderlying28 Proofs.Try.sizeOf35 rfl ((h0.mono hle130).mono hX) rfl h142 he143 ?_
        exact W_end (OneT_end [] (Hp.le_refl _) ⟨rfl, rfl⟩)
      · intro HX hX X Rest hR
        rintro _ _ ⟨rfl, rfl⟩
        intro hU
        refine W_loadAgg rfl rfl Proofs.Try.isAgg35 Proofs.Try.sizeOf35 rfl ((hc144.mono hle130).mono hX).at rfl ?_
        exact W_end (OneT_end [] (Hp.le_refl _) ⟨rfl, rfl⟩)
      · intro HX hX X Rest hR
        intro hU
        refine W_move rfl rfl rfl ?_
        exact W_end (OneT_end [] (Hp.le_refl _) ⟨rfl, rfl⟩)
      · intro HX hX X Rest hR
        intro hU
        refine W_move rfl rfl rfl ?_
        exact W_end (OneT_end [] (Hp.le_refl _) ⟨rfl, rfl⟩)
      · intro HX hX X Rest hR
        rintro _ _ ⟨rfl, rfl⟩
        rintro _ _ ⟨rfl, rfl⟩
        intro hU
        refine W_indexS rfl rfl Proofs.Try.runUnderlying28 Proofs.Try.sizeOf35 rfl ((h1.mono hle130).mono hX) rfl h146 he147 ?_
        exact W_end (OneT_end [] (Hp.le_refl _) ⟨rfl, rfl⟩)
      · intro HX hX X Rest hR
        rintro _ _ ⟨rfl, rfl⟩
        intro hU
        refine W_loadAgg rfl rfl Proofs.Try.isAgg35 Proofs.Try.sizeOf35 rfl ((hc148.mono hle130).mono hX).at rfl ?_
        exact W_end (OneT_end [] (Hp.le_refl _) ⟨rfl, rfl⟩)
      intro H149 hle150
      rintro _ _ ⟨rfl, rfl⟩
      rintro _ _ ⟨rfl, rfl⟩
      rintro _ _ ⟨rfl, rfl⟩
      rintro _ _ ⟨rfl, rfl⟩
      rintro _ _ ⟨rfl, rfl⟩
      rintro _ _ ⟨rfl, rfl⟩
      rintro _ _ ⟨rfl, rfl⟩
      rintro _ _ ⟨rfl, rfl⟩
      refine W_neAgg (b := decide (y141.Point = y145.Point) && (decide (y141.Number = y145.Number) && (decide (y141.Time = y145.Time) && (decide (y141.Value = y145.Value) && true)))) rfl rfl (by kernel_rfl) rfl rfl (fun w => run_equal_struct (bs := [decide (y141.Point = y145.Point), decide (y141.Number = y145.Number), decide (y141.Time = y145.Time), decide (y141.Value = y145.Value)]) Proofs.Try.runUnderlying35 (by kernel_rfl) ⟨(by decide), (fldEq_str Proofs.Try.isAgg9 Proofs.Try.runUnderlying9 rfl rfl), (by decide), (fldEq_int Proofs.Try.isAgg3 Proofs.Try.runUnderlying3 rfl rfl), (by decide), (fldEq_int Proofs.Try.isAgg3 Proofs.Try.runUnderlying3 rfl rfl), (by decide), (fldEq_int Proofs.Try.isAgg3 Proofs.Try.runUnderlying3 rfl rfl), trivial⟩) ?_
      refine W_end ?_
      refine E_then ?_
      refine C_cond (b := !(decide (y141.Point = y145.Point) && (decide (y141.Number = y145.Number) && (decide (y141.Time = y145.Time) && (decide (y141.Value = y145.Value) && true))))) rfl (fun hb151 => ?_) (fun hb151 => ?_)
      · have hm := ite_t' hb151 hm
        refine C_seq ?_
        refine C_region ?_
        refine W_assign rfl rfl rfl ?_
        refine W_end ?_
        refine E_then ?_
        refine C_ret ?_
        refine E_ret_block ?_
        refine E_ret_then ?_
        refine E_ret_then ?_
        refine E_ret_block ?_
        refine E_ret_then ?_
        obtain rfl := Option.some.inj hm
        refine E_weak (Hp.le_trans hle130 hle150) ?_
        exact end1 rfl rfl ⟨rfl, rfl, rfl⟩
      · have hm := ite_f' hb151 hm
        refine C_skip ?_
        refine E_normal_block ?_
        refine E_then ?_
        refine C_region ?_
        refine W_bin rfl rfl rfl rfl rfl ?_
        refine W_move rfl rfl rfl ?_
        refine W_end ?_
        exact E_keepJ (E_back (Nat.lt_succ_self _) ⟨k102 + 1, zs136, hd139, rfl, (by rw [hn133]; exact hm), (Hp.le_trans hle130 hle150), rfl, rfl⟩) (List.Perm.refl _) ⟨rfl, rfl, rfl, (congrArg (fun z => some (Value.int .i64 z)) (i64_succN hy137 (toNat_max (len_max (h0).lenMax)))), trivial⟩
    · obtain rfl := rngN_f hd138 hb140
      have hm : (some true) = some r := hm
      refine C_exit (E_exit_then ?_)
      refine E_exit_then ?_
      refine E_exit_hit ?_
      refine E_then ?_
      refine C_seq ?_
      refine C_region ?_
      refine W_assign rfl rfl rfl ?_
      refine W_end ?_
      refine E_then ?_
      refine C_ret ?_
      obtain rfl := Option.some.inj hm
      refine E_weak hle130 ?_
      exact end1 rfl rfl ⟨rfl, rfl, rfl⟩

theorem m_gridhallkeep4_TelemetryOrder_c {B : Nat} {w0 w : World} {H : Hp} {M : List Res} {p0_l : (List S_api_TelemetryMsg)} {turn : Int} {v0 : Value} {r : Bool} (hm : m_gridhallkeep4_TelemetryOrder p0_l turn = some r) (h0 : RdS H v0 p0_l) (ht : St B w0 H (M) w) :
    Calls Proofs.Try.prog 5 [v0, .int .i64 (turn)].toArray w (Ret B w0 fun H' M' v => H = H' ∧ M = M' ∧ .bool (r) = v) := by
  unfold m_gridhallkeep4_TelemetryOrder at hm
  refine enter Proofs.Try.func5 rfl rfl rfl ht ?_
  refine C_seq ?_
  refine C_region ?_
  refine W_assign rfl rfl rfl ?_
  refine W_end ?_
  refine E_then ?_
  refine C_seq ?_
  refine C_region ?_
  refine W_move rfl rfl rfl ?_
  refine W_move rfl rfl rfl ?_
  refine W_lenR rfl rfl Proofs.Try.runUnderlying28 rfl h0 ?_
  refine W_min rfl rfl rfl rfl ?_
  obtain ⟨hz101, hm⟩ := need_some hm
  refine W_sliceR (α := S_api_TelemetryMsg) (l := 0) (h := (min (p0_l.length : Int) 12 : Int).toNat) (xs := p0_l) rfl rfl Proofs.Try.runUnderlying28 Proofs.Try.sizeOf35 rfl h0 (by omega) (by omega) (.inl rfl) (fun cap hcap => by rw [if_pos rfl]; exact (.inl ⟨rfl, rfl⟩)) (fun m hmm => (.inr ⟨_, _, _, rfl, rfl, by omega, by omega, rfl⟩)) (.inl ⟨rfl, rfl⟩) ?_
  intro v102 h103 hc104
  obtain ⟨hz105, hm⟩ := need_some hm
  refine W_call Proofs.Try.call16 rfl rfl rfl (fun w ht => by have h := clone16_c (s := slc p0_l 0 ((min (p0_l.length : Int) 12 : Int).toNat)) h103 hz105 ht; exact h) ?_
  rintro _ _ _ ⟨rfl, v106, xs107, rfl, rfl, hr108⟩
  have hr108 := hr108 H
  refine W_assign rfl rfl rfl ?_
  refine W_end ?_
  refine E_then ?_
  refine C_seq ?_
  refine C_seq ?_
  refine C_region ?_
  refine W_move rfl rfl rfl ?_
  refine W_lenO (List.mem_cons_self ..) rfl rfl Proofs.Try.runUnderlying28 rfl ?_
  refine W_move rfl rfl rfl ?_
  refine W_end ?_
  refine E_then ?_
  refine C_block ?_
  refine C_rowMax (List.mem_cons_self ..) (fun hmx204 => ?_)
  refine C_keep (L' := [(0, v106), (1, .int .i64 (turn)), (21, .int .i64 (((slc p0_l 0 ((min (p0_l.length : Int) 12 : Int).toNat)).length : Int))), (22, .int .i64 (((0 : Nat) : Int)))]) ⟨rfl, rfl, rfl, rfl, trivial⟩ (List.Perm.refl _) ?_
  refine C_loop (fun n H' M' L' => ∃ (k109 : Nat) (zs206' : Nat), ∃ l196 : List S_api_TelemetryMsg, ∃ xs195 : List Value, k109 + zs206' = (((slc p0_l 0 ((min (p0_l.length : Int) 12 : Int).toNat)).length : Int) : Int).toNat ∧ zs206' = n ∧ forN (fun k s200 n => m_gridhallkeep4_TelemetryOrder_b1 k s200 n) (fun s200 => optC (((m_telemetry_New 5)).1) (optC (((m_telemetry_New 5)).1) (some false) (fun sp261 => some false)) (fun sp249 => optC (((m_telemetry_New 5)).1) (some false) (fun sp279 => if (!decide ((((m_telemetry_New 5)).2) = 0)) || (!decide ((((m_telemetry_New 5)).2) = 0)) then (some false) else (forI (fun k y s331 n => m_gridhallkeep4_TelemetryOrder_b2 k y s331.1 s331.2 n) (fun s331 => forN (fun k s408 n => m_gridhallkeep4_TelemetryOrder_b3 turn s200 k s408.1 s408.2 n) (fun s408 => (m_gridhallkeep4_telemetryFact).bind fun r439 => if r439 then ((m_telemetry_Points_List (S_telemetry_Points.mk s331.1 s331.2)).bind fun r442 => (m_telemetry_Points_List (S_telemetry_Points.mk s408.1 s408.2)).bind fun r447 => (m_slices_Equal_api_TelemetryMsg_api_TelemetryMsg r442 r447).bind fun r452 => some r452) else (some false)) ((s200.length : Int) : Int).toNat 0 (sp279.age, sp279.all_)) 0 s200 (sp249.age, sp249.all_))))) zs206' k109 l196 = some r ∧ Rw H' v106 xs195 l196 ∧ H.le H' ∧ .row v106 35 (Rep.sz S_api_TelemetryMsg) l196.length xs195 :: M = M' ∧ [(0, v106), (1, .int .i64 (turn)), (21, .int .i64 (((slc p0_l 0 ((min (p0_l.length : Int) 12 : Int).toNat)).length : Int))), (22, .int .i64 ((k109 : Int)))] = L') _ ⟨0, _, (slc p0_l 0 ((min (p0_l.length : Int) 12 : Int).toNat)), xs107, Nat.zero_add _, rfl, hm, hr108, (Hp.le_refl _), rfl, rfl⟩ ?_
  rintro _ H198 _ _ ⟨k109, zs206', l196, xs195, hd208, rfl, hm, hr197, hle199, rfl, rfl⟩
  refine C_seq ?_
  refine C_region ?_
  refine W_bin rfl rfl rfl rfl rfl ?_
  refine W_end (E_then ?_)
  refine C_seq ?_
  refine C_cond (b := decide ((k109 : Int) < ((slc p0_l 0 ((min (p0_l.length : Int) 12 : Int).toNat)).length : Int))) rfl (fun hb210 => ?_) (fun hb210 => ?_)
  · obtain ⟨zs206, rfl, hd209, hy207⟩ := rngN_t hd208 hb210
    have hm : m_gridhallkeep4_TelemetryOrder_b1 k109 l196 (forN (fun k s200 n => m_gridhallkeep4_TelemetryOrder_b1 k s200 n) (fun s200 => optC (((m_telemetry_New 5)).1) (optC (((m_telemetry_New 5)).1) (some false) (fun sp261 => some false)) (fun sp249 => optC (((m_telemetry_New 5)).1) (some false) (fun sp279 => if (!decide ((((m_telemetry_New 5)).2) = 0)) || (!decide ((((m_telemetry_New 5)).2) = 0)) then (some false) else (forI (fun k y s331 n => m_gridhallkeep4_TelemetryOrder_b2 k y s331.1 s331.2 n) (fun s331 => forN (fun k s408 n => m_gridhallkeep4_TelemetryOrder_b3 turn s200 k s408.1 s408.2 n) (fun s408 => (m_gridhallkeep4_telemetryFact).bind fun r439 => if r439 then ((m_telemetry_Points_List (S_telemetry_Points.mk s331.1 s331.2)).bind fun r442 => (m_telemetry_Points_List (S_telemetry_Points.mk s408.1 s408.2)).bind fun r447 => (m_slices_Equal_api_TelemetryMsg_api_TelemetryMsg r442 r447).bind fun r452 => some r452) else (some false)) ((s200.length : Int) : Int).toNat 0 (sp279.age, sp279.all_)) 0 s200 (sp249.age, sp249.all_))))) zs206 (k109 + 1)) = some r := hm
    generalize hn202 : forN (fun k s200 n => m_gridhallkeep4_TelemetryOrder_b1 k s200 n) (fun s200 => optC (((m_telemetry_New 5)).1) (optC (((m_telemetry_New 5)).1) (some false) (fun sp261 => some false)) (fun sp249 => optC (((m_telemetry_New 5)).1) (some false) (fun sp279 => if (!decide ((((m_telemetry_New 5)).2) = 0)) || (!decide ((((m_telemetry_New 5)).2) = 0)) then (some false) else (forI (fun k y s331 n => m_gridhallkeep4_TelemetryOrder_b2 k y s331.1 s331.2 n) (fun s331 => forN (fun k s408 n => m_gridhallkeep4_TelemetryOrder_b3 turn s200 k s408.1 s408.2 n) (fun s408 => (m_gridhallkeep4_telemetryFact).bind fun r439 => if r439 then ((m_telemetry_Points_List (S_telemetry_Points.mk s331.1 s331.2)).bind fun r442 => (m_telemetry_Points_List (S_telemetry_Points.mk s408.1 s408.2)).bind fun r447 => (m_slices_Equal_api_TelemetryMsg_api_TelemetryMsg r442 r447).bind fun r452 => some r452) else (some false)) ((s200.length : Int) : Int).toNat 0 (sp279.age, sp279.all_)) 0 s200 (sp249.age, sp249.all_))))) zs206 (k109 + 1) = nx201 at hm
    unfold m_gridhallkeep4_TelemetryOrder_b1 at hm
    refine C_skip (E_then ?_)
    refine C_seq ?_
    refine C_block ?_
    refine C_seq ?_
    refine C_region ?_
    refine W_move rfl rfl rfl ?_
    refine W_assign rfl rfl rfl ?_
    refine W_end ?_
    refine E_then ?_
    refine C_seq ?_
    refine C_region ?_
    refine W_move rfl rfl rfl ?_
    refine W_move rfl rfl rfl ?_
    refine W_move rfl rfl rfl ?_
    refine W_move rfl rfl rfl ?_
    obtain ⟨y211, h212, he213, hm⟩ := idx_some hm
    refine W_indexO (List.mem_cons_self ..) rfl rfl Proofs.Try.runUnderlying28 Proofs.Try.sizeOf35 rfl rfl h212 (List.getElem?_eq_some_iff.1 he213).1 ?_
    obtain ⟨_, rfl, hg214⟩ := (hr197).elem he213
    refine W_field (o := 1) rfl rfl Proofs.Try.runUnderlying35 rfl Proofs.Try.sizeOf3 rfl rfl rfl ?_
    refine W_load rfl rfl Proofs.Try.isAgg3 rfl (row_one (o := 1) (List.mem_cons_self ..) hg214 rfl) ?_
    obtain ⟨r215, hc216, hm⟩ := bind_some hm
    refine W_call Proofs.Try.call13 rfl rfl rfl (fun w ht => by have h := m_gridhallref4_Cut_c (hm := hc216)  ht; exact h) ?_
    rintro _ _ _ ⟨rfl, rfl, rfl⟩
    obtain ⟨y217, h218, he219, hm⟩ := idx_some hm
    refine W_indexO (List.mem_cons_self ..) rfl rfl Proofs.Try.runUnderlying28 Proofs.Try.sizeOf35 rfl rfl h218 (List.getElem?_eq_some_iff.1 he219).1 ?_
    obtain ⟨_, rfl, hg220⟩ := (hr197).elem he219
    refine W_field (o := 1) rfl rfl Proofs.Try.runUnderlying35 rfl Proofs.Try.sizeOf3 rfl rfl rfl ?_
    obtain ⟨hr221, he222, hg223⟩ := Rw.put (cs := [.int .i64 (r215)]) (o := 1) (c := [.string (y217.Point), .int .i64 (y217.Number), .int .i64 (y217.Time), .int .i64 (y217.Value)]) (out := [.string (y217.Point), .int .i64 (r215), .int .i64 (y217.Time), .int .i64 (y217.Value)]) (e2 := (S_api_TelemetryMsg.mk y217.Point r215 y217.Time y217.Value)) hr197 he219 rfl hg220 rfl rfl rfl
    refine W_storeO2 (i := ((k109 : Int) : Int).toNat * Rep.sz S_api_TelemetryMsg + 1) (cs := [.int .i64 (r215)]) rfl Proofs.Try.sizeOf3 rfl (row_ad _ _ _) rfl rfl rfl (Rw.room hr197 he219 rfl) rfl (all_cons rfl all_nil) (n' := (l196.set (((k109 : Int) : Int).toNat) (S_api_TelemetryMsg.mk y217.Point r215 y217.Time y217.Value)).length) List.length_set ?_
    generalize over xs195 (((k109 : Int) : Int).toNat * Rep.sz S_api_TelemetryMsg + 1) [.int .i64 (r215)] = xs224 at hr221 hg223 ⊢
    refine W_end ?_
    refine E_then ?_
    refine C_seq ?_
    refine C_region ?_
    refine W_move rfl rfl rfl ?_
    refine W_move rfl rfl rfl ?_
    refine W_move rfl rfl rfl ?_
    refine W_move rfl rfl rfl ?_
    obtain ⟨y225, h226, he227, hm⟩ := idx_some hm
    refine W_indexO (List.mem_cons_self ..) rfl rfl Proofs.Try.runUnderlying28 Proofs.Try.sizeOf35 rfl rfl h226 (List.getElem?_eq_some_iff.1 he227).1 ?_
    obtain ⟨_, rfl, hg228⟩ := (hr221).elem he227
    refine W_field (o := 1) rfl rfl Proofs.Try.runUnderlying35 rfl Proofs.Try.sizeOf3 rfl rfl rfl ?_
    refine W_load rfl rfl Proofs.Try.isAgg3 rfl (row_one (o := 1) (List.mem_cons_self ..) hg228 rfl) ?_
    refine W_bin rfl rfl rfl rfl rfl ?_
    obtain ⟨y229, h230, he231, hm⟩ := idx_some hm
    refine W_indexO (List.mem_cons_self ..) rfl rfl Proofs.Try.runUnderlying28 Proofs.Try.sizeOf35 rfl rfl h230 (List.getElem?_eq_some_iff.1 he231).1 ?_
    obtain ⟨_, rfl, hg232⟩ := (hr221).elem he231
    refine W_field (o := 2) rfl rfl Proofs.Try.runUnderlying35 rfl Proofs.Try.sizeOf3 rfl rfl rfl ?_
    obtain ⟨hr233, he234, hg235⟩ := Rw.put (cs := [.int .i64 (IntKind.i64.wrap (10 * y225.Number))]) (o := 2) (c := [.string (y229.Point), .int .i64 (y229.Number), .int .i64 (y229.Time), .int .i64 (y229.Value)]) (out := [.string (y229.Point), .int .i64 (y229.Number), .int .i64 (IntKind.i64.wrap (10 * y225.Number)), .int .i64 (y229.Value)]) (e2 := (S_api_TelemetryMsg.mk y229.Point y229.Number (IntKind.i64.wrap (10 * y225.Number)) y229.Value)) hr221 he231 rfl hg232 rfl rfl rfl
    refine W_storeO2 (i := ((k109 : Int) : Int).toNat * Rep.sz S_api_TelemetryMsg + 2) (cs := [.int .i64 (IntKind.i64.wrap (10 * y225.Number))]) rfl Proofs.Try.sizeOf3 rfl (row_ad _ _ _) rfl rfl rfl (Rw.room hr221 he231 rfl) rfl (all_cons rfl all_nil) (n' := ((l196.set (((k109 : Int) : Int).toNat) (S_api_TelemetryMsg.mk y217.Point r215 y217.Time y217.Value)).set (((k109 : Int) : Int).toNat) (S_api_TelemetryMsg.mk y229.Point y229.Number (IntKind.i64.wrap (10 * y225.Number)) y229.Value)).length) List.length_set ?_
    generalize over xs224 (((k109 : Int) : Int).toNat * Rep.sz S_api_TelemetryMsg + 2) [.int .i64 (IntKind.i64.wrap (10 * y225.Number))] = xs236 at hr233 hg235 ⊢
    refine W_end ?_
    refine E_then ?_
    refine C_region ?_
    refine W_move rfl rfl rfl ?_
    refine W_move rfl rfl rfl ?_
    refine W_move rfl rfl rfl ?_
    refine W_move rfl rfl rfl ?_
    obtain ⟨y237, h238, he239, hm⟩ := idx_some hm
    refine W_indexO (List.mem_cons_self ..) rfl rfl Proofs.Try.runUnderlying28 Proofs.Try.sizeOf35 rfl rfl h238 (List.getElem?_eq_some_iff.1 he239).1 ?_
    obtain ⟨_, rfl, hg240⟩ := (hr233).elem he239
    refine W_field (o := 1) rfl rfl Proofs.Try.runUnderlying35 rfl Proofs.Try.sizeOf3 rfl rfl rfl ?_
    refine W_load rfl rfl Proofs.Try.isAgg3 rfl (row_one (o := 1) (List.mem_cons_self ..) hg240 rfl) ?_
    refine W_rem rfl rfl rfl rfl (by decide) ?_
    obtain ⟨y241, h242, he243, hm⟩ := idx_some hm
    refine W_indexO (List.mem_cons_self ..) rfl rfl Proofs.Try.runUnderlying28 Proofs.Try.sizeOf35 rfl rfl h242 (List.getElem?_eq_some_iff.1 he243).1 ?_
    obtain ⟨_, rfl, hg244⟩ := (hr233).elem he243
    refine W_field (o := 3) rfl rfl Proofs.Try.runUnderlying35 rfl Proofs.Try.sizeOf3 rfl rfl rfl ?_
    obtain ⟨hr245, he246, hg247⟩ := Rw.put (cs := [.int .i64 (Int.tmod y237.Number 7)]) (o := 3) (c := [.string (y241.Point), .int .i64 (y241.Number), .int .i64 (y241.Time), .int .i64 (y241.Value)]) (out := [.string (y241.Point), .int .i64 (y241.Number), .int .i64 (y241.Time), .int .i64 (Int.tmod y237.Number 7)]) (e2 := (S_api_TelemetryMsg.mk y241.Point y241.Number y241.Time (Int.tmod y237.Number 7))) hr233 he243 rfl hg244 rfl rfl rfl
    refine W_storeO2 (i := ((k109 : Int) : Int).toNat * Rep.sz S_api_TelemetryMsg + 3) (cs := [.int .i64 (Int.tmod y237.Number 7)]) rfl Proofs.Try.sizeOf3 rfl (row_ad _ _ _) rfl rfl rfl (Rw.room hr233 he243 rfl) rfl (all_cons rfl all_nil) (n' := (((l196.set (((k109 : Int) : Int).toNat) (S_api_TelemetryMsg.mk y217.Point r215 y217.Time y217.Value)).set (((k109 : Int) : Int).toNat) (S_api_TelemetryMsg.mk y229.Point y229.Number (IntKind.i64.wrap (10 * y225.Number)) y229.Value)).set (((k109 : Int) : Int).toNat) (S_api_TelemetryMsg.mk y241.Point y241.Number y241.Time (Int.tmod y237.Number 7))).length) List.length_set ?_
    generalize over xs236 (((k109 : Int) : Int).toNat * Rep.sz S_api_TelemetryMsg + 3) [.int .i64 (Int.tmod y237.Number 7)] = xs248 at hr245 hg247 ⊢
    refine W_end ?_
    refine E_normal_block ?_
    refine E_then ?_
    refine C_region ?_
    refine W_bin rfl rfl rfl rfl rfl ?_
    refine W_move rfl rfl rfl ?_
    refine W_end ?_
    exact E_keepJ (E_back (Nat.lt_succ_self _) ⟨k109 + 1, zs206, (((l196.set (((k109 : Int) : Int).toNat) (S_api_TelemetryMsg.mk y217.Point r215 y217.Time y217.Value)).set (((k109 : Int) : Int).toNat) (S_api_TelemetryMsg.mk y229.Point y229.Number (IntKind.i64.wrap (10 * y225.Number)) y229.Value)).set (((k109 : Int) : Int).toNat) (S_api_TelemetryMsg.mk y241.Point y241.Number y241.Time (Int.tmod y237.Number 7))), xs248, hd209, rfl, (by rw [hn202]; exact hm), hr245, hle199, rfl, rfl⟩) (List.Perm.refl _) ⟨rfl, rfl, rfl, (congrArg (fun z => some (Value.int .i64 z)) (i64_succN hy207 (toNat_max (len_max hmx204)))), trivial⟩
  · obtain rfl := rngN_f hd208 hb210
    have hm : (optC (((m_telemetry_New 5)).1) (optC (((m_telemetry_New 5)).1) (some false) (fun sp261 => some false)) (fun sp249 => optC (((m_telemetry_New 5)).1) (some false) (fun sp279 => if (!decide ((((m_telemetry_New 5)).2) = 0)) || (!decide ((((m_telemetry_New 5)).2) = 0)) then (some false) else (forI (fun k y s331 n => m_gridhallkeep4_TelemetryOrder_b2 k y s331.1 s331.2 n) (fun s331 => forN (fun k s408 n => m_gridhallkeep4_TelemetryOrder_b3 turn l196 k s408.1 s408.2 n) (fun s408 => (m_gridhallkeep4_telemetryFact).bind fun r439 => if r439 then ((m_telemetry_Points_List (S_telemetry_Points.mk s331.1 s331.2)).bind fun r442 => (m_telemetry_Points_List (S_telemetry_Points.mk s408.1 s408.2)).bind fun r447 => (m_slices_Equal_api_TelemetryMsg_api_TelemetryMsg r442 r447).bind fun r452 => some r452) else (some false)) ((l196.length : Int) : Int).toNat 0 (sp279.age, sp279.all_)) 0 l196 (sp249.age, sp249.all_))))) = some r := hm
    refine C_exit (E_exit_then ?_)
    refine E_exit_then ?_
    refine E_exit_hit ?_
    refine E_then ?_
    refine C_seq ?_
    refine C_region ?_
    refine W_call Proofs.Try.call10 rfl rfl rfl (fun w ht => by have h := m_telemetry_New_c (hm := (rfl : m_telemetry_New 5 = _))  ht; exact h) ?_
    rintro _ H260 _ (⟨hn254, hle256, rfl, rfl⟩ | ⟨sp249, hn257, hle259, b250, v251, xs252, rfl, rfl, h253⟩)
    · have hm := optC_n hn254 hm
      refine W_move rfl rfl rfl ?_
      refine W_extract rfl rfl rfl rfl ?_
      refine W_extract rfl rfl rfl rfl ?_
      refine W_assign rfl rfl rfl ?_
      refine W_assign rfl rfl rfl ?_
      refine W_end ?_
      refine E_then ?_
      refine C_seq ?_
      refine C_region ?_
      refine W_call Proofs.Try.call10 rfl rfl rfl (fun w ht => by have h := m_telemetry_New_c (hm := (rfl : m_telemetry_New 5 = _))  ht; exact h) ?_
      rintro _ H272 _ (⟨hn266, hle268, rfl, rfl⟩ | ⟨sp261, hn269, hle271, b262, v263, xs264, rfl, rfl, h265⟩)
      · have hm := optC_n hn266 hm
        refine W_move rfl rfl rfl ?_
        refine W_extract rfl rfl rfl rfl ?_
        refine W_extract rfl rfl rfl rfl ?_
        refine W_assign rfl rfl rfl ?_
        refine W_assign rfl rfl rfl ?_
        refine W_end ?_
        refine E_then ?_
        refine C_seq ?_
        refine C_seq_join (fun H' M' L' => H272 = H' ∧ .row v106 35 (Rep.sz S_api_TelemetryMsg) l196.length xs195 :: M = M' ∧ [(0, v106), (1, .int .i64 (turn)), (6, .pointer none), (8, .pointer none), (77, .bool (true))] = L') ?_ (fun J274 => ?_)
        · rintro _ _ _ ⟨rfl, rfl, rfl⟩
          refine C_cond (b := true) rfl (fun _ => ?_) (fun hb => Bool.noConfusion hb)
          refine C_seq ?_
          refine C_region ?_
          refine W_assign rfl rfl rfl ?_
          refine W_end ?_
          refine E_then ?_
          refine C_ret ?_
          refine E_ret_then ?_
          obtain rfl := Option.some.inj hm
          refine E_drop (List.Sublist.cons _ (List.Sublist.refl _)) ?_
          refine E_weak (Hp.le_trans (Hp.le_trans hle199 hle256) hle268) ?_
          exact end1 rfl rfl ⟨rfl, rfl, rfl⟩
        · refine C_region ?_
          refine W_move rfl rfl rfl ?_
          refine W_bin rfl rfl rfl rfl rfl ?_
          refine W_move rfl rfl rfl ?_
          cases hb275 : (decide ((((m_telemetry_New 5)).2) = 0))
          · refine W_no rfl rfl rfl ?_
            refine W_no rfl rfl rfl ?_
            refine W_pick rfl rfl rfl rfl ?_
            refine W_move rfl rfl rfl ?_
            refine W_no rfl rfl rfl ?_
            refine W_no rfl rfl rfl ?_
            refine W_pick rfl rfl rfl rfl ?_
            refine W_move rfl rfl rfl ?_
            refine W_no rfl rfl rfl ?_
            refine W_no rfl rfl rfl ?_
            refine W_pick rfl rfl rfl rfl ?_
            refine W_end ?_
            exact E_keepJ (J274 _ _ _ ⟨rfl, rfl, rfl⟩) (List.Perm.refl _) ⟨rfl, rfl, rfl, rfl, rfl, trivial⟩
          · refine W_move rfl rfl rfl ?_
            refine W_bin rfl rfl rfl rfl rfl ?_
            refine W_pick rfl rfl rfl rfl ?_
            refine W_move rfl rfl rfl ?_
            rw [hb275]
            refine W_move rfl rfl rfl ?_
            refine W_ptrNil rfl rfl Proofs.Try.runUnderlying29 rfl rfl ?_
            refine W_pick rfl rfl rfl rfl ?_
            refine W_move rfl rfl rfl ?_
            refine W_no rfl rfl rfl ?_
            refine W_no rfl rfl rfl ?_
            refine W_pick rfl rfl rfl rfl ?_
            refine W_end ?_
            exact E_keepJ (J274 _ _ _ ⟨rfl, rfl, rfl⟩) (List.Perm.refl _) ⟨rfl, rfl, rfl, rfl, rfl, trivial⟩
      · have hm := optC_s hn269 hm
        refine W_move rfl rfl rfl ?_
        refine W_extract rfl rfl rfl rfl ?_
        refine W_extract rfl rfl rfl rfl ?_
        refine W_assign rfl rfl rfl ?_
        refine W_assign rfl rfl rfl ?_
        refine W_end ?_
        refine E_then ?_
        refine C_seq ?_
        refine C_seq_join (fun H' M' L' => H272 = H' ∧ .obj b262 (.cells [.int .i64 (sp261.age), v263].toArray 53 (0, 0)) :: .row v263 57 (Rep.sz S_telemetry_point) sp261.all_.length xs264 :: .row v106 35 (Rep.sz S_api_TelemetryMsg) l196.length xs195 :: M = M' ∧ [(0, v106), (1, .int .i64 (turn)), (6, .pointer none), (8, .pointer (some ⟨b262, 0, none⟩)), (77, .bool (true))] = L') ?_ (fun J277 => ?_)
        · rintro _ _ _ ⟨rfl, rfl, rfl⟩
          refine C_cond (b := true) rfl (fun _ => ?_) (fun hb => Bool.noConfusion hb)
          refine C_seq ?_
          refine C_region ?_
          refine W_assign rfl rfl rfl ?_
          refine W_end ?_
          refine E_then ?_
          refine C_ret ?_
          refine E_ret_then ?_
          obtain rfl := Option.some.inj hm
          refine E_drop (List.Sublist.cons _ (List.Sublist.cons _ (List.Sublist.cons _ (List.Sublist.refl _)))) ?_
          refine E_weak (Hp.le_trans (Hp.le_trans hle199 hle256) hle271) ?_
          exact end1 rfl rfl ⟨rfl, rfl, rfl⟩
        · refine C_region ?_
          refine W_move rfl rfl rfl ?_
          refine W_bin rfl rfl rfl rfl rfl ?_
          refine W_move rfl rfl rfl ?_
          cases hb278 : (decide ((((m_telemetry_New 5)).2) = 0))
          · refine W_no rfl rfl rfl ?_
            refine W_no rfl rfl rfl ?_
            refine W_pick rfl rfl rfl rfl ?_
            refine W_move rfl rfl rfl ?_
            refine W_no rfl rfl rfl ?_
            refine W_no rfl rfl rfl ?_
            refine W_pick rfl rfl rfl rfl ?_
            refine W_move rfl rfl rfl ?_
            refine W_no rfl rfl rfl ?_
            refine W_no rfl rfl rfl ?_
            refine W_pick rfl rfl rfl rfl ?_
            refine W_end ?_
            exact E_keepJ (J277 _ _ _ ⟨rfl, rfl, rfl⟩) (List.Perm.refl _) ⟨rfl, rfl, rfl, rfl, rfl, trivial⟩
          · refine W_move rfl rfl rfl ?_
            refine W_bin rfl rfl rfl rfl rfl ?_
            refine W_pick rfl rfl rfl rfl ?_
            refine W_move rfl rfl rfl ?_
            rw [hb278]
            refine W_move rfl rfl rfl ?_
            refine W_ptrNil rfl rfl Proofs.Try.runUnderlying29 rfl rfl ?_
            refine W_pick rfl rfl rfl rfl ?_
            refine W_move rfl rfl rfl ?_
            refine W_no rfl rfl rfl ?_
            refine W_no rfl rfl rfl ?_
            refine W_pick rfl rfl rfl rfl ?_
            refine W_end ?_
            exact E_keepJ (J277 _ _ _ ⟨rfl, rfl, rfl⟩) (List.Perm.refl _) ⟨rfl, rfl, rfl, rfl, rfl, trivial⟩
    · have hm := optC_s hn257 hm
      refine W_move rfl rfl rfl ?_
      refine W_extract rfl rfl rfl rfl ?_
      refine W_extract rfl rfl rfl rfl ?_
      refine W_assign rfl rfl rfl ?_
      refine W_assign rfl rfl rfl ?_
      refine W_end ?_
      refine E_then ?_
      refine C_seq ?_
      refine C_region ?_
      refine W_call Proofs.Try.call10 rfl rfl rfl (fun w ht => by have h := m_telemetry_New_c (hm := (rfl : m_telemetry_New 5 = _))  ht; exact h) ?_
      rintro _ H290 _ (⟨hn284, hle286, rfl, rfl⟩ | ⟨sp279, hn287, hle289, b280, v281, xs282, rfl, rfl, h283⟩)
      · have hm := optC_n hn284 hm
        refine W_move rfl rfl rfl ?_
        refine W_extract rfl rfl rfl rfl ?_
        refine W_extract rfl rfl rfl rfl ?_
        refine W_assign rfl rfl rfl ?_
        refine W_assign rfl rfl rfl ?_
        refine W_end ?_
        refine E_then ?_
        refine C_seq ?_
        refine C_seq_join (fun H' M' L' => H290 = H' ∧ .obj b250 (.cells [.int .i64 (sp249.age), v251].toArray 53 (0, 0)) :: .row v251 57 (Rep.sz S_telemetry_point) sp249.all_.length xs252 :: .row v106 35 (Rep.sz S_api_TelemetryMsg) l196.length xs195 :: M = M' ∧ [(0, v106), (1, .int .i64 (turn)), (6, .pointer (some ⟨b250, 0, none⟩)), (8, .pointer none), (77, .bool (true))] = L') ?_ (fun J292 => ?_)
        · rintro _ _ _ ⟨rfl, rfl, rfl⟩
          refine C_cond (b := true) rfl (fun _ => ?_) (fun hb => Bool.noConfusion hb)
          refine C_seq ?_
          refine C_region ?_
          refine W_assign rfl rfl rfl ?_
          refine W_end ?_
          refine E_then ?_
          refine C_ret ?_
          refine E_ret_then ?_
          obtain rfl := Option.some.inj hm
          refine E_drop (List.Sublist.cons _ (List.Sublist.cons _ (List.Sublist.cons _ (List.Sublist.refl _)))) ?_
          refine E_weak (Hp.le_trans (Hp.le_trans hle199 hle259) hle286) ?_
          exact end1 rfl rfl ⟨rfl, rfl, rfl⟩
        · refine C_region ?_
          refine W_move rfl rfl rfl ?_
          refine W_bin rfl rfl rfl rfl rfl ?_
          refine W_move rfl rfl rfl ?_
          cases hb293 : (decide ((((m_telemetry_New 5)).2) = 0))
          · refine W_no rfl rfl rfl ?_
            refine W_no rfl rfl rfl ?_
            refine W_pick rfl rfl rfl rfl ?_
            refine W_move rfl rfl rfl ?_
            refine W_no rfl rfl rfl ?_
            refine W_no rfl rfl rfl ?_
            refine W_pick rfl rfl rfl rfl ?_
            refine W_move rfl rfl rfl ?_
            refine W_no rfl rfl rfl ?_
            refine W_no rfl rfl rfl ?_
            refine W_pick rfl rfl rfl rfl ?_
            refine W_end ?_
            exact E_keepJ (J292 _ _ _ ⟨rfl, rfl, rfl⟩) (List.Perm.refl _) ⟨rfl, rfl, rfl, rfl, rfl, trivial⟩
          · refine W_move rfl rfl rfl ?_
            refine W_bin rfl rfl rfl rfl rfl ?_
            refine W_pick rfl rfl rfl rfl ?_
            refine W_move rfl rfl rfl ?_
            rw [hb293]
            refine W_move rfl rfl rfl ?_
            refine W_ptrNil rfl rfl Proofs.Try.runUnderlying29 rfl rfl ?_
            refine W_pick rfl rfl rfl rfl ?_
            refine W_move rfl rfl rfl ?_
            refine W_move rfl rfl rfl ?_
            refine W_ptrNil rfl rfl Proofs.Try.runUnderlying29 rfl rfl ?_
            refine W_pick rfl rfl rfl rfl ?_
            refine W_end ?_
            exact E_keepJ (J292 _ _ _ ⟨rfl, rfl, rfl⟩) (List.Perm.refl _) ⟨rfl, rfl, rfl, rfl, rfl, trivial⟩
      · have hm := optC_s hn287 hm
        refine W_move rfl rfl rfl ?_
        refine W_extract rfl rfl rfl rfl ?_
        refine W_extract rfl rfl rfl rfl ?_
        refine W_assign rfl rfl rfl ?_
        refine W_assign rfl rfl rfl ?_
        refine W_end ?_
        refine E_then ?_
        refine C_seq ?_
        refine C_seq_join (fun H' M' L' => H290 = H' ∧ .obj b280 (.cells [.int .i64 (sp279.age), v281].toArray 53 (0, 0)) :: .row v281 57 (Rep.sz S_telemetry_point) sp279.all_.length xs282 :: .obj b250 (.cells [.int .i64 (sp249.age), v251].toArray 53 (0, 0)) :: .row v251 57 (Rep.sz S_telemetry_point) sp249.all_.length xs252 :: .row v106 35 (Rep.sz S_api_TelemetryMsg) l196.length xs195 :: M = M' ∧ [(0, v106), (1, .int .i64 (turn)), (6, .pointer (some ⟨b250, 0, none⟩)), (8, .pointer (some ⟨b280, 0, none⟩)), (77, .bool ((!decide ((((m_telemetry_New 5)).2) = 0)) || (!decide ((((m_telemetry_New 5)).2) = 0))))] = L') ?_ (fun J295 => ?_)
        · rintro _ _ _ ⟨rfl, rfl, rfl⟩
          refine C_cond (b := (!decide ((((m_telemetry_New 5)).2) = 0)) || (!decide ((((m_telemetry_New 5)).2) = 0))) rfl (fun hb296 => ?_) (fun hb296 => ?_)
          · have hm := ite_t' hb296 hm
            refine C_seq ?_
            refine C_region ?_
            refine W_assign rfl rfl rfl ?_
            refine W_end ?_
            refine E_then ?_
            refine C_ret ?_
            refine E_ret_then ?_
            obtain rfl := Option.some.inj hm
            refine E_drop (List.Sublist.cons _ (List.Sublist.cons _ (List.Sublist.cons _ (List.Sublist.cons _ (List.Sublist.cons _ (List.Sublist.refl _)))))) ?_
            refine E_weak (Hp.le_trans (Hp.le_trans hle199 hle259) hle289) ?_
            exact end1 rfl rfl ⟨rfl, rfl, rfl⟩
          · have hm := ite_f' hb296 hm
            refine C_skip ?_
            refine E_then ?_
            refine C_seq ?_
            refine C_seq ?_
            refine C_region ?_
            refine W_move rfl rfl rfl ?_
            refine W_lenO (List.mem_cons_of_mem _ (List.mem_cons_of_mem _ (List.mem_cons_of_mem _ (List.mem_cons_of_mem _ (List.mem_cons_self ..))))) rfl rfl Proofs.Try.runUnderlying28 rfl ?_
            refine W_move rfl rfl rfl ?_
            refine W_end ?_
            refine E_then ?_
            refine C_block ?_
            refine C_rowMax (List.mem_cons_of_mem _ (List.mem_cons_of_mem _ (List.mem_cons_of_mem _ (List.mem_cons_of_mem _ (List.mem_cons_self ..))))) (fun hmx335 => ?_)
            refine C_keep (L' := [(0, v106), (1, .int .i64 (turn)), (6, .pointer (some ⟨b250, 0, none⟩)), (8, .pointer (some ⟨b280, 0, none⟩)), (78, v106), (79, .int .i64 ((l196.length : Int))), (80, .int .i64 (((0 : Nat) : Int)))]) ⟨rfl, rfl, rfl, rfl, rfl, rfl, rfl, trivial⟩ (List.Perm.trans (List.Perm.cons _ (List.Perm.cons _ (List.Perm.swap _ _ _))) (List.Perm.trans (List.Perm.cons _ (List.Perm.swap _ _ _)) (List.Perm.swap _ _ _))) ?_
            refine C_loop (fun n H' M' L' => ∃ (k297 : Nat) (zs337' : List S_api_TelemetryMsg), ∃ n324 : Int, ∃ l327 : List S_telemetry_point, ∃ v325 : Value, ∃ xs326 : List Value, (l196).drop k297 = zs337' ∧ zs337'.length = n ∧ forI (fun k y s331 n => m_gridhallkeep4_TelemetryOrder_b2 k y s331.1 s331.2 n) (fun s331 => forN (fun k s408 n => m_gridhallkeep4_TelemetryOrder_b3 turn l196 k s408.1 s408.2 n) (fun s408 => (m_gridhallkeep4_telemetryFact).bind fun r439 => if r439 then ((m_telemetry_Points_List (S_telemetry_Points.mk s331.1 s331.2)).bind fun r442 => (m_telemetry_Points_List (S_telemetry_Points.mk s408.1 s408.2)).bind fun r447 => (m_slices_Equal_api_TelemetryMsg_api_TelemetryMsg r442 r447).bind fun r452 => some r452) else (some false)) ((l196.length : Int) : Int).toNat 0 (sp279.age, sp279.all_)) k297 zs337' (n324, l327) = some r ∧ Rw H' v325 xs326 l327 ∧ H290.le H' ∧ .row v325 57 (Rep.sz S_telemetry_point) l327.length xs326 :: .obj b280 (.cells [.int .i64 (sp279.age), v281].toArray 53 (0, 0)) :: .row v281 57 (Rep.sz S_telemetry_point) sp279.all_.length xs282 :: .obj b250 (.cells [.int .i64 (n324), v325].toArray 53 (0, 0)) :: .row v106 35 (Rep.sz S_api_TelemetryMsg) l196.length xs195 :: M = M' ∧ [(0, v106), (1, .int .i64 (turn)), (6, .pointer (some ⟨b250, 0, none⟩)), (8, .pointer (some ⟨b280, 0, none⟩)), (78, v106), (79, .int .i64 ((l196.length : Int))), (80, .int .i64 ((k297 : Int)))] = L') _ ⟨0, _, sp249.age, sp249.all_, v251, xs252, rfl, rfl, hm, (h253.mono hle289), (Hp.le_refl _), rfl, rfl⟩ ?_
            rintro _ H329 _ _ ⟨k297, zs337', n324, l327, v325, xs326, hd339, rfl, hm, hr328, hle330, rfl, rfl⟩
            refine C_seq ?_
            refine C_region ?_
            refine W_bin rfl rfl rfl rfl rfl ?_
            refine W_end (E_then ?_)
            refine C_seq ?_
            refine C_cond (b := decide ((k297 : Int) < (l196.length : Int))) rfl (fun hb341 => ?_) (fun hb341 => ?_)
            · obtain ⟨y336, zs337, rfl, hy338, hd340⟩ := rng_t hd339 hb341
              have hm : m_gridhallkeep4_TelemetryOrder_b2 k297 y336 n324 l327 (forI (fun k y s331 n => m_gridhallkeep4_TelemetryOrder_b2 k y s331.1 s331.2 n) (fun s331 => forN (fun k s408 n => m_gridhallkeep4_TelemetryOrder_b3 turn l196 k s408.1 s408.2 n) (fun s408 => (m_gridhallkeep4_telemetryFact).bind fun r439 => if r439 then ((m_telemetry_Points_List (S_telemetry_Points.mk s331.1 s331.2)).bind fun r442 => (m_telemetry_Points_List (S_telemetry_Points.mk s408.1 s408.2)).bind fun r447 => (m_slices_Equal_api_TelemetryMsg_api_TelemetryMsg r442 r447).bind fun r452 => some r452) else (some false)) ((l196.length : Int) : Int).toNat 0 (sp279.age, sp279.all_)) (k297 + 1) zs337) = some r := hm
              generalize hn333 : forI (fun k y s331 n => m_gridhallkeep4_TelemetryOrder_b2 k y s331.1 s331.2 n) (fun s331 => forN (fun k s408 n => m_gridhallkeep4_TelemetryOrder_b3 turn l196 k s408.1 s408.2 n) (fun s408 => (m_gridhallkeep4_telemetryFact).bind fun r439 => if r439 then ((m_telemetry_Points_List (S_telemetry_Points.mk s331.1 s331.2)).bind fun r442 => (m_telemetry_Points_List (S_telemetry_Points.mk s408.1 s408.2)).bind fun r447 => (m_slices_Equal_api_TelemetryMsg_api_TelemetryMsg r442 r447).bind fun r452 => some r452) else (some false)) ((l196.length : Int) : Int).toNat 0 (sp279.age, sp279.all_)) (k297 + 1) zs337 = nx332 at hm
              unfold m_gridhallkeep4_TelemetryOrder_b2 at hm
              refine C_skip (E_then ?_)
              refine C_seq ?_
              refine C_block ?_
              refine C_seq ?_
              refine C_region ?_
              refine W_indexO (List.mem_cons_of_mem _ (List.mem_cons_of_mem _ (List.mem_cons_of_mem _ (List.mem_cons_of_mem _ (List.mem_cons_self ..))))) rfl rfl Proofs.Try.runUnderlying28 Proofs.Try.sizeOf35 rfl rfl (Int.natCast_nonneg _) (List.getElem?_eq_some_iff.1 hy338).1 ?_
              obtain ⟨_, rfl, hg342⟩ := (hr197).elem hy338
              refine W_loadAgg (cs := [.string (y336.Point), .int .i64 (y336.Number), .int .i64 (y336.Time), .int .i64 (y336.Value)]) rfl rfl Proofs.Try.isAgg35 Proofs.Try.sizeOf35 rfl (row_cells (List.mem_cons_of_mem _ (List.mem_cons_of_mem _ (List.mem_cons_of_mem _ (List.mem_cons_of_mem _ (List.mem_cons_self ..))))) hg342) rfl ?_
              refine W_alloc (cs := [.string (⟨#[]⟩), .int .i64 (0), .int .i64 (0), .int .i64 (0)]) rfl rfl Proofs.Try.zeroValue35 rfl (fun b343 => ?_)
              refine W_store (cs := [.string (y336.Point), .int .i64 (y336.Number), .int .i64 (y336.Time), .int .i64 (y336.Value)]) (out := [.string (y336.Point), .int .i64 (y336.Number), .int .i64 (y336.Time), .int .i64 (y336.Value)]) rfl Proofs.Try.sizeOf35 rfl rfl rfl rfl rfl (all_cons rfl (all_cons rfl (all_cons rfl (all_cons rfl all_nil)))) (over_all rfl) ?_
              refine W_end ?_
              refine E_then ?_
              refine C_region ?_
              refine W_move rfl rfl rfl ?_
              refine W_loadAgg rfl rfl Proofs.Try.isAgg35 Proofs.Try.sizeOf35 rfl (own_all (List.mem_cons_self ..)) rfl ?_
              refine W_perm (List.Perm.trans (List.Perm.cons _ (List.Perm.cons _ (List.Perm.cons _ (List.Perm.swap _ _ _)))) (List.Perm.trans (List.Perm.cons _ (List.Perm.cons _ (List.Perm.swap _ _ _))) (List.Perm.trans (List.Perm.cons _ (List.Perm.swap _ _ _)) (List.Perm.trans (List.Perm.swap _ _ _) (List.Perm.cons _ (List.Perm.swap _ _ _)))))) ?_
              obtain ⟨r344, hc345, hm⟩ := bind_some hm
              refine W_call Proofs.Try.call12 rfl rfl rfl (fun w ht => by have h := m_telemetry_Points_Take_c (hm := hc345) hr328 ht; exact h) ?_
              rintro _ _ _ ⟨rfl, v347, xs348, rfl, rfl, h349⟩
              have h349 := h349 H329
              refine W_end ?_
              refine E_normal_block ?_
              refine E_then ?_
              refine C_region ?_
              refine W_bin rfl rfl rfl rfl rfl ?_
              refine W_move rfl rfl rfl ?_
              refine W_end ?_
              refine E_drop (List.Sublist.cons_cons _ (List.Sublist.cons_cons _ (List.Sublist.cons _ (List.Sublist.refl _)))) ?_
              exact E_keepJ (E_back (Nat.lt_succ_self _) ⟨k297 + 1, zs337, r344.2.2.age, r344.2.2.all_, v347, xs348, hd340, rfl, (by rw [hn333]; exact hm), h349, hle330, rfl, rfl⟩) (List.Perm.trans (List.Perm.swap _ _ _) (List.Perm.trans (List.Perm.cons _ (List.Perm.swap _ _ _)) (List.Perm.cons _ (List.Perm.cons _ (List.Perm.swap _ _ _))))) ⟨rfl, rfl, rfl, rfl, rfl, rfl, (congrArg (fun z => some (Value.int .i64 z)) (i64_succ hy338 hmx335)), trivial⟩
            · obtain rfl := rng_f hd339 hb341
              have hm : (forN (fun k s408 n => m_gridhallkeep4_TelemetryOrder_b3 turn l196 k s408.1 s408.2 n) (fun s408 => (m_gridhallkeep4_telemetryFact).bind fun r439 => if r439 then ((m_telemetry_Points_List (S_telemetry_Points.mk n324 l327)).bind fun r442 => (m_telemetry_Points_List (S_telemetry_Points.mk s408.1 s408.2)).bind fun r447 => (m_slices_Equal_api_TelemetryMsg_api_TelemetryMsg r442 r447).bind fun r452 => some r452) else (some false)) ((l196.length : Int) : Int).toNat 0 (sp279.age, sp279.all_)) = some r := hm
              refine C_exit (E_exit_then ?_)
              refine E_exit_then ?_
              refine E_exit_hit ?_
              refine E_then ?_
              refine C_seq ?_
              refine C_seq ?_
              refine C_region ?_
              refine W_move rfl rfl rfl ?_
              refine W_lenO (List.mem_cons_of_mem _ (List.mem_cons_of_mem _ (List.mem_cons_of_mem _ (List.mem_cons_of_mem _ (List.mem_cons_self ..))))) rfl rfl Proofs.Try.runUnderlying28 rfl ?_
              refine W_move rfl rfl rfl ?_
              refine W_end ?_
              refine E_then ?_
              refine C_block ?_
              refine C_rowMax (List.mem_cons_of_mem _ (List.mem_cons_of_mem _ (List.mem_cons_of_mem _ (List.mem_cons_of_mem _ (List.mem_cons_self ..))))) (fun hmx412 => ?_)
              refine C_keep (L' := [(0, v106), (1, .int .i64 (turn)), (6, .pointer (some ⟨b250, 0, none⟩)), (8, .pointer (some ⟨b280, 0, none⟩)), (89, .int .i64 ((l196.length : Int))), (90, .int .i64 (((0 : Nat) : Int)))]) ⟨rfl, rfl, rfl, rfl, rfl, rfl, trivial⟩ (List.Perm.trans (List.Perm.cons _ (List.Perm.swap _ _ _)) (List.Perm.swap _ _ _)) ?_
              refine C_loop (fun n H' M' L' => ∃ (k350 : Nat) (zs414' : Nat), ∃ n401 : Int, ∃ l404 : List S_telemetry_point, ∃ v402 : Value, ∃ xs403 : List Value, k350 + zs414' = ((l196.length : Int) : Int).toNat ∧ zs414' = n ∧ forN (fun k s408 n => m_gridhallkeep4_TelemetryOrder_b3 turn l196 k s408.1 s408.2 n) (fun s408 => (m_gridhallkeep4_telemetryFact).bind fun r439 => if r439 then ((m_telemetry_Points_List (S_telemetry_Points.mk n324 l327)).bind fun r442 => (m_telemetry_Points_List (S_telemetry_Points.mk s408.1 s408.2)).bind fun r447 => (m_slices_Equal_api_TelemetryMsg_api_TelemetryMsg r442 r447).bind fun r452 => some r452) else (some false)) zs414' k350 (n401, l404) = some r ∧ Rw H' v402 xs403 l404 ∧ H329.le H' ∧ .row v402 57 (Rep.sz S_telemetry_point) l404.length xs403 :: .row v325 57 (Rep.sz S_telemetry_point) l327.length xs326 :: .obj b280 (.cells [.int .i64 (n401), v402].toArray 53 (0, 0)) :: .obj b250 (.cells [.int .i64 (n324), v325].toArray 53 (0, 0)) :: .row v106 35 (Rep.sz S_api_TelemetryMsg) l196.length xs195 :: M = M' ∧ [(0, v106), (1, .int .i64 (turn)), (6, .pointer (some ⟨b250, 0, none⟩)), (8, .pointer (some ⟨b280, 0, none⟩)), (89, .int .i64 ((l196.length : Int))), (90, .int .i64 ((k350 : Int)))] = L') _ ⟨0, _, sp279.age, sp279.all_, v281, xs282, Nat.zero_add _, rfl, hm, (h283.mono hle330), (Hp.le_refl _), rfl, rfl⟩ ?_
              rintro _ H406 _ _ ⟨k350, zs414', n401, l404, v402, xs403, hd416, rfl, hm, hr405, hle407, rfl, rfl⟩
              refine C_seq ?_
              refine C_region ?_
              refine W_bin rfl rfl rfl rfl rfl ?_
              refine W_end (E_then ?_)
              refine C_seq ?_
              refine C_cond (b := decide ((k350 : Int) < (l196.length : Int))) rfl (fun hb418 => ?_) (fun hb418 => ?_)
              · obtain ⟨zs414, rfl, hd417, hy415⟩ := rngN_t hd416 hb418
                have hm : m_gridhallkeep4_TelemetryOrder_b3 turn l196 k350 n401 l404 (forN (fun k s408 n => m_gridhallkeep4_TelemetryOrder_b3 turn l196 k s408.1 s408.2 n) (fun s408 => (m_gridhallkeep4_telemetryFact).bind fun r439 => if r439 then ((m_telemetry_Points_List (S_telemetry_Points.mk n324 l327)).bind fun r442 => (m_telemetry_Points_List (S_telemetry_Points.mk s408.1 s408.2)).bind fun r447 => (m_slices_Equal_api_TelemetryMsg_api_TelemetryMsg r442 r447).bind fun r452 => some r452) else (some false)) zs414 (k350 + 1)) = some r := hm
                generalize hn410 : forN (fun k s408 n => m_gridhallkeep4_TelemetryOrder_b3 turn l196 k s408.1 s408.2 n) (fun s408 => (m_gridhallkeep4_telemetryFact).bind fun r439 => if r439 then ((m_telemetry_Points_List (S_telemetry_Points.mk n324 l327)).bind fun r442 => (m_telemetry_Points_List (S_telemetry_Points.mk s408.1 s408.2)).bind fun r447 => (m_slices_Equal_api_TelemetryMsg_api_TelemetryMsg r442 r447).bind fun r452 => some r452) else (some false)) zs414 (k350 + 1) = nx409 at hm
                unfold m_gridhallkeep4_TelemetryOrder_b3 at hm
                refine C_skip (E_then ?_)
                refine C_seq ?_
                refine C_block ?_
                refine C_seq ?_
                refine C_region ?_
                refine W_move rfl rfl rfl ?_
                refine W_assign rfl rfl rfl ?_
                refine W_end ?_
                refine E_then ?_
                refine C_seq ?_
                refine C_region ?_
                refine W_move rfl rfl rfl ?_
                refine W_move rfl rfl rfl ?_
                refine W_move rfl rfl rfl ?_
                refine W_move rfl rfl rfl ?_
                refine W_lenO (List.mem_cons_of_mem _ (List.mem_cons_of_mem _ (List.mem_cons_of_mem _ (List.mem_cons_of_mem _ (List.mem_cons_self ..))))) rfl rfl Proofs.Try.runUnderlying28 rfl ?_
                refine W_bin rfl rfl rfl rfl rfl ?_
                obtain ⟨r419, hc420, hm⟩ := bind_some hm
                refine W_call Proofs.Try.call13 rfl rfl rfl (fun w ht => by have h := m_gridhallref4_Cut_c (hm := hc420)  ht; exact h) ?_
                rintro _ _ _ ⟨rfl, rfl, rfl⟩
                refine W_bin rfl rfl rfl rfl rfl ?_
                refine W_move rfl rfl rfl ?_
                refine W_lenO (List.mem_cons_of_mem _ (List.mem_cons_of_mem _ (List.mem_cons_of_mem _ (List.mem_cons_of_mem _ (List.mem_cons_self ..))))) rfl rfl Proofs.Try.runUnderlying28 rfl ?_
                obtain ⟨hq421, hm⟩ := need_some hm
                refine W_rem rfl rfl rfl rfl hq421 ?_
                obtain ⟨y422, h423, he424, hm⟩ := idx_some hm
                refine W_indexO (List.mem_cons_of_mem _ (List.mem_cons_of_mem _ (List.mem_cons_of_mem _ (List.mem_cons_of_mem _ (List.mem_cons_self ..))))) rfl rfl Proofs.Try.runUnderlying28 Proofs.Try.sizeOf35 rfl rfl h423 (List.getElem?_eq_some_iff.1 he424).1 ?_
                obtain ⟨_, rfl, hg425⟩ := (hr197).elem he424
                refine W_loadAgg (cs := [.string (y422.Point), .int .i64 (y422.Number), .int .i64 (y422.Time), .int .i64 (y422.Value)]) rfl rfl Proofs.Try.isAgg35 Proofs.Try.sizeOf35 rfl (row_cells (List.mem_cons_of_mem _ (List.mem_cons_of_mem _ (List.mem_cons_of_mem _ (List.mem_cons_of_mem _ (List.mem_cons_self ..))))) hg425) rfl ?_
                refine W_alloc (cs := [.string (⟨#[]⟩), .int .i64 (0), .int .i64 (0), .int .i64 (0)]) rfl rfl Proofs.Try.zeroValue35 rfl (fun b426 => ?_)
                refine W_store (cs := [.string (y422.Point), .int .i64 (y422.Number), .int .i64 (y422.Time), .int .i64 (y422.Value)]) (out := [.string (y422.Point), .int .i64 (y422.Number), .int .i64 (y422.Time), .int .i64 (y422.Value)]) rfl Proofs.Try.sizeOf35 rfl rfl rfl rfl rfl (all_cons rfl (all_cons rfl (all_cons rfl (all_cons rfl all_nil)))) (over_all rfl) ?_
                refine W_end ?_
                refine E_then ?_
                refine C_seq ?_
                refine C_region ?_
                refine W_move rfl rfl rfl ?_
                refine W_loadAgg rfl rfl Proofs.Try.isAgg35 Proofs.Try.sizeOf35 rfl (own_all (List.mem_cons_self ..)) rfl ?_
                refine W_perm (List.Perm.trans (List.Perm.cons _ (List.Perm.cons _ (List.Perm.swap _ _ _))) (List.Perm.trans (List.Perm.cons _ (List.Perm.swap _ _ _)) (List.Perm.trans (List.Perm.swap _ _ _) (List.Perm.cons _ (List.Perm.swap _ _ _))))) ?_
                obtain ⟨r427, hc428, hm⟩ := bind_some hm
                refine W_call Proofs.Try.call12 rfl rfl rfl (fun w ht => by have h := m_telemetry_Points_Take_c (hm := hc428) hr405 ht; exact h) ?_
                rintro _ _ _ ⟨rfl, v430, xs431, rfl, rfl, h432⟩
                have h432 := h432 H406
                refine W_end ?_
                refine E_then ?_
                refine C_region ?_
                refine W_move rfl rfl rfl ?_
                refine W_loadAgg rfl rfl Proofs.Try.isAgg35 Proofs.Try.sizeOf35 rfl (own_all (List.mem_cons_of_mem _ (List.mem_cons_of_mem _ (List.mem_cons_self ..)))) rfl ?_
                obtain ⟨r433, hc434, hm⟩ := bind_some hm
                refine W_call Proofs.Try.call12 rfl rfl rfl (fun w ht => by have h := m_telemetry_Points_Take_c (hm := hc434) h432 ht; exact h) ?_
                rintro _ _ _ ⟨rfl, v436, xs437, rfl, rfl, h438⟩
                have h438 := h438 H406
                refine W_end ?_
                refine E_normal_block ?_
                refine E_then ?_
                refine C_region ?_
                refine W_bin rfl rfl rfl rfl rfl ?_
                refine W_move rfl rfl rfl ?_
                refine W_end ?_
                refine E_drop (List.Sublist.cons_cons _ (List.Sublist.cons_cons _ (List.Sublist.cons _ (List.Sublist.refl _)))) ?_
                exact E_keepJ (E_back (Nat.lt_succ_self _) ⟨k350 + 1, zs414, r433.2.2.age, r433.2.2.all_, v436, xs437, hd417, rfl, (by rw [hn410]; exact hm), h438, hle407, rfl, rfl⟩) (List.Perm.trans (List.Perm.swap _ _ _) (List.Perm.cons _ (List.Perm.swap _ _ _))) ⟨rfl, rfl, rfl, rfl, rfl, (congrArg (fun z => some (Value.int .i64 z)) (i64_succN hy415 (toNat_max (len_max hmx412)))), trivial⟩
              · obtain rfl := rngN_f hd416 hb418
                have hm : ((m_gridhallkeep4_telemetryFact).bind fun r439 => if r439 then ((m_telemetry_Points_List (S_telemetry_Points.mk n324 l327)).bind fun r442 => (m_telemetry_Points_List (S_telemetry_Points.mk n401 l404)).bind fun r447 => (m_slices_Equal_api_TelemetryMsg_api_TelemetryMsg r442 r447).bind fun r452 => some r452) else (some false)) = some r := hm
                refine C_exit (E_exit_then ?_)
                refine E_exit_then ?_
                refine E_exit_hit ?_
                refine E_then ?_
                refine C_seq ?_
                refine C_region ?_
                obtain ⟨r439, hc440, hm⟩ := bind_some hm
                refine W_call Proofs.Try.call11 rfl rfl rfl (fun w ht => by have h := m_gridhallkeep4_telemetryFact_c (hm := hc440)  ht; exact h) ?_
                rintro _ _ _ ⟨rfl, rfl, rfl⟩
                refine W_move rfl rfl rfl ?_
                cases hb441 : (r439)
                · have hm := ite_f' hb441 hm
                  refine W_no rfl rfl rfl ?_
                  refine W_no rfl rfl rfl ?_
                  refine W_no rfl rfl rfl ?_
                  refine W_no rfl rfl rfl ?_
                  refine W_no rfl rfl rfl ?_
                  refine W_pick rfl rfl rfl rfl ?_
                  refine W_assign rfl rfl rfl ?_
                  refine W_end ?_
                  refine E_then ?_
                  refine C_ret ?_
                  obtain rfl := Option.some.inj hm
                  refine E_drop (List.Sublist.cons _ (List.Sublist.cons _ (List.Sublist.cons _ (List.Sublist.cons _ (List.Sublist.cons _ (List.Sublist.refl _)))))) ?_
                  refine E_weak (Hp.le_trans (Hp.le_trans (Hp.le_trans (Hp.le_trans hle199 hle259) hle289) hle330) hle407) ?_
                  exact end1 rfl rfl ⟨rfl, rfl, rfl⟩
                · have hm := ite_t' hb441 hm
                  refine W_move rfl rfl rfl ?_
                  refine W_perm (List.Perm.trans (List.Perm.cons _ (List.Perm.cons _ (List.Perm.swap _ _ _))) (List.Perm.trans (List.Perm.cons _ (List.Perm.swap _ _ _)) (List.Perm.trans (List.Perm.swap _ _ _) (List.Perm.cons _ (List.Perm.swap _ _ _))))) ?_
                  obtain ⟨r442, hc443, hm⟩ := bind_some hm
                  refine W_call Proofs.Try.call14 rfl rfl rfl (fun w ht => by have h := m_telemetry_Points_List_c (hm := hc443) (hr328.mono hle407) ht; exact h) ?_
                  rintro _ _ _ ⟨rfl, v444, xs445, rfl, rfl, h446⟩
                  have h446 := h446 H406
                  refine W_move rfl rfl rfl ?_
                  refine W_perm (List.Perm.trans (List.Perm.cons _ (List.Perm.cons _ (List.Perm.cons _ (List.Perm.swap _ _ _)))) (List.Perm.trans (List.Perm.cons _ (List.Perm.cons _ (List.Perm.swap _ _ _))) (List.Perm.trans (List.Perm.cons _ (List.Perm.swap _ _ _)) (List.Perm.trans (List.Perm.swap _ _ _) (List.Perm.trans (List.Perm.cons _ (List.Perm.cons _ (List.Perm.cons _ (List.Perm.swap _ _ _)))) (List.Perm.trans (List.Perm.cons _ (List.Perm.cons _ (List.Perm.swap _ _ _))) (List.Perm.cons _ (List.Perm.swap _ _ _)))))))) ?_
                  obtain ⟨r447, hc448, hm⟩ := bind_some hm
                  refine W_call Proofs.Try.call14 rfl rfl rfl (fun w ht => by have h := m_telemetry_Points_List_c (hm := hc448) hr405 ht; exact h) ?_
                  rintro _ _ _ ⟨rfl, v449, xs450, rfl, rfl, h451⟩
                  have h451 := h451 H406
                  refine W_perm (List.Perm.trans (List.Perm.cons _ (List.Perm.cons _ (List.Perm.swap _ _ _))) (List.Perm.trans (List.Perm.cons _ (List.Perm.swap _ _ _)) (List.Perm.swap _ _ _))) ?_
                  obtain ⟨r452, hc453, hm⟩ := bind_some hm
                  refine W_call Proofs.Try.call17 rfl rfl rfl (fun w ht => by obtain ⟨H0_, hl0_, ht0_, hr0_, bk0_⟩ := ht.lendRow h446 rfl; obtain ⟨H1_, hl1_, ht1_, hr1_, bk1_⟩ := ht0_.lendRow (h451.mono hl0_) rfl; have h := m_slices_Equal_api_TelemetryMsg_api_TelemetryMsg_c (hm := hc453) (hr0_.mono hl1_) hr1_ ht1_; exact lend_back bk0_ (lend_back bk1_ (h))) ?_
                  rintro _ _ _ ⟨rfl, ⟨_, rfl, ⟨_, rfl, rfl, rfl⟩⟩⟩
                  refine W_pick rfl rfl rfl rfl ?_
                  refine W_assign rfl rfl rfl ?_
                  refine W_end ?_
                  refine E_then ?_
                  refine C_ret ?_
                  obtain rfl := Option.some.inj hm
                  refine E_drop (List.Sublist.cons _ (List.Sublist.cons _ (List.Sublist.cons _ (List.Sublist.cons _ (List.Sublist.cons _ (List.Sublist.cons _ (List.Sublist.cons _ (List.Sublist.refl _)))))))) ?_
                  refine E_weak (Hp.le_trans (Hp.le_trans (Hp.le_trans (Hp.le_trans hle199 hle259) hle289) hle330) hle407) ?_
                  exact end1 rfl rfl ⟨rfl, rfl, rfl⟩
        · refine C_region ?_
          refine W_move rfl rfl rfl ?_
          refine W_bin rfl rfl rfl rfl rfl ?_
          refine W_move rfl rfl rfl ?_
          cases hb454 : (decide ((((m_telemetry_New 5)).2) = 0))
          · refine W_no rfl rfl rfl ?_
            refine W_no rfl rfl rfl ?_
            refine W_pick rfl rfl rfl rfl ?_
            refine W_move rfl rfl rfl ?_
            refine W_no rfl rfl rfl ?_
            refine W_no rfl rfl rfl ?_
            refine W_pick rfl rfl rfl rfl ?_
            refine W_move rfl rfl rfl ?_
            refine W_no rfl rfl rfl ?_
            refine W_no rfl rfl rfl ?_
            refine W_pick rfl rfl rfl rfl ?_
            refine W_end ?_
            exact E_keepJ (J295 _ _ _ ⟨rfl, rfl, rfl⟩) (List.Perm.refl _) ⟨rfl, rfl, rfl, rfl, (by show some (Value.bool (true)) = some (Value.bool ((!decide ((((m_telemetry_New 5)).2) = 0)) || (!decide ((((m_telemetry_New 5)).2) = 0)))); simp only [hb454, Bool.and_true, Bool.true_and, Bool.false_and, Bool.and_false, Bool.or_true, Bool.true_or, Bool.or_false, Bool.false_or, Bool.not_true, Bool.not_false]), trivial⟩
          · refine W_move rfl rfl rfl ?_
            refine W_bin rfl rfl rfl rfl rfl ?_
            refine W_pick rfl rfl rfl rfl ?_
            refine W_move rfl rfl rfl ?_
            rw [hb454]
            refine W_move rfl rfl rfl ?_
            refine W_ptrNil rfl rfl Proofs.Try.runUnderlying29 rfl rfl ?_
            refine W_pick rfl rfl rfl rfl ?_
            refine W_move rfl rfl rfl ?_
            refine W_move rfl rfl rfl ?_
            refine W_ptrNil rfl rfl Proofs.Try.runUnderlying29 rfl rfl ?_
            refine W_pick rfl rfl rfl rfl ?_
            refine W_end ?_
            exact E_keepJ (J295 _ _ _ ⟨rfl, rfl, rfl⟩) (List.Perm.refl _) ⟨rfl, rfl, rfl, rfl, (by show some (Value.bool (false)) = some (Value.bool ((!decide ((((m_telemetry_New 5)).2) = 0)) || (!decide ((((m_telemetry_New 5)).2) = 0)))); simp only [hb454, Bool.and_true, Bool.true_and, Bool.false_and, Bool.and_false, Bool.or_true, Bool.true_or, Bool.or_false, Bool.false_or, Bool.not_true, Bool.not_false]), trivial⟩
end Go.Sim
