/-
  Printed by a program: each Go function computes its model, in company.
-/
import Derived.Test.YticgbjeijocojaaMg9
import Derived.Test.YticgbjeijocojaaRows
import Derived.KernelRfl
set_option linter.unusedVariables false
set_option linter.unusedSimpArgs false
namespace Go.Sim
open Go Go.Proofs.Try
set_option linter.unusedVariables false
set_option linter.unusedSimpArgs false
set_option maxRecDepth 100000
set_option maxHeartbeats 4000000
theorem fm : Proofs.Try.prog.follows .mixedOrders = true := by kernel_rfl

theorem Facts.mixed : Proofs.Try.prog.follows .mixedOrders = true := fm

theorem m_telemetry_New_c {B : Nat} {w0 : Bs Proofs.Try.prog} {w : World} {H : Hp} {M : List Res} {age : Int} {r : (Option S_telemetry_Points) × Int} (hm : m_telemetry_New age = r) (ht : St B w0 H (M) w) :
    Calls Proofs.Try.prog 4 [.int .i64 (age)].toArray w (Ret B w0 fun H' M' v => (r.1 = none ∧ H.le H' ∧ M = M' ∧ .tuple #[.pointer none, .int .i64 (r.2)] = v) ∨ (∃ qsp0 : S_telemetry_Points, r.1 = some qsp0 ∧ H.le H' ∧ ∃ qb0 : Nat, ∃ qv0 : Value, ∃ qxs0 : List Value, .obj qb0 (.cells [.int .i64 (qsp0.age), qv0].toArray 42 (0, 0)) :: .row qv0 46 (Rep.sz S_telemetry_point) qsp0.all_.length qxs0 :: M = M' ∧ .tuple #[.pointer (some ⟨qb0, 0, none⟩), .int .i64 (r.2)] = v ∧ Rw H' qv0 qxs0 qsp0.all_)) := by
  unfold m_telemetry_New at hm
  refine enter Proofs.Try.func4 rfl rfl rfl ht ?_
  refine C_seq ?_
  refine C_region ?_
  refine W_assign rfl rfl rfl ?_
  refine W_assign rfl rfl rfl ?_
  refine W_end ?_
  refine E_then ?_
  refine C_seq ?_
  refine cj [(0, _)] [] 0 (fun u m H' M' L' => H = H' ∧ m = M' ∧ (9, .bool ((decide (age < 0)) || (decide (200000 < age)))) :: u = L') ?_ (fun J102 => ?_)
  · rintro _ _ _ ⟨rfl, rfl, rfl⟩
    refine cd hm rfl (fun hb103 hm => ?_) (fun hb103 hm => ?_)
    · refine C_seq ?_
      refine C_region ?_
      refine W_assign rfl rfl rfl ?_
      refine W_assign rfl rfl rfl ?_
      refine W_end ?_
      refine E_then ?_
      refine C_ret ?_
      refine E_ret_then ?_
      obtain rfl := hm
      exact end2 rfl rfl rfl (.inl ⟨rfl, (Hp.le_refl _), rfl, rfl⟩)
    · refine C_skip ?_
      refine E_then ?_
      refine C_seq ?_
      refine C_region ?_
      refine W_move rfl rfl rfl ?_
      refine W_build (css := [[.int .i64 (age)]]) (zs := [.int .i64 (0), .slice none 0 0]) (out := [.int .i64 (age), .slice none 0 0]) (places := [(0, 1), (1, 1)]) rfl rfl rfl ⟨rfl, trivial⟩ Proofs.Try.zeroValue42 rfl Proofs.Try.runUnderlying42 (fun w => by kernel_rfl) rfl ?_
      refine W_box (cs := [.int .i64 (age), .slice none 0 0]) rfl rfl rfl rfl (fun b104 => ?_)
      refine W_assign rfl rfl rfl ?_
      refine W_assign rfl rfl rfl ?_
      refine W_end ?_
      refine E_then ?_
      refine C_ret ?_
      refine E_nilRow 46 (Rep.sz S_telemetry_point) ?_
      obtain rfl := hm
      refine Ek [1] 0 ?_
      exact end2 rfl rfl rfl (.inr ⟨(S_telemetry_Points.mk age ([] : List S_telemetry_point)), rfl, (Hp.le_refl _), b104, (.slice none 0 0), [], rfl, rfl, Rw.nil⟩)
  · refine C_region ?_
    refine W_move rfl rfl rfl ?_
    refine W_bin rfl rfl rfl rfl rfl ?_
    refine W_move rfl rfl rfl ?_
    cases hb105 : (decide (age < 0))
    · refine W_move rfl rfl rfl ?_
      refine W_bin rfl rfl rfl rfl rfl ?_
      refine W_pick rfl rfl rfl rfl ?_
      refine W_end ?_
      exact kj (J102 _ _ _ ⟨rfl, rfl, rfl⟩) ⟨(by exact sb (by first | rfl | simp only [hb105, bl2])), rfl, trivial⟩
    · refine W_no rfl rfl rfl ?_
      refine W_no rfl rfl rfl ?_
      refine W_pick rfl rfl rfl rfl ?_
      refine W_end ?_
      exact kj (J102 _ _ _ ⟨rfl, rfl, rfl⟩) ⟨(by exact sb (by first | rfl | simp only [hb105, bl2])), rfl, trivial⟩

theorem m_netmodel_Name_c {B : Nat} {w0 : Bs Proofs.Try.prog} {w : World} {H : Hp} {M : List Res} {p0_s : ByteArray} {r : Bool} (hm : m_netmodel_Name p0_s = some r) (ht : St B w0 H (M) w) :
    Calls Proofs.Try.prog 22 [.string (p0_s)].toArray w (Ret B w0 fun H' M' v => H = H' ∧ M = M' ∧ .bool (r) = v) := by
  unfold m_netmodel_Name at hm
  refine enter Proofs.Try.func22 rfl rfl rfl ht ?_
  refine C_seq ?_
  refine C_region ?_
  refine W_assign rfl rfl rfl ?_
  refine W_end ?_
  refine E_then ?_
  refine C_seq ?_
  refine C_seq ?_
  refine C_region ?_
  refine W_move rfl rfl rfl ?_
  obtain ⟨hz101, hm⟩ := need_some hm
  refine W_convBytes rfl rfl Proofs.Try.runUnderlying9 Proofs.Try.runUnderlying86 Proofs.Try.runUnderlying5 rfl hz101 ?_
  intro v102 H103 hle104 h105
  refine W_lenR rfl rfl Proofs.Try.runUnderlying86 rfl h105 ?_
  refine W_move rfl rfl rfl ?_
  refine W_end ?_
  refine E_then ?_
  refine C_block ?_
  obtain ⟨J167, hm168, hm169, hm⟩ := forI_nm hm
  refine cl [(0, _), (6, _), (7, _)] [] 0 [] 0 (fun u m n H' M' L' => ∃ (k106 : Nat) (zs144' : List U8), (bytesL p0_s).drop k106 = zs144' ∧ zs144'.length = n ∧ J167 k106 zs144' () = some r ∧ H103.le H' ∧ m = M' ∧ (8, .int .i64 ((k106 : Int))) :: u = L') _ rfl ⟨0, _, rfl, rfl, hm, (Hp.le_refl _), rfl, rfl⟩ ?_
  rintro _ H137 _ _ ⟨k106, zs144', hd146, rfl, hm, hle138, rfl, rfl⟩
  refine C_seq ?_
  refine C_region ?_
  refine W_bin rfl rfl rfl rfl rfl ?_
  refine W_end (E_then ?_)
  refine C_seq ?_
  refine C_cond rfl (fun hb148 => ?_) (fun hb148 => ?_)
  · obtain ⟨y143, zs144, rfl, hy145, hd147⟩ := rng_t hd146 hb148
    have hm := (hm168 _ _ _ _).symm.trans hm
    generalize hn141 : J167 (k106 + 1) zs144 = nx140 at hm
    unfold m_netmodel_Name_b1 at hm
    refine C_skip (E_then ?_)
    refine C_seq ?_
    refine C_block ?_
    refine C_seq ?_
    refine C_region ?_
    refine W_move rfl rfl rfl ?_
    obtain ⟨_, rfl, hc149⟩ := (h105).elem hy145
    refine W_indexS rfl rfl Proofs.Try.runUnderlying86 Proofs.Try.sizeOf5 rfl (h105.mono hle138) rfl (Int.natCast_nonneg _) hy145 ?_
    refine W_load rfl rfl Proofs.Try.isAgg5 rfl (HCells.one (hc149.mono hle138) 0 rfl).at ?_
    refine W_assign rfl rfl rfl ?_
    refine W_assign rfl rfl rfl ?_
    refine W_end ?_
    refine E_then ?_
    refine cj [(0, _), (6, _), (7, _), (8, _)] [] 0 (fun u m H' M' L' => H137 = H' ∧ m = M' ∧ (31, .bool (!(((decide (65 ≤ y143.n)) && (decide (y143.n ≤ 90))) || (((decide (0 < (k106 : Int))) && (decide (48 ≤ y143.n))) && (decide (y143.n ≤ 57)))))) :: u = L') ?_ (fun J156 => ?_)
    · rintro _ _ _ ⟨rfl, rfl, rfl⟩
      refine cd hm rfl (fun hb157 hm => ?_) (fun hb157 hm => ?_)
      · refine C_seq ?_
        refine C_region ?_
        refine W_assign rfl rfl rfl ?_
        refine W_end ?_
        refine E_then ?_
        refine C_ret ?_
        refine E_ret_block ?_
        refine E_ret_then ?_
        refine E_ret_then ?_
        refine E_ret_block ?_
        refine E_ret_then ?_
        obtain rfl := Option.some.inj hm
        refine E_weak (Hp.le_trans hle104 hle138) ?_
        exact end1 rfl rfl ⟨rfl, rfl, rfl⟩
      · refine C_skip ?_
        refine E_normal_block ?_
        refine E_then ?_
        refine C_region ?_
        refine W_bin rfl rfl rfl rfl rfl ?_
        refine W_move rfl rfl rfl ?_
        refine W_end ?_
        exact kj (E_back (Nat.lt_succ_self _) ⟨k106 + 1, zs144, hd147, rfl, ((congrFun hn141 _).trans hm), hle138, rfl, rfl⟩) ⟨(congrArg (fun z => some (Value.int .i64 z)) (i64_succ hy145 ((h105.mono hle138)).lenMax)), rfl, rfl, rfl, trivial⟩
    · refine C_region ?_
      refine W_move rfl rfl rfl ?_
      refine W_bin rfl rfl rfl rfl rfl ?_
      refine W_move rfl rfl rfl ?_
      cases hb158 : (decide (65 ≤ y143.n))
      · refine W_no rfl rfl rfl ?_
        refine W_no rfl rfl rfl ?_
        refine W_pick rfl rfl rfl rfl ?_
        refine W_move rfl rfl rfl ?_
        refine W_move rfl rfl rfl ?_
        refine W_bin rfl rfl rfl rfl rfl ?_
        refine W_move rfl rfl rfl ?_
        cases hb159 : (decide (0 < (k106 : Int)))
        · refine W_no rfl rfl rfl ?_
          refine W_no rfl rfl rfl ?_
          refine W_pick rfl rfl rfl rfl ?_
          refine W_move rfl rfl rfl ?_
          refine W_no rfl rfl rfl ?_
          refine W_no rfl rfl rfl ?_
          refine W_pick rfl rfl rfl rfl ?_
          refine W_pick rfl rfl rfl rfl ?_
          refine W_un rfl rfl rfl rfl ?_
          refine W_end ?_
          exact kj (J156 _ _ _ ⟨rfl, rfl, rfl⟩) ⟨(by exact sb (by first | rfl | simp only [hb158, hb159, bl2])), rfl, rfl, rfl, rfl, trivial⟩
        · refine W_move rfl rfl rfl ?_
          refine W_bin rfl rfl rfl rfl rfl ?_
          refine W_pick rfl rfl rfl rfl ?_
          refine W_move rfl rfl rfl ?_
          cases hb160 : (decide (48 ≤ y143.n))
          · refine W_no rfl rfl rfl ?_
            refine W_no rfl rfl rfl ?_
            refine W_pick rfl rfl rfl rfl ?_
            refine W_pick rfl rfl rfl rfl ?_
            refine W_un rfl rfl rfl rfl ?_
            refine W_end ?_
            exact kj (J156 _ _ _ ⟨rfl, rfl, rfl⟩) ⟨(by exact sb (by first | rfl | simp only [hb158, hb159, hb160, bl2])), rfl, rfl, rfl, rfl, trivial⟩
          · refine W_move rfl rfl rfl ?_
            refine W_bin rfl rfl rfl rfl rfl ?_
            refine W_pick rfl rfl rfl rfl ?_
            refine W_pick rfl rfl rfl rfl ?_
            refine W_un rfl rfl rfl rfl ?_
            refine W_end ?_
            exact kj (J156 _ _ _ ⟨rfl, rfl, rfl⟩) ⟨(by exact sb (by first | rfl | simp only [hb158, hb159, hb160, bl2])), rfl, rfl, rfl, rfl, trivial⟩
      · refine W_move rfl rfl rfl ?_
        refine W_bin rfl rfl rfl rfl rfl ?_
        refine W_pick rfl rfl rfl rfl ?_
        refine W_move rfl rfl rfl ?_
        cases hb161 : (decide (y143.n ≤ 90))
        · refine W_move rfl rfl rfl ?_
          refine W_bin rfl rfl rfl rfl rfl ?_
          refine W_move rfl rfl rfl ?_
          cases hb162 : (decide (0 < (k106 : Int)))
          · refine W_no rfl rfl rfl ?_
            refine W_no rfl rfl rfl ?_
            refine W_pick rfl rfl rfl rfl ?_
            refine W_move rfl rfl rfl ?_
            refine W_no rfl rfl rfl ?_
            refine W_no rfl rfl rfl ?_
            refine W_pick rfl rfl rfl rfl ?_
            refine W_pick rfl rfl rfl rfl ?_
            refine W_un rfl rfl rfl rfl ?_
            refine W_end ?_
            exact kj (J156 _ _ _ ⟨rfl, rfl, rfl⟩) ⟨(by exact sb (by first | rfl | simp only [hb158, hb161, hb162, bl2])), rfl, rfl, rfl, rfl, trivial⟩
          · refine W_move rfl rfl rfl ?_
            refine W_bin rfl rfl rfl rfl rfl ?_
            refine W_pick rfl rfl rfl rfl ?_
            refine W_move rfl rfl rfl ?_
            cases hb163 : (decide (48 ≤ y143.n))
            · refine W_no rfl rfl rfl ?_
              refine W_no rfl rfl rfl ?_
              refine W_pick rfl rfl rfl rfl ?_
              refine W_pick rfl rfl rfl rfl ?_
              refine W_un rfl rfl rfl rfl ?_
              refine W_end ?_
              exact kj (J156 _ _ _ ⟨rfl, rfl, rfl⟩) ⟨(by exact sb (by first | rfl | simp only [hb158, hb161, hb162, hb163, bl2])), rfl, rfl, rfl, rfl, trivial⟩
            · refine W_move rfl rfl rfl ?_
              refine W_bin rfl rfl rfl rfl rfl ?_
              refine W_pick rfl rfl rfl rfl ?_
              refine W_pick rfl rfl rfl rfl ?_
              refine W_un rfl rfl rfl rfl ?_
              refine W_end ?_
              exact kj (J156 _ _ _ ⟨rfl, rfl, rfl⟩) ⟨(by exact sb (by first | rfl | simp only [hb158, hb161, hb162, hb163, bl2])), rfl, rfl, rfl, rfl, trivial⟩
        · refine W_no rfl rfl rfl ?_
          refine W_no rfl rfl rfl ?_
          refine W_no rfl rfl rfl ?_
          refine W_no rfl rfl rfl ?_
          refine W_no rfl rfl rfl ?_
          refine W_no rfl rfl rfl ?_
          refine W_no rfl rfl rfl ?_
          refine W_no rfl rfl rfl ?_
          refine W_no rfl rfl rfl ?_
          refine W_no rfl rfl rfl ?_
          refine W_pick rfl rfl rfl rfl ?_
          refine W_un rfl rfl rfl rfl ?_
          refine W_end ?_
          exact kj (J156 _ _ _ ⟨rfl, rfl, rfl⟩) ⟨(by exact sb (by first | rfl | simp only [hb158, hb161, bl2])), rfl, rfl, rfl, rfl, trivial⟩
  · obtain rfl := rng_f hd146 hb148
    have hm := (hm169 _ _).symm.trans hm
    refine C_exit (E_exit_then ?_)
    refine E_exit_then ?_
    refine E_exit_hit ?_
    refine E_then ?_
    refine cj [] [] 0 (fun u m H' M' L' => H137 = H' ∧ m = M' ∧ (2, .bool ((decide (1 ≤ (p0_s.size : Int))) && (decide ((p0_s.size : Int) ≤ 8)))) :: u = L') ?_ (fun J165 => ?_)
    · rintro _ _ _ ⟨rfl, rfl, rfl⟩
      refine C_ret ?_
      obtain rfl := Option.some.inj hm
      refine E_weak (Hp.le_trans hle104 hle138) ?_
      exact end1 rfl rfl ⟨rfl, rfl, rfl⟩
    · refine C_region ?_
      refine W_move rfl rfl rfl ?_
      refine W_lenStr rfl rfl Proofs.Try.runUnderlying9 rfl ?_
      refine W_bin rfl rfl rfl rfl rfl ?_
      refine W_move rfl rfl rfl ?_
      cases hb166 : (decide (1 ≤ (p0_s.size : Int)))
      · refine W_no rfl rfl rfl ?_
        refine W_no rfl rfl rfl ?_
        refine W_no rfl rfl rfl ?_
        refine W_pick rfl rfl rfl rfl ?_
        refine W_assign rfl rfl rfl ?_
        refine W_end ?_
        exact kj (J165 _ _ _ ⟨rfl, rfl, rfl⟩) ⟨(by exact sb (by first | rfl | simp only [hb166, bl2])), trivial⟩
      · refine W_move rfl rfl rfl ?_
        refine W_lenStr rfl rfl Proofs.Try.runUnderlying9 rfl ?_
        refine W_bin rfl rfl rfl rfl rfl ?_
        refine W_pick rfl rfl rfl rfl ?_
        refine W_assign rfl rfl rfl ?_
        refine W_end ?_
        exact kj (J165 _ _ _ ⟨rfl, rfl, rfl⟩) ⟨(by exact sb (by first | rfl | simp only [hb166, bl2])), trivial⟩

theorem m_telemetry_Check_c {B : Nat} {w0 : Bs Proofs.Try.prog} {w : World} {H : Hp} {M : List Res} {p0_m : S_api_TelemetryMsg} {r : Int} (hm : m_telemetry_Check p0_m = some r) (ht : St B w0 H (M) w) :
    Calls Proofs.Try.prog 11 [.agg [.string (p0_m.Point), .int .i64 (p0_m.Number), .int .i64 (p0_m.Time), .int .i64 (p0_m.Value)].toArray].toArray w (Ret B w0 fun H' M' v => H = H' ∧ M = M' ∧ .int .i64 (r) = v) := by
  unfold m_telemetry_Check at hm
  refine enter Proofs.Try.func11 rfl rfl rfl ht ?_
  refine C_seq ?_
  refine C_region ?_
  refine W_box (cs := [.string (p0_m.Point), .int .i64 (p0_m.Number), .int .i64 (p0_m.Time), .int .i64 (p0_m.Value)]) rfl rfl rfl rfl (fun b101 => ?_)
  refine W_assign rfl rfl rfl ?_
  refine W_end ?_
  refine E_then ?_
  refine C_seq ?_
  refine C_block ?_
  refine C_seq ?_
  refine C_region ?_
  refine W_field (o := 0) rfl rfl Proofs.Try.runUnderlying29 rfl Proofs.Try.sizeOf9 rfl rfl rfl ?_
  refine W_load rfl rfl Proofs.Try.isAgg9 rfl (own_at (List.mem_cons_self ..) rfl) ?_
  obtain ⟨r102, hc103, hm⟩ := bind_some hm
  refine W_call Proofs.Try.call22 rfl rfl rfl (fun w ht => by have h := m_netmodel_Name_c (hm := hc103)  ht; exact h) ?_
  rintro _ _ _ ⟨rfl, rfl, rfl⟩
  refine W_un rfl rfl rfl rfl ?_
  refine W_assign rfl rfl rfl ?_
  refine W_end ?_
  refine E_then ?_
  refine cd hm rfl (fun hb104 hm => ?_) (fun hb104 hm => ?_)
  · refine C_seq ?_
    refine C_region ?_
    refine W_assign rfl rfl rfl ?_
    refine W_end ?_
    refine E_then ?_
    refine C_ret ?_
    refine E_ret_block ?_
    refine E_ret_then ?_
    obtain rfl := Option.some.inj hm
    refine Ek [] 1 ?_
    refine E_weak (Hp.le_refl _) ?_
    exact end1 rfl rfl ⟨rfl, rfl, rfl⟩
  · refine cj [(1, _)] [] 0 (fun u m H' M' L' => H = H' ∧ m = M' ∧ (8, .bool ((((decide (p0_m.Number < 1)) || (decide (1000000 < p0_m.Number))) || (decide (p0_m.Value < (-1000000)))) || (decide (1000000 < p0_m.Value)))) :: u = L') ?_ (fun J108 => ?_)
    · rintro _ _ _ ⟨rfl, rfl, rfl⟩
      refine cd hm rfl (fun hb109 hm => ?_) (fun hb109 hm => ?_)
      · refine C_seq ?_
        refine C_region ?_
        refine W_assign rfl rfl rfl ?_
        refine W_end ?_
        refine E_then ?_
        refine C_ret ?_
        refine E_ret_block ?_
        refine E_ret_then ?_
        obtain rfl := Option.some.inj hm
        refine Ek [] 1 ?_
        refine E_weak (Hp.le_refl _) ?_
        exact end1 rfl rfl ⟨rfl, rfl, rfl⟩
      · refine cj [] [] 1 (fun u m H' M' L' => H = H' ∧ m = M' ∧ (27, .bool ((decide (p0_m.Time < 0)) || (decide (200000 < p0_m.Time)))) :: u = L') ?_ (fun J111 => ?_)
        · rintro _ _ _ ⟨rfl, rfl, rfl⟩
          refine cd hm rfl (fun hb112 hm => ?_) (fun hb112 hm => ?_)
          · refine C_seq ?_
            refine C_region ?_
            refine W_assign rfl rfl rfl ?_
            refine W_end ?_
            refine E_then ?_
            refine C_ret ?_
            refine E_ret_block ?_
            refine E_ret_then ?_
            obtain rfl := Option.some.inj hm
            refine E_weak (Hp.le_refl _) ?_
            exact end1 rfl rfl ⟨rfl, rfl, rfl⟩
          · refine C_skip ?_
            refine E_normal_block ?_
            refine E_then ?_
            refine C_seq ?_
            refine C_region ?_
            refine W_assign rfl rfl rfl ?_
            refine W_end ?_
            refine E_then ?_
            refine C_ret ?_
            obtain rfl := Option.some.inj hm
            refine E_weak (Hp.le_refl _) ?_
            exact end1 rfl rfl ⟨rfl, rfl, rfl⟩
        · refine C_region ?_
          refine W_field (o := 2) rfl rfl Proofs.Try.runUnderlying29 rfl Proofs.Try.sizeOf3 rfl rfl rfl ?_
          refine W_load rfl rfl Proofs.Try.isAgg3 rfl (own_at (List.mem_cons_self ..) rfl) ?_
          refine W_bin rfl rfl rfl rfl rfl ?_
          refine W_move rfl rfl rfl ?_
          cases hb113 : (decide (p0_m.Time < 0))
          · refine W_field (o := 2) rfl rfl Proofs.Try.runUnderlying29 rfl Proofs.Try.sizeOf3 rfl rfl rfl ?_
            refine W_load rfl rfl Proofs.Try.isAgg3 rfl (own_at (List.mem_cons_self ..) rfl) ?_
            refine W_bin rfl rfl rfl rfl rfl ?_
            refine W_pick rfl rfl rfl rfl ?_
            refine W_assign rfl rfl rfl ?_
            refine W_end ?_
            exact kx [] 1 (J111 _ _ _ ⟨rfl, rfl, rfl⟩) rfl ⟨(by exact sb (by first | rfl | simp only [hb104, hb109, hb113, bl2])), trivial⟩
          · refine W_no rfl rfl rfl ?_
            refine W_no rfl rfl rfl ?_
            refine W_no rfl rfl rfl ?_
            refine W_pick rfl rfl rfl rfl ?_
            refine W_assign rfl rfl rfl ?_
            refine W_end ?_
            exact kx [] 1 (J111 _ _ _ ⟨rfl, rfl, rfl⟩) rfl ⟨(by exact sb (by first | rfl | simp only [hb104, hb109, hb113, bl2])), trivial⟩
    · refine C_region ?_
      refine W_field (o := 1) rfl rfl Proofs.Try.runUnderlying29 rfl Proofs.Try.sizeOf3 rfl rfl rfl ?_
      refine W_load rfl rfl Proofs.Try.isAgg3 rfl (own_at (List.mem_cons_self ..) rfl) ?_
      refine W_bin rfl rfl rfl rfl rfl ?_
      refine W_move rfl rfl rfl ?_
      cases hb114 : (decide (p0_m.Number < 1))
      · refine W_field (o := 1) rfl rfl Proofs.Try.runUnderlying29 rfl Proofs.Try.sizeOf3 rfl rfl rfl ?_
        refine W_load rfl rfl Proofs.Try.isAgg3 rfl (own_at (List.mem_cons_self ..) rfl) ?_
        refine W_bin rfl rfl rfl rfl rfl ?_
        refine W_pick rfl rfl rfl rfl ?_
        refine W_move rfl rfl rfl ?_
        cases hb115 : (decide (1000000 < p0_m.Number))
        · refine W_field (o := 3) rfl rfl Proofs.Try.runUnderlying29 rfl Proofs.Try.sizeOf3 rfl rfl rfl ?_
          refine W_load rfl rfl Proofs.Try.isAgg3 rfl (own_at (List.mem_cons_self ..) rfl) ?_
          refine W_bin rfl rfl rfl rfl rfl ?_
          refine W_pick rfl rfl rfl rfl ?_
          refine W_move rfl rfl rfl ?_
          cases hb116 : (decide (p0_m.Value < (-1000000)))
          · refine W_field (o := 3) rfl rfl Proofs.Try.runUnderlying29 rfl Proofs.Try.sizeOf3 rfl rfl rfl ?_
            refine W_load rfl rfl Proofs.Try.isAgg3 rfl (own_at (List.mem_cons_self ..) rfl) ?_
            refine W_bin rfl rfl rfl rfl rfl ?_
            refine W_pick rfl rfl rfl rfl ?_
            refine W_assign rfl rfl rfl ?_
            refine W_end ?_
            exact kj (J108 _ _ _ ⟨rfl, rfl, rfl⟩) ⟨(by exact sb (by first | rfl | simp only [hb104, hb114, hb115, hb116, bl2])), rfl, trivial⟩
          · refine W_no rfl rfl rfl ?_
            refine W_no rfl rfl rfl ?_
            refine W_no rfl rfl rfl ?_
            refine W_pick rfl rfl rfl rfl ?_
            refine W_assign rfl rfl rfl ?_
            refine W_end ?_
            exact kj (J108 _ _ _ ⟨rfl, rfl, rfl⟩) ⟨(by exact sb (by first | rfl | simp only [hb104, hb114, hb115, hb116, bl2])), rfl, trivial⟩
        · refine W_no rfl rfl rfl ?_
          refine W_no rfl rfl rfl ?_
          refine W_no rfl rfl rfl ?_
          refine W_pick rfl rfl rfl rfl ?_
          refine W_move rfl rfl rfl ?_
          refine W_no rfl rfl rfl ?_
          refine W_no rfl rfl rfl ?_
          refine W_no rfl rfl rfl ?_
          refine W_pick rfl rfl rfl rfl ?_
          refine W_assign rfl rfl rfl ?_
          refine W_end ?_
          exact kj (J108 _ _ _ ⟨rfl, rfl, rfl⟩) ⟨(by exact sb (by first | rfl | simp only [hb104, hb114, hb115, bl2])), rfl, trivial⟩
      · refine W_no rfl rfl rfl ?_
        refine W_no rfl rfl rfl ?_
        refine W_no rfl rfl rfl ?_
        refine W_pick rfl rfl rfl rfl ?_
        refine W_move rfl rfl rfl ?_
        refine W_no rfl rfl rfl ?_
        refine W_no rfl rfl rfl ?_
        refine W_no rfl rfl rfl ?_
        refine W_pick rfl rfl rfl rfl ?_
        refine W_move rfl rfl rfl ?_
        refine W_no rfl rfl rfl ?_
        refine W_no rfl rfl rfl ?_
        refine W_no rfl rfl rfl ?_
        refine W_pick rfl rfl rfl rfl ?_
        refine W_assign rfl rfl rfl ?_
        refine W_end ?_
        exact kj (J108 _ _ _ ⟨rfl, rfl, rfl⟩) ⟨(by exact sb (by first | rfl | simp only [hb104, hb114, bl2])), rfl, trivial⟩

theorem m_telemetry_Points_index_1_c {B : Nat} {w0 : Bs Proofs.Try.prog} {w : World} {H : Hp} {M : List Res} {p0_x : S_telemetry_point} {p1_c1 : ByteArray} {b0 : Nat} {r : Bool} (hm : m_telemetry_Points_index_1 p0_x p1_c1 = r) (ht : St B w0 H (.obj b0 (.cells ([.string (p1_c1)] : List Value).toArray 9 (0, 0)) :: M) w) :
    Calls Proofs.Try.prog 24 [.agg [.string (p0_x.TelemetryMsg.Point), .int .i64 (p0_x.TelemetryMsg.Number), .int .i64 (p0_x.TelemetryMsg.Time), .int .i64 (p0_x.TelemetryMsg.Value), .int .i64 (p0_x.many)].toArray, .pointer (some ⟨b0, 0, none⟩)].toArray w (Ret B w0 fun H' M' v => H = H' ∧ .obj b0 (.cells ([.string (p1_c1)] : List Value).toArray 9 (0, 0)) :: M = M' ∧ .bool (r) = v) := by
  unfold m_telemetry_Points_index_1 at hm
  refine enter Proofs.Try.func24 rfl rfl rfl ht ?_
  refine C_seq ?_
  refine C_region ?_
  refine W_box (cs := [.string (p0_x.TelemetryMsg.Point), .int .i64 (p0_x.TelemetryMsg.Number), .int .i64 (p0_x.TelemetryMsg.Time), .int .i64 (p0_x.TelemetryMsg.Value), .int .i64 (p0_x.many)]) rfl rfl rfl rfl (fun b101 => ?_)
  refine W_assign rfl rfl rfl ?_
  refine W_end ?_
  refine E_then ?_
  refine C_seq ?_
  refine C_region ?_
  refine W_field (o := 0) rfl rfl Proofs.Try.runUnderlying46 rfl Proofs.Try.sizeOf29 rfl rfl rfl ?_
  refine W_field (o := 0) rfl rfl Proofs.Try.runUnderlying29 rfl Proofs.Try.sizeOf9 rfl rfl rfl ?_
  refine W_load rfl rfl Proofs.Try.isAgg9 rfl (own_at (List.mem_cons_self ..) rfl) ?_
  refine W_load rfl rfl Proofs.Try.isAgg9 rfl (own_at (List.mem_cons_of_mem _ (List.mem_cons_self ..)) rfl) ?_
  refine W_bin rfl rfl rfl rfl rfl ?_
  refine W_assign rfl rfl rfl ?_
  refine W_end ?_
  refine E_then ?_
  refine C_ret ?_
  obtain rfl := hm
  refine Ek [1] 1 ?_
  refine E_weak (Hp.le_refl _) ?_
  exact end1 rfl rfl ⟨rfl, rfl, rfl⟩

theorem m_slices_IndexFunc_telemetry_point_telemetry_point__telemetry_Points_index_1_c {B : Nat} {w0 : Bs Proofs.Try.prog} {w : World} {H : Hp} {M : List Res} {p0_s : (List S_telemetry_point)} {p1_f_0 : ByteArray} {v0 : Value} {b0 : Nat} {r : Int} (hm : m_slices_IndexFunc_telemetry_point_telemetry_point__telemetry_Points_index_1 p0_s p1_f_0 = some r) (h0 : RdS H v0 p0_s) (ht : St B w0 H (.obj b0 (.cells ([.string (p1_f_0)] : List Value).toArray 9 (0, 0)) :: M) w) :
    Calls Proofs.Try.prog 23 [v0, .func (.func 24) [].toArray [.pointer (some ⟨b0, 0, none⟩)].toArray].toArray w (Ret B w0 fun H' M' v => H = H' ∧ .obj b0 (.cells ([.string (p1_f_0)] : List Value).toArray 9 (0, 0)) :: M = M' ∧ .int .i64 (r) = v) := by
  unfold m_slices_IndexFunc_telemetry_point_telemetry_point__telemetry_Points_index_1 at hm
  refine enter Proofs.Try.func23 rfl rfl rfl ht ?_
  refine C_seq ?_
  refine C_region ?_
  refine W_assign rfl rfl rfl ?_
  refine W_end ?_
  refine E_then ?_
  refine C_seq ?_
  refine C_seq ?_
  refine C_region ?_
  refine W_move rfl rfl rfl ?_
  refine W_lenR rfl rfl Proofs.Try.runUnderlying40 rfl h0 ?_
  refine W_move rfl rfl rfl ?_
  refine W_end ?_
  refine E_then ?_
  refine C_block ?_
  obtain ⟨J129, hm130, hm131, hm⟩ := forN_nm hm
  refine cl [(0, _), (1, _), (7, _)] [] 0 [] 0 (fun u m n H' M' L' => ∃ (k101 : Nat) (zs119' : Nat), k101 + zs119' = ((p0_s.length : Int) : Int).toNat ∧ zs119' = n ∧ J129 zs119' k101 () = some r ∧ H.le H' ∧ m = M' ∧ (8, .int .i64 ((k101 : Int))) :: u = L') _ rfl ⟨0, _, Nat.zero_add _, rfl, hm, (Hp.le_refl _), rfl, rfl⟩ ?_
  rintro _ H112 _ _ ⟨k101, zs119', hd121, rfl, hm, hle113, rfl, rfl⟩
  refine C_seq ?_
  refine C_region ?_
  refine W_bin rfl rfl rfl rfl rfl ?_
  refine W_end (E_then ?_)
  refine C_seq ?_
  refine C_cond rfl (fun hb123 => ?_) (fun hb123 => ?_)
  · obtain ⟨zs119, rfl, hd122, hy120⟩ := rngN_t hd121 hb123
    have hm := (hm130 _ _ _).symm.trans hm
    generalize hn116 : J129 zs119 (k101 + 1) = nx115 at hm
    unfold m_slices_IndexFunc_telemetry_point_telemetry_point__telemetry_Points_index_1_b1 at hm
    refine C_skip (E_then ?_)
    refine C_seq ?_
    refine C_block ?_
    refine C_seq ?_
    refine C_region ?_
    refine W_move rfl rfl rfl ?_
    refine W_assign rfl rfl rfl ?_
    refine W_end ?_
    refine E_then ?_
    refine C_seq ?_
    refine C_region ?_
    refine W_move rfl rfl rfl ?_
    refine W_move rfl rfl rfl ?_
    refine W_move rfl rfl rfl ?_
    obtain ⟨y124, h125, he126, hm⟩ := idx_some hm
    obtain ⟨_, ⟨rfl⟩, hc127⟩ := (h0).elem he126
    refine W_indexS rfl rfl Proofs.Try.runUnderlying40 Proofs.Try.sizeOf46 rfl (h0.mono hle113) rfl h125 he126 ?_
    refine W_loadAgg rfl rfl Proofs.Try.isAgg46 Proofs.Try.sizeOf46 rfl (hc127.mono hle113).at rfl ?_
    refine W_callv Proofs.Try.call24 rfl rfl rfl rfl (fun w ht => by have h := m_telemetry_Points_index_1_c (hm := (rfl : m_telemetry_Points_index_1 y124 p1_f_0 = _))  ht; exact h) ?_
    rintro _ _ _ ⟨rfl, rfl, rfl⟩
    refine W_end ?_
    refine E_then ?_
    refine cd hm rfl (fun hb128 hm => ?_) (fun hb128 hm => ?_)
    · refine C_seq ?_
      refine C_region ?_
      refine W_move rfl rfl rfl ?_
      refine W_assign rfl rfl rfl ?_
      refine W_end ?_
      refine E_then ?_
      refine C_ret ?_
      refine E_ret_block ?_
      refine E_ret_then ?_
      refine E_ret_then ?_
      refine E_ret_block ?_
      refine E_ret_then ?_
      obtain rfl := Option.some.inj hm
      refine E_weak hle113 ?_
      exact end1 rfl rfl ⟨rfl, rfl, rfl⟩
    · refine C_skip ?_
      refine E_normal_block ?_
      refine E_then ?_
      refine C_region ?_
      refine W_bin rfl rfl rfl rfl rfl ?_
      refine W_move rfl rfl rfl ?_
      refine W_end ?_
      exact kj (E_back (Nat.lt_succ_self _) ⟨k101 + 1, zs119, hd122, rfl, ((congrFun hn116 _).trans hm), hle113, rfl, rfl⟩) ⟨(congrArg (fun z => some (Value.int .i64 z)) (i64_succN hy120 (toNat_max (len_max (h0).lenMax)))), rfl, rfl, rfl, trivial⟩
  · obtain rfl := rngN_f hd121 hb123
    have hm := (hm131 _ _).symm.trans hm
    refine C_exit (E_exit_then ?_)
    refine E_exit_then ?_
    refine E_exit_hit ?_
    refine E_then ?_
    refine C_seq ?_
    refine C_region ?_
    refine W_assign rfl rfl rfl ?_
    refine W_end ?_
    refine E_then ?_
    refine C_ret ?_
    obtain rfl := Option.some.inj hm
    refine E_weak hle113 ?_
    exact end1 rfl rfl ⟨rfl, rfl, rfl⟩

theorem m_telemetry_Points_index_c {B : Nat} {w0 : Bs Proofs.Try.prog} {w : World} {H : Hp} {M : List Res} {p0_p : S_telemetry_Points} {name : ByteArray} {b0 : Nat} {v0 : Value} {xs0 : List Value} {r : Int} (hm : m_telemetry_Points_index p0_p name = some r) (h0 : Rw H v0 xs0 p0_p.all_) (ht : St B w0 H (.obj b0 (.cells [.int .i64 (p0_p.age), v0].toArray 42 (0, 0)) :: .row v0 46 (Rep.sz S_telemetry_point) p0_p.all_.length xs0 :: M) w) :
    Calls Proofs.Try.prog 12 [.pointer (some ⟨b0, 0, none⟩), .string (name)].toArray w (Ret B w0 fun H' M' v => H = H' ∧ .obj b0 (.cells [.int .i64 (p0_p.age), v0].toArray 42 (0, 0)) :: .row v0 46 (Rep.sz S_telemetry_point) p0_p.all_.length xs0 :: M = M' ∧ .int .i64 (r) = v) := by
  unfold m_telemetry_Points_index at hm
  refine enter Proofs.Try.func12 rfl rfl rfl ht ?_
  refine C_seq ?_
  refine C_region ?_
  refine W_box (cs := [.string (name)]) rfl rfl rfl rfl (fun b101 => ?_)
  refine W_assign rfl rfl rfl ?_
  refine W_end ?_
  refine E_then ?_
  refine C_seq ?_
  refine C_region ?_
  refine W_move rfl rfl rfl ?_
  refine W_nilCheck rfl rfl rfl ?_
  refine W_field (o := 1) rfl rfl Proofs.Try.runUnderlying42 rfl Proofs.Try.sizeOf40 rfl rfl rfl ?_
  refine W_load rfl rfl Proofs.Try.isAgg40 rfl (own_at (List.mem_cons_of_mem _ (List.mem_cons_self ..)) rfl) ?_
  refine W_makeFunc rfl rfl rfl rfl ?_
  refine Wp [2] ?_
  obtain ⟨r102, hc103, hm⟩ := bind_some hm
  refine W_call Proofs.Try.call23 rfl rfl rfl (fun w ht => by obtain ⟨H0_, hl0_, ht0_, hr0_, bk0_⟩ := ht.lendRow h0 rfl; have h := m_slices_IndexFunc_telemetry_point_telemetry_point__telemetry_Points_index_1_c (hm := hc103) hr0_ ht0_; exact lend_back bk0_ (h)) ?_
  rintro _ _ _ ⟨rfl, ⟨_, rfl, rfl, rfl⟩⟩
  refine W_assign rfl rfl rfl ?_
  refine W_end ?_
  refine E_then ?_
  refine C_ret ?_
  obtain rfl := Option.some.inj hm
  refine Ek [2, 0] 1 ?_
  refine E_weak (Hp.le_refl _) ?_
  exact end1 rfl rfl ⟨rfl, rfl, rfl⟩

theorem m_telemetry_Points_Take_c {B : Nat} {w0 : Bs Proofs.Try.prog} {w : World} {H : Hp} {M : List Res} {p0_p : S_telemetry_Points} {p1_m : S_api_TelemetryMsg} {b0 : Nat} {v0 : Value} {xs0 : List Value} {r : Bool × Int × S_telemetry_Points} (hm : m_telemetry_Points_Take p0_p p1_m = some r) (h0 : Rw H v0 xs0 p0_p.all_) (ht : St B w0 H (.obj b0 (.cells [.int .i64 (p0_p.age), v0].toArray 42 (0, 0)) :: .row v0 46 (Rep.sz S_telemetry_point) p0_p.all_.length xs0 :: M) w) :
    Calls Proofs.Try.prog 6 [.pointer (some ⟨b0, 0, none⟩), .agg [.string (p1_m.Point), .int .i64 (p1_m.Number), .int .i64 (p1_m.Time), .int .i64 (p1_m.Value)].toArray].toArray w (Ret B w0 fun H' M' v => H = H' ∧ ∃ qv0 : Value, ∃ qxs0 : List Value, .obj b0 (.cells [.int .i64 (r.2.2.age), qv0].toArray 42 (0, 0)) :: .row qv0 46 (Rep.sz S_telemetry_point) r.2.2.all_.length qxs0 :: M = M' ∧ .tuple #[.bool (r.1), .int .i64 (r.2.1)] = v ∧ RwF qv0 qxs0 r.2.2.all_) := by
  unfold m_telemetry_Points_Take at hm
  refine enter Proofs.Try.func6 rfl rfl rfl ht ?_
  refine C_seq ?_
  refine C_region ?_
  refine W_box (cs := [.string (p1_m.Point), .int .i64 (p1_m.Number), .int .i64 (p1_m.Time), .int .i64 (p1_m.Value)]) rfl rfl rfl rfl (fun b101 => ?_)
  refine W_assign rfl rfl rfl ?_
  refine W_assign rfl rfl rfl ?_
  refine W_end ?_
  refine E_then ?_
  refine C_seq ?_
  refine C_seq ?_
  refine C_region ?_
  refine W_loadAgg rfl rfl Proofs.Try.isAgg29 Proofs.Try.sizeOf29 rfl (own_all (List.mem_cons_self ..)) rfl ?_
  obtain ⟨r102, hc103, hm⟩ := bind_some hm
  refine W_call Proofs.Try.call11 rfl rfl rfl (fun w ht => by have h := m_telemetry_Check_c (hm := hc103)  ht; exact h) ?_
  rintro _ _ _ ⟨rfl, rfl, rfl⟩
  refine W_assign rfl rfl rfl ?_
  refine W_end ?_
  refine E_then ?_
  refine C_seq ?_
  refine C_region ?_
  refine W_move rfl rfl rfl ?_
  refine W_bin rfl rfl rfl rfl rfl ?_
  refine W_end ?_
  refine E_then ?_
  refine cd hm rfl (fun hb104 hm => ?_) (fun hb104 hm => ?_)
  · refine C_seq ?_
    refine C_region ?_
    refine W_move rfl rfl rfl ?_
    refine W_assign rfl rfl rfl ?_
    refine W_assign rfl rfl rfl ?_
    refine W_end ?_
    refine E_then ?_
    refine C_ret ?_
    refine E_ret_then ?_
    obtain rfl := Option.some.inj hm
    refine Ek [1, 1] 1 ?_
    refine E_weak (Hp.le_refl _) ?_
    exact end2 rfl rfl rfl ⟨rfl, v0, xs0, rfl, rfl, (h0).toF⟩
  · refine C_skip ?_
    refine E_then ?_
    refine C_seq ?_
    refine C_region ?_
    refine W_move rfl rfl rfl ?_
    refine W_field (o := 0) rfl rfl Proofs.Try.runUnderlying29 rfl Proofs.Try.sizeOf9 rfl rfl rfl ?_
    refine W_load rfl rfl Proofs.Try.isAgg9 rfl (own_at (List.mem_cons_self ..) rfl) ?_
    refine Wp [1, 1] ?_
    obtain ⟨r105, hc106, hm⟩ := bind_some hm
    refine W_call Proofs.Try.call12 rfl rfl rfl (fun w ht => by have h := m_telemetry_Points_index_c (hm := hc106) h0 ht; exact h) ?_
    rintro _ _ _ ⟨rfl, rfl, rfl⟩
    refine W_assign rfl rfl rfl ?_
    refine W_end ?_
    refine E_then ?_
    refine cj [] [] 3 (fun u m H' M' L' => ∃ l165 : List S_telemetry_point, ∃ v163 : Value, ∃ xs164 : List Value, m_telemetry_Points_Take_b1 p0_p l165 = some r ∧ Rw H' v163 xs164 l165 ∧ H.le H' ∧ .row v163 46 (Rep.sz S_telemetry_point) l165.length xs164 :: .obj b0 (.cells [.int .i64 (p0_p.age), v163].toArray 42 (0, 0)) :: m = M' ∧ u = L') ?_ (fun J169 => ?_)
    · rintro H167 _ _ ⟨l165, v163, xs164, hm, hr166, hle168, rfl, rfl⟩
      unfold m_telemetry_Points_Take_b1 at hm
      refine C_seq ?_
      refine C_region ?_
      refine W_assign rfl rfl rfl ?_
      refine W_assign rfl rfl rfl ?_
      refine W_end ?_
      refine E_then ?_
      refine C_ret ?_
      obtain rfl := Option.some.inj hm
      refine Ek [1] 0 ?_
      refine E_weak hle168 ?_
      exact end2 rfl rfl rfl ⟨rfl, v163, xs164, rfl, rfl, (hr166).toF⟩
    · refine C_block ?_
      refine cj [(0, _), (3, _), (7, _)] [] 0 (fun u m H' M' L' => H = H' ∧ m = M' ∧ (34, .bool ((decide (r105 < 0)) && (decide ((p0_p.all_.length : Int) = 24)))) :: u = L') ?_ (fun J171 => ?_)
      · rintro _ _ _ ⟨rfl, rfl, rfl⟩
        refine cd hm rfl (fun hb172 hm => ?_) (fun hb172 hm => ?_)
        · refine C_seq ?_
          refine C_region ?_
          refine W_assign rfl rfl rfl ?_
          refine W_assign rfl rfl rfl ?_
          refine W_end ?_
          refine E_then ?_
          refine C_ret ?_
          refine E_ret_block ?_
          refine E_ret_then ?_
          obtain rfl := Option.some.inj hm
          refine Ek [0, 0] 1 ?_
          refine E_weak (Hp.le_refl _) ?_
          exact end2 rfl rfl rfl ⟨rfl, v0, xs0, rfl, rfl, (h0).toF⟩
        · refine C_seq ?_
          refine C_region ?_
          refine W_move rfl rfl rfl ?_
          refine W_bin rfl rfl rfl rfl rfl ?_
          refine W_assign rfl rfl rfl ?_
          refine W_end ?_
          refine E_then ?_
          refine cd hm rfl (fun hb173 hm => ?_) (fun hb173 hm => ?_)
          · obtain ⟨hz181, hm⟩ := need_some hm
            refine rgx fm 9 [ph _, ph _, ph _, ph _, ph _, ph _, ph (.agg [.string (p1_m.Point), .int .i64 (p1_m.Number), .int .i64 (p1_m.Time), .int .i64 (p1_m.Value), .int .i64 (1)].toArray), (fun H rs v => ∃ v186 : Value, [] = rs ∧ v186 = v ∧ RdS H v186 ([(S_telemetry_point.mk p1_m 1)]) ∧ Value.cap' v186 = ([(S_telemetry_point.mk p1_m 1)]).length), (fun H rs v => ∃ v192 : Value, ∃ xs193 : List Value, [.row v192 46 (Rep.sz S_telemetry_point) (p0_p.all_ ++ ([(S_telemetry_point.mk p1_m 1)])).length xs193] = rs ∧ v192 = v ∧ Rw H v192 xs193 (p0_p.all_ ++ ([(S_telemetry_point.mk p1_m 1)])))] (sp 9 [(8, [9])]) (nn 9) [1] [0, 1, 2, 3, 4, 5, 6, 7, 8] rfl ⟨om, om, om, om, om, om, ?_, ?_, ?_, trivial⟩ ?_
            · intro HX hX X Rest hR
              rintro _ _ ⟨rfl, rfl⟩
              intro hU hUp
              refine W_build (css := [[.string (p1_m.Point), .int .i64 (p1_m.Number), .int .i64 (p1_m.Time), .int .i64 (p1_m.Value)], [.int .i64 (1)]]) (zs := [.string (⟨#[]⟩), .int .i64 (0), .int .i64 (0), .int .i64 (0), .int .i64 (0)]) (out := [.string (p1_m.Point), .int .i64 (p1_m.Number), .int .i64 (p1_m.Time), .int .i64 (p1_m.Value), .int .i64 (1)]) (places := [(0, 4), (4, 1)]) rfl rfl rfl ⟨rfl, rfl, trivial⟩ Proofs.Try.zeroValue46 rfl Proofs.Try.runUnderlying46 (fun w => by kernel_rfl) rfl ?_
              exact o0 ⟨rfl, rfl⟩
            · intro HX hX X Rest hR
              rintro _ _ ⟨rfl, rfl⟩
              intro hU hUp
              refine W_buildSlice (α := S_telemetry_point) (css := [[.string (p1_m.Point), .int .i64 (p1_m.Number), .int .i64 (p1_m.Time), .int .i64 (p1_m.Value), .int .i64 (1)]]) (zs := [.string (⟨#[]⟩), .int .i64 (0), .int .i64 (0), .int .i64 (0), .int .i64 (0)]) (out := [.string (p1_m.Point), .int .i64 (p1_m.Number), .int .i64 (p1_m.Time), .int .i64 (p1_m.Value), .int .i64 (1)]) (ys := [(S_telemetry_point.mk p1_m 1)]) rfl rfl rfl ⟨rfl, trivial⟩ Proofs.Try.runUnderlying40 Proofs.Try.sizeOf46 rfl Proofs.Try.zeroValue46 (by kernel_rfl) rfl rfl rfl rfl ⟨[.string (p1_m.Point), .int .i64 (p1_m.Number), .int .i64 (p1_m.Time), .int .i64 (p1_m.Value), .int .i64 (1)], [], rfl, rfl, rfl⟩ rfl ?_
              intro b185 v186 H187 hv188 hle189 h190
              have hc191 : Value.cap' v186 = ([(S_telemetry_point.mk p1_m 1)]).length := by rw [hv188]; rfl
              exact oe [] hle189 ⟨v186, rfl, rfl, (h190), (hc191)⟩
            · intro HX hX X Rest hR
              rintro _ _ ⟨rfl, rfl⟩
              rintro _ _ ⟨v186, rfl, rfl, h190, hc191⟩
              intro hU hUp
              refine Wp [0] ?_
              refine W_appendO (α := S_telemetry_point) (l := p0_p.all_) (ys := [(S_telemetry_point.mk p1_m 1)]) rfl rfl Proofs.Try.underlying40 ⟨_, rfl, rfl, rfl, rfl⟩ rfl rfl rfl rfl rfl (h0.mono hX) h190 hz181 ?_
              intro v192 xs193 hr194
              exact oe [.row v192 46 (Rep.sz S_telemetry_point) (p0_p.all_ ++ ([(S_telemetry_point.mk p1_m 1)])).length xs193] (Hp.le_refl _) ⟨v192, xs193, rfl, rfl, (hr194)⟩
            intro H195 hle196
            rintro _ _ ⟨rfl, rfl⟩
            rintro _ _ ⟨rfl, rfl⟩
            rintro _ _ ⟨rfl, rfl⟩
            rintro _ _ ⟨rfl, rfl⟩
            rintro _ _ ⟨rfl, rfl⟩
            rintro _ _ ⟨rfl, rfl⟩
            rintro _ _ ⟨rfl, rfl⟩
            rintro _ _ ⟨v186, rfl, rfl, h190, hc191⟩
            rintro _ _ ⟨v192, xs193, rfl, rfl, hr194⟩
            refine isW ?_
            refine Wp [0, 0, 0] ?_
            refine W_nilCheck rfl rfl rfl ?_
            refine W_field (o := 1) rfl rfl Proofs.Try.runUnderlying42 rfl Proofs.Try.sizeOf40 rfl rfl rfl ?_
            refine Wp [1] ?_
            refine W_store (cs := [v192]) (out := [.int .i64 (p0_p.age), v192]) rfl Proofs.Try.sizeOf40 rfl rfl (Rw.cells hr194) rfl rfl (all_cons (Rw.one hr194) all_nil) rfl ?_
            refine W_end ?_
            refine E_normal_block ?_
            exact kx [1, 0] 1 (J169 _ _ _ ⟨_, _, _, hm, hr194, hle196, rfl, rfl⟩)
          · refine C_seq ?_
            obtain ⟨y197, h198, he199, hm⟩ := idx_some hm
            obtain ⟨_, rfl, hg200⟩ := (h0).elem he199
            refine rgp fm 11 [ph _, ph _, ph _, ph _, ph _, ph _, ph _, ph (.pointer (some ((Value.base (v0)).add ((r105 : Int).toNat * Rep.sz S_telemetry_point)))), ph _, ph _, ph (.int .i64 (y197.TelemetryMsg.Number))] ⟨om, om, om, om, om, om, om, ?_, om, om, ?_, trivial⟩ ?_
            · intro HX hX X Rest hR
              rintro _ _ ⟨rfl, rfl⟩
              rintro _ _ ⟨rfl, rfl⟩
              intro hU hUp
              refine W_indexO (hR _ (List.mem_cons_of_mem _ (List.mem_cons_self ..))) rfl rfl Proofs.Try.runUnderlying40 Proofs.Try.sizeOf46 rfl rfl h198 (List.getElem?_eq_some_iff.1 he199).1 ?_
              exact o0 ⟨rfl, rfl⟩
            · intro HX hX X Rest hR
              rintro _ _ ⟨rfl, rfl⟩
              intro hU hUp
              refine W_load rfl rfl Proofs.Try.isAgg3 rfl (row_one (o := 1) (hR _ (List.mem_cons_of_mem _ (List.mem_cons_self ..))) hg200 rfl) ?_
              exact o0 ⟨rfl, rfl⟩
            intro H201 hle202
            rintro _ _ ⟨rfl, rfl⟩
            rintro _ _ ⟨rfl, rfl⟩
            rintro _ _ ⟨rfl, rfl⟩
            rintro _ _ ⟨rfl, rfl⟩
            rintro _ _ ⟨rfl, rfl⟩
            rintro _ _ ⟨rfl, rfl⟩
            rintro _ _ ⟨rfl, rfl⟩
            rintro _ _ ⟨rfl, rfl⟩
            rintro _ _ ⟨rfl, rfl⟩
            rintro _ _ ⟨rfl, rfl⟩
            rintro _ _ ⟨rfl, rfl⟩
            refine isW ?_
            refine W_bin rfl rfl rfl rfl rfl ?_
            refine W_assign rfl rfl rfl ?_
            refine W_end ?_
            refine E_then ?_
            refine cd hm rfl (fun hb203 hm => ?_) (fun hb203 hm => ?_)
            · refine C_seq ?_
              refine C_region ?_
              refine W_assign rfl rfl rfl ?_
              refine W_assign rfl rfl rfl ?_
              refine W_end ?_
              refine E_then ?_
              refine C_ret ?_
              refine E_ret_block ?_
              refine E_ret_then ?_
              obtain rfl := Option.some.inj hm
              refine Ek [0, 0] 1 ?_
              refine E_weak hle202 ?_
              exact end2 rfl rfl rfl ⟨rfl, v0, xs0, rfl, rfl, ((h0.mono hle202)).toF⟩
            · refine C_seq ?_
              obtain ⟨y204, h205, he206, hm⟩ := idx_some hm
              obtain ⟨_, rfl, hg207⟩ := (h0).elem he206
              refine rgp fm 11 [ph _, ph _, ph _, ph _, ph _, ph _, ph _, ph (.pointer (some ((Value.base (v0)).add ((r105 : Int).toNat * Rep.sz S_telemetry_point)))), ph _, ph _, ph (.int .i64 (y204.TelemetryMsg.Time))] ⟨om, om, om, om, om, om, om, ?_, om, om, ?_, trivial⟩ ?_
              · intro HX hX X Rest hR
                rintro _ _ ⟨rfl, rfl⟩
                rintro _ _ ⟨rfl, rfl⟩
                intro hU hUp
                refine W_indexO (hR _ (List.mem_cons_of_mem _ (List.mem_cons_self ..))) rfl rfl Proofs.Try.runUnderlying40 Proofs.Try.sizeOf46 rfl rfl h205 (List.getElem?_eq_some_iff.1 he206).1 ?_
                exact o0 ⟨rfl, rfl⟩
              · intro HX hX X Rest hR
                rintro _ _ ⟨rfl, rfl⟩
                intro hU hUp
                refine W_load rfl rfl Proofs.Try.isAgg3 rfl (row_one (o := 2) (hR _ (List.mem_cons_of_mem _ (List.mem_cons_self ..))) hg207 rfl) ?_
                exact o0 ⟨rfl, rfl⟩
              intro H208 hle209
              rintro _ _ ⟨rfl, rfl⟩
              rintro _ _ ⟨rfl, rfl⟩
              rintro _ _ ⟨rfl, rfl⟩
              rintro _ _ ⟨rfl, rfl⟩
              rintro _ _ ⟨rfl, rfl⟩
              rintro _ _ ⟨rfl, rfl⟩
              rintro _ _ ⟨rfl, rfl⟩
              rintro _ _ ⟨rfl, rfl⟩
              rintro _ _ ⟨rfl, rfl⟩
              rintro _ _ ⟨rfl, rfl⟩
              rintro _ _ ⟨rfl, rfl⟩
              refine isW ?_
              refine W_bin rfl rfl rfl rfl rfl ?_
              refine W_assign rfl rfl rfl ?_
              refine W_end ?_
              refine E_then ?_
              refine cd hm rfl (fun hb210 hm => ?_) (fun hb210 hm => ?_)
              · refine C_seq ?_
                refine C_region ?_
                refine W_assign rfl rfl rfl ?_
                refine W_assign rfl rfl rfl ?_
                refine W_end ?_
                refine E_then ?_
                refine C_ret ?_
                refine E_ret_block ?_
                refine E_ret_then ?_
                obtain rfl := Option.some.inj hm
                refine Ek [0, 0] 1 ?_
                refine E_weak (Hp.le_trans hle202 hle209) ?_
                exact end2 rfl rfl rfl ⟨rfl, v0, xs0, rfl, rfl, (((h0.mono hle202).mono hle209)).toF⟩
              · obtain ⟨y211, h212, he213, hm⟩ := idx_some hm
                obtain ⟨_, rfl, hg214⟩ := (h0).elem he213
                refine rgp fm 16 [ph _, ph _, ph _, ph _, ph _, ph _, ph _, ph _, ph _, ph _, ph _, ph (.pointer (some ((Value.base (v0)).add ((r105 : Int).toNat * Rep.sz S_telemetry_point)))), ph _, ph (.int .i64 (y211.many)), ph _, ph (.agg [.string (p1_m.Point), .int .i64 (p1_m.Number), .int .i64 (p1_m.Time), .int .i64 (p1_m.Value), .int .i64 (IntKind.i64.wrap (y211.many + 1))].toArray)] ⟨om, om, om, om, om, om, om, om, om, om, om, ?_, om, ?_, om, ?_, trivial⟩ ?_
                · intro HX hX X Rest hR
                  rintro _ _ ⟨rfl, rfl⟩
                  rintro _ _ ⟨rfl, rfl⟩
                  intro hU hUp
                  refine W_indexO (hR _ (List.mem_cons_of_mem _ (List.mem_cons_self ..))) rfl rfl Proofs.Try.runUnderlying40 Proofs.Try.sizeOf46 rfl rfl h212 (List.getElem?_eq_some_iff.1 he213).1 ?_
                  exact o0 ⟨rfl, rfl⟩
                · intro HX hX X Rest hR
                  rintro _ _ ⟨rfl, rfl⟩
                  intro hU hUp
                  refine W_load rfl rfl Proofs.Try.isAgg3 rfl (row_one (o := 4) (hR _ (List.mem_cons_of_mem _ (List.mem_cons_self ..))) hg214 rfl) ?_
                  exact o0 ⟨rfl, rfl⟩
                · intro HX hX X Rest hR
                  rintro _ _ ⟨rfl, rfl⟩
                  rintro _ _ ⟨rfl, rfl⟩
                  intro hU hUp
                  refine W_build (css := [[.string (p1_m.Point), .int .i64 (p1_m.Number), .int .i64 (p1_m.Time), .int .i64 (p1_m.Value)], [.int .i64 (IntKind.i64.wrap (y211.many + 1))]]) (zs := [.string (⟨#[]⟩), .int .i64 (0), .int .i64 (0), .int .i64 (0), .int .i64 (0)]) (out := [.string (p1_m.Point), .int .i64 (p1_m.Number), .int .i64 (p1_m.Time), .int .i64 (p1_m.Value), .int .i64 (IntKind.i64.wrap (y211.many + 1))]) (places := [(0, 4), (4, 1)]) rfl rfl rfl ⟨rfl, rfl, trivial⟩ Proofs.Try.zeroValue46 rfl Proofs.Try.runUnderlying46 (fun w => by kernel_rfl) rfl ?_
                  exact o0 ⟨rfl, rfl⟩
                intro H215 hle216
                rintro _ _ ⟨rfl, rfl⟩
                rintro _ _ ⟨rfl, rfl⟩
                rintro _ _ ⟨rfl, rfl⟩
                rintro _ _ ⟨rfl, rfl⟩
                rintro _ _ ⟨rfl, rfl⟩
                rintro _ _ ⟨rfl, rfl⟩
                rintro _ _ ⟨rfl, rfl⟩
                rintro _ _ ⟨rfl, rfl⟩
                rintro _ _ ⟨rfl, rfl⟩
                rintro _ _ ⟨rfl, rfl⟩
                rintro _ _ ⟨rfl, rfl⟩
                rintro _ _ ⟨rfl, rfl⟩
                rintro _ _ ⟨rfl, rfl⟩
                rintro _ _ ⟨rfl, rfl⟩
                rintro _ _ ⟨rfl, rfl⟩
                rintro _ _ ⟨rfl, rfl⟩
                refine isW ?_
                obtain ⟨y217, h218, he219, hm⟩ := idx_some hm
                refine W_indexO (List.mem_cons_of_mem _ (List.mem_cons_self ..)) rfl rfl Proofs.Try.runUnderlying40 Proofs.Try.sizeOf46 rfl rfl h218 (List.getElem?_eq_some_iff.1 he219).1 ?_
                obtain ⟨_, rfl, hg220⟩ := (h0).elem he219
                refine Wp [1] ?_
                obtain ⟨hr221, he222, hg223⟩ := Rw.put (cs := [.string (p1_m.Point), .int .i64 (p1_m.Number), .int .i64 (p1_m.Time), .int .i64 (p1_m.Value), .int .i64 (IntKind.i64.wrap (y211.many + 1))]) (o := 0) (c := [.string (y217.TelemetryMsg.Point), .int .i64 (y217.TelemetryMsg.Number), .int .i64 (y217.TelemetryMsg.Time), .int .i64 (y217.TelemetryMsg.Value), .int .i64 (y217.many)]) (out := [.string (p1_m.Point), .int .i64 (p1_m.Number), .int .i64 (p1_m.Time), .int .i64 (p1_m.Value), .int .i64 (IntKind.i64.wrap (y211.many + 1))]) (e2 := (S_telemetry_point.mk p1_m (IntKind.i64.wrap (y211.many + 1)))) (((h0.mono hle202).mono hle209).mono hle216) he219 rfl hg220 rfl rfl rfl
                refine W_storeO2 (i := (r105 : Int).toNat * Rep.sz S_telemetry_point + 0) (cs := [.string (p1_m.Point), .int .i64 (p1_m.Number), .int .i64 (p1_m.Time), .int .i64 (p1_m.Value), .int .i64 (IntKind.i64.wrap (y211.many + 1))]) rfl Proofs.Try.sizeOf46 rfl (row_ad0 _ _) rfl rfl rfl (Rw.room (((h0.mono hle202).mono hle209).mono hle216) he219 rfl) rfl (all_cons rfl (all_cons rfl (all_cons rfl (all_cons rfl (all_cons rfl all_nil))))) (n' := (p0_p.all_.set ((r105 : Int).toNat) (S_telemetry_point.mk p1_m (IntKind.i64.wrap (y211.many + 1)))).length) List.length_set ?_
                generalize over xs0 ((r105 : Int).toNat * Rep.sz S_telemetry_point + 0) [.string (p1_m.Point), .int .i64 (p1_m.Number), .int .i64 (p1_m.Time), .int .i64 (p1_m.Value), .int .i64 (IntKind.i64.wrap (y211.many + 1))] = xs224 at hr221 hg223 ⊢
                refine W_end ?_
                refine E_normal_block ?_
                exact kx [0, 0] 1 (J169 _ _ _ ⟨_, _, _, hm, hr221, (Hp.le_trans (Hp.le_trans hle202 hle209) hle216), rfl, rfl⟩)
      · refine C_region ?_
        refine W_move rfl rfl rfl ?_
        refine W_bin rfl rfl rfl rfl rfl ?_
        refine W_move rfl rfl rfl ?_
        cases hb225 : (decide (r105 < 0))
        · refine W_no rfl rfl rfl ?_
          refine W_no rfl rfl rfl ?_
          refine W_no rfl rfl rfl ?_
          refine W_no rfl rfl rfl ?_
          refine W_no rfl rfl rfl ?_
          refine W_no rfl rfl rfl ?_
          refine W_pick rfl rfl rfl rfl ?_
          refine W_assign rfl rfl rfl ?_
          refine W_end ?_
          exact kj (J171 _ _ _ ⟨rfl, rfl, rfl⟩) ⟨(by exact sb (by first | rfl | simp only [hb104, hb225, bl2])), rfl, rfl, rfl, trivial⟩
        · refine W_move rfl rfl rfl ?_
          refine W_nilCheck rfl rfl rfl ?_
          refine W_field (o := 1) rfl rfl Proofs.Try.runUnderlying42 rfl Proofs.Try.sizeOf40 rfl rfl rfl ?_
          refine W_load rfl rfl Proofs.Try.isAgg40 rfl (own_at (List.mem_cons_self ..) rfl) ?_
          refine W_lenO (List.mem_cons_of_mem _ (List.mem_cons_self ..)) rfl rfl Proofs.Try.runUnderlying40 rfl ?_
          refine W_bin rfl rfl rfl rfl rfl ?_
          refine W_pick rfl rfl rfl rfl ?_
          refine W_assign rfl rfl rfl ?_
          refine W_end ?_
          exact kj (J171 _ _ _ ⟨rfl, rfl, rfl⟩) ⟨(by exact sb (by first | rfl | simp only [hb104, hb225, bl2])), rfl, rfl, rfl, trivial⟩

theorem m_math_bits_Len64_c {B : Nat} {w0 : Bs Proofs.Try.prog} {w : World} {H : Hp} {M : List Res} {p0_x : Int} {r : Int} (hm : m_math_bits_Len64 p0_x = some r) (ht : St B w0 H (M) w) :
    Calls Proofs.Try.prog 61 [.int .u64 (p0_x)].toArray w (Ret B w0 fun H' M' v => H = H' ∧ M = M' ∧ .int .i64 (r) = v) := by
  unfold m_math_bits_Len64 at hm
  refine enter Proofs.Try.func61 rfl rfl rfl ht ?_
  refine C_seq ?_
  refine C_region ?_
  refine W_assign rfl rfl rfl ?_
  refine W_end ?_
  refine E_then ?_
  refine cj [] [] 0 (fun u m H' M' L' => ∃ n102 : Int, ∃ n103 : Int, m_math_bits_Len64_b3 n102 n103 = some r ∧ H = H' ∧ m = M' ∧ (0, .int .u64 (n102)) :: (2, .int .i64 (n103)) :: u = L') ?_ (fun J104 => ?_)
  · rintro _ _ _ ⟨n102, n103, hm, rfl, rfl, rfl⟩
    unfold m_math_bits_Len64_b3 at hm
    refine cj [] [] 0 (fun u m H' M' L' => ∃ n106 : Int, ∃ n107 : Int, m_math_bits_Len64_b2 n106 n107 = some r ∧ H = H' ∧ m = M' ∧ (0, .int .u64 (n106)) :: (2, .int .i64 (n107)) :: u = L') ?_ (fun J108 => ?_)
    · rintro _ _ _ ⟨n106, n107, hm, rfl, rfl, rfl⟩
      unfold m_math_bits_Len64_b2 at hm
      refine cj [] [] 0 (fun u m H' M' L' => ∃ n110 : Int, ∃ n111 : Int, m_math_bits_Len64_b1 n110 n111 = some r ∧ H = H' ∧ m = M' ∧ (0, .int .u64 (n110)) :: (2, .int .i64 (n111)) :: u = L') ?_ (fun J112 => ?_)
      · rintro _ _ _ ⟨n110, n111, hm, rfl, rfl, rfl⟩
        unfold m_math_bits_Len64_b1 at hm
        refine C_seq ?_
        refine C_region ?_
        refine W_move rfl rfl rfl ?_
        refine W_move rfl rfl rfl ?_
        refine W_convInt rfl rfl Proofs.Try.runUnderlying52 Proofs.Try.runUnderlying5 rfl ?_
        obtain ⟨y113, h114, he115, hm⟩ := idx_some hm
        refine W_indexStr rfl rfl Proofs.Try.runUnderlying9 rfl rfl h114 he115 ?_
        refine W_convInt rfl rfl Proofs.Try.runUnderlying5 Proofs.Try.runUnderlying3 rfl ?_
        refine W_bin rfl rfl rfl rfl rfl ?_
        refine W_assign rfl rfl rfl ?_
        refine W_end ?_
        refine E_then ?_
        refine C_ret ?_
        obtain rfl := Option.some.inj hm
        refine E_weak (Hp.le_refl _) ?_
        exact end1 rfl rfl ⟨rfl, rfl, rfl⟩
      · refine C_seq ?_
        refine C_region ?_
        refine W_move rfl rfl rfl ?_
        refine W_bin rfl rfl rfl rfl rfl ?_
        refine W_end ?_
        refine E_then ?_
        refine cd hm rfl (fun hb116 hm => ?_) (fun hb116 hm => ?_)
        · refine C_seq ?_
          refine C_region ?_
          refine W_move rfl rfl rfl ?_
          refine W_shr rfl rfl rfl rfl (by decide) ?_
          refine W_assign rfl rfl rfl ?_
          refine W_end ?_
          refine E_then ?_
          refine C_region ?_
          refine W_move rfl rfl rfl ?_
          refine W_bin rfl rfl rfl rfl rfl ?_
          refine W_assign rfl rfl rfl ?_
          refine W_end ?_
          exact kj (J112 _ _ _ ⟨_, _, hm, rfl, rfl, rfl⟩)
        · refine C_skip ?_
          exact kj (J112 _ _ _ ⟨_, _, hm, rfl, rfl, rfl⟩)
    · refine C_seq ?_
      refine C_region ?_
      refine W_move rfl rfl rfl ?_
      refine W_bin rfl rfl rfl rfl rfl ?_
      refine W_end ?_
      refine E_then ?_
      refine cd hm rfl (fun hb117 hm => ?_) (fun hb117 hm => ?_)
      · refine C_seq ?_
        refine C_region ?_
        refine W_move rfl rfl rfl ?_
        refine W_shr rfl rfl rfl rfl (by decide) ?_
        refine W_assign rfl rfl rfl ?_
        refine W_end ?_
        refine E_then ?_
        refine C_region ?_
        refine W_move rfl rfl rfl ?_
        refine W_bin rfl rfl rfl rfl rfl ?_
        refine W_assign rfl rfl rfl ?_
        refine W_end ?_
        exact kj (J108 _ _ _ ⟨_, _, hm, rfl, rfl, rfl⟩)
      · refine C_skip ?_
        exact kj (J108 _ _ _ ⟨_, _, hm, rfl, rfl, rfl⟩)
  · refine C_seq ?_
    refine C_region ?_
    refine W_move rfl rfl rfl ?_
    refine W_bin rfl rfl rfl rfl rfl ?_
    refine W_end ?_
    refine E_then ?_
    refine cd hm rfl (fun hb118 hm => ?_) (fun hb118 hm => ?_)
    · refine C_seq ?_
      refine C_region ?_
      refine W_move rfl rfl rfl ?_
      refine W_shr rfl rfl rfl rfl (by decide) ?_
      refine W_assign rfl rfl rfl ?_
      refine W_end ?_
      refine E_then ?_
      refine C_region ?_
      refine W_assign rfl rfl rfl ?_
      refine W_end ?_
      exact kj (J104 _ _ _ ⟨_, _, hm, rfl, rfl, rfl⟩)
    · refine C_skip ?_
      exact kj (J104 _ _ _ ⟨_, _, hm, rfl, rfl, rfl⟩)

theorem m_math_bits_Len_c {B : Nat} {w0 : Bs Proofs.Try.prog} {w : World} {H : Hp} {M : List Res} {p0_x : Int} {r : Int} (hm : m_math_bits_Len p0_x = some r) (ht : St B w0 H (M) w) :
    Calls Proofs.Try.prog 45 [.int .u64 (p0_x)].toArray w (Ret B w0 fun H' M' v => H = H' ∧ M = M' ∧ .int .i64 (r) = v) := by
  unfold m_math_bits_Len at hm
  refine enter Proofs.Try.func45 rfl rfl rfl ht ?_
  refine C_seq ?_
  refine C_region ?_
  refine W_assign rfl rfl rfl ?_
  refine W_end ?_
  refine E_then ?_
  refine C_seq ?_
  refine cF rfl ?_
  refine C_skip ?_
  refine E_then ?_
  refine C_seq ?_
  refine C_region ?_
  refine W_move rfl rfl rfl ?_
  obtain ⟨r101, hc102, hm⟩ := bind_some hm
  refine W_call Proofs.Try.call61 rfl rfl rfl (fun w ht => by have h := m_math_bits_Len64_c (hm := hc102)  ht; exact h) ?_
  rintro _ _ _ ⟨rfl, rfl, rfl⟩
  refine W_assign rfl rfl rfl ?_
  refine W_end ?_
  refine E_then ?_
  refine C_ret ?_
  obtain rfl := Option.some.inj hm
  refine E_weak (Hp.le_refl _) ?_
  exact end1 rfl rfl ⟨rfl, rfl, rfl⟩

theorem m_internal_bytealg_CompareString_c {B : Nat} {w0 : Bs Proofs.Try.prog} {w : World} {H : Hp} {M : List Res} {p0_a : ByteArray} {p1_b : ByteArray} {r : Int} (hm : m_internal_bytealg_CompareString p0_a p1_b = r) (ht : St B w0 H (M) w) :
    Calls Proofs.Try.prog 46 [.string (p0_a), .string (p1_b)].toArray w (Ret B w0 fun H' M' v => H = H' ∧ M = M' ∧ .int .i64 (r) = v) := by
  unfold m_internal_bytealg_CompareString at hm
  refine enter Proofs.Try.func46 rfl rfl rfl ht ?_
  refine C_seq ?_
  refine C_region ?_
  refine W_assign rfl rfl rfl ?_
  refine W_end ?_
  refine E_then ?_
  refine C_seq ?_
  refine C_region ?_
  refine W_move rfl rfl rfl ?_
  refine W_move rfl rfl rfl ?_
  refine W_extern (cmpS_extern Proofs.Try.func62 (by kernel_rfl) (by kernel_rfl) (by kernel_rfl) (by kernel_rfl) _ _) rfl rfl rfl ?_
  refine W_assign rfl rfl rfl ?_
  refine W_end ?_
  refine E_then ?_
  refine C_ret ?_
  obtain rfl := hm
  refine E_weak (Hp.le_refl _) ?_
  exact end1 rfl rfl ⟨rfl, rfl, rfl⟩

theorem m_strings_Compare_c {B : Nat} {w0 : Bs Proofs.Try.prog} {w : World} {H : Hp} {M : List Res} {p0_a : ByteArray} {p1_b : ByteArray} {r : Int} (hm : m_strings_Compare p0_a p1_b = r) (ht : St B w0 H (M) w) :
    Calls Proofs.Try.prog 21 [.string (p0_a), .string (p1_b)].toArray w (Ret B w0 fun H' M' v => H = H' ∧ M = M' ∧ .int .i64 (r) = v) := by
  unfold m_strings_Compare at hm
  refine enter Proofs.Try.func21 rfl rfl rfl ht ?_
  refine C_seq ?_
  refine C_region ?_
  refine W_assign rfl rfl rfl ?_
  refine W_end ?_
  refine E_then ?_
  refine C_seq ?_
  refine C_region ?_
  refine W_move rfl rfl rfl ?_
  refine W_move rfl rfl rfl ?_
  refine W_call Proofs.Try.call46 rfl rfl rfl (fun w ht => by have h := m_internal_bytealg_CompareString_c (hm := (rfl : m_internal_bytealg_CompareString p0_a p1_b = _))  ht; exact h) ?_
  rintro _ _ _ ⟨rfl, rfl, rfl⟩
  refine W_assign rfl rfl rfl ?_
  refine W_end ?_
  refine E_then ?_
  refine C_ret ?_
  obtain rfl := hm
  refine E_weak (Hp.le_refl _) ?_
  exact end1 rfl rfl ⟨rfl, rfl, rfl⟩

theorem m_telemetry_Points_List_1_c {B : Nat} {w0 : Bs Proofs.Try.prog} {w : World} {H : Hp} {M : List Res} {p0_a : S_api_TelemetryMsg} {p1_b : S_api_TelemetryMsg} {r : Int} (hm : m_telemetry_Points_List_1 p0_a p1_b = r) (ht : St B w0 H (M) w) :
    Calls Proofs.Try.prog 20 [.agg [.string (p0_a.Point), .int .i64 (p0_a.Number), .int .i64 (p0_a.Time), .int .i64 (p0_a.Value)].toArray, .agg [.string (p1_b.Point), .int .i64 (p1_b.Number), .int .i64 (p1_b.Time), .int .i64 (p1_b.Value)].toArray].toArray w (Ret B w0 fun H' M' v => H = H' ∧ M = M' ∧ .int .i64 (r) = v) := by
  unfold m_telemetry_Points_List_1 at hm
  refine enter Proofs.Try.func20 rfl rfl rfl ht ?_
  refine C_seq ?_
  refine C_region ?_
  refine W_box (cs := [.string (p0_a.Point), .int .i64 (p0_a.Number), .int .i64 (p0_a.Time), .int .i64 (p0_a.Value)]) rfl rfl rfl rfl (fun b101 => ?_)
  refine W_box (cs := [.string (p1_b.Point), .int .i64 (p1_b.Number), .int .i64 (p1_b.Time), .int .i64 (p1_b.Value)]) rfl rfl rfl rfl (fun b102 => ?_)
  refine W_assign rfl rfl rfl ?_
  refine W_end ?_
  refine E_then ?_
  refine C_seq ?_
  refine C_region ?_
  refine W_field (o := 0) rfl rfl Proofs.Try.runUnderlying29 rfl Proofs.Try.sizeOf9 rfl rfl rfl ?_
  refine W_load rfl rfl Proofs.Try.isAgg9 rfl (own_at (List.mem_cons_of_mem _ (List.mem_cons_self ..)) rfl) ?_
  refine W_field (o := 0) rfl rfl Proofs.Try.runUnderlying29 rfl Proofs.Try.sizeOf9 rfl rfl rfl ?_
  refine W_load rfl rfl Proofs.Try.isAgg9 rfl (own_at (List.mem_cons_self ..) rfl) ?_
  refine W_call Proofs.Try.call21 rfl rfl rfl (fun w ht => by have h := m_strings_Compare_c (hm := (rfl : m_strings_Compare p0_a.Point p1_b.Point = _))  ht; exact h) ?_
  rintro _ _ _ ⟨rfl, rfl, rfl⟩
  refine W_assign rfl rfl rfl ?_
  refine W_end ?_
  refine E_then ?_
  refine C_ret ?_
  obtain rfl := hm
  refine Ek [] 2 ?_
  refine E_weak (Hp.le_refl _) ?_
  exact end1 rfl rfl ⟨rfl, rfl, rfl⟩

theorem m_slices_insertionSortCmpFunc_api_TelemetryMsg__telemetry_Points_List_1_c {B : Nat} {w0 : Bs Proofs.Try.prog} {w : World} {H : Hp} {M : List Res} {data : (List S_api_TelemetryMsg)} {p1_a : Int} {p2_b : Int} {v0 : Value} {xs0 : List Value} {r : (List S_api_TelemetryMsg)} (hm : m_slices_insertionSortCmpFunc_api_TelemetryMsg__telemetry_Points_List_1 data p1_a p2_b = some r) (h0 : Rw H v0 xs0 data) (ht : St B w0 H (.row v0 29 (Rep.sz S_api_TelemetryMsg) data.length xs0 :: M) w) :
    Calls Proofs.Try.prog 52 [v0, .int .i64 (p1_a), .int .i64 (p2_b), .func (.func 20) [].toArray [].toArray].toArray w (Ret B w0 fun H' M' v => H = H' ∧ ∃ qxs0 : List Value, .row v0 29 (Rep.sz S_api_TelemetryMsg) r.length qxs0 :: M = M' ∧ .tuple #[] = v ∧ RwF v0 qxs0 r) := by
  unfold m_slices_insertionSortCmpFunc_api_TelemetryMsg__telemetry_Points_List_1 at hm
  refine enter Proofs.Try.func52 rfl rfl rfl ht ?_
  refine C_seq ?_
  refine C_region ?_
  refine W_move rfl rfl rfl ?_
  refine W_bin rfl rfl rfl rfl rfl ?_
  refine W_assign rfl rfl rfl ?_
  refine W_end ?_
  refine E_then ?_
  refine C_block ?_
  obtain ⟨J629, hm630, hm631, hm⟩ := loopF_nm hm
  refine cl [(0, _), (1, _), (2, _), (3, _)] [] 1 [] 0 (fun u m n H' M' L' => ∃ l449 : List S_api_TelemetryMsg, ∃ n451 : Int, ∃ xs448 : List Value, J629 n (l449, n451) = some r ∧ Rw H' v0 xs448 l449 ∧ H.le H' ∧ .row v0 29 (Rep.sz S_api_TelemetryMsg) l449.length xs448 :: m = M' ∧ (8, .int .i64 (n451)) :: u = L') FUEL rfl ⟨_, _, _, hm, h0, (Hp.le_refl _), rfl, rfl⟩ ?_
  rintro n457 H452 _ _ ⟨l449, n451, xs448, hm, hr450, hle453, rfl, rfl⟩
  cases n457 with
  | zero => exact nomatch (hm631 _).symm.trans hm
  | succ n457 =>
    have hm := (hm630 _ _).symm.trans hm
    generalize hn456 : J629 n457 = nx455 at hm
    try dsimp only at hm
    unfold m_slices_insertionSortCmpFunc_api_TelemetryMsg__telemetry_Points_List_1_b3 at hm
    refine C_seq ?_
    refine C_seq ?_
    refine C_region ?_
    refine W_move rfl rfl rfl ?_
    refine W_move rfl rfl rfl ?_
    refine W_bin rfl rfl rfl rfl rfl ?_
    refine W_end ?_
    refine E_then ?_
    refine cd hm rfl (fun hb463 hm => ?_) (fun hb463 hm => ?_)
    · refine C_skip ?_
      refine E_then ?_
      refine C_seq ?_
      refine C_block ?_
      refine C_seq ?_
      refine C_region ?_
      refine W_move rfl rfl rfl ?_
      refine W_assign rfl rfl rfl ?_
      refine W_end ?_
      refine E_then ?_
      refine C_block ?_
      obtain ⟨J626, hm627, hm628, hm⟩ := loopF_nm hm
      refine cl [(0, _), (1, _), (2, _), (3, _), (8, _)] [] 1 [] 0 (fun u m n H' M' L' => ∃ l568 : List S_api_TelemetryMsg, ∃ n570 : Int, ∃ xs567 : List Value, J626 n (l568, n570) = some r ∧ Rw H' v0 xs567 l568 ∧ H452.le H' ∧ .row v0 29 (Rep.sz S_api_TelemetryMsg) l568.length xs567 :: m = M' ∧ (9, .int .i64 (n570)) :: u = L') FUEL rfl ⟨_, _, _, hm, hr450, (Hp.le_refl _), rfl, rfl⟩ ?_
      rintro n576 H571 _ _ ⟨l568, n570, xs567, hm, hr569, hle572, rfl, rfl⟩
      cases n576 with
      | zero => exact nomatch (hm628 _).symm.trans hm
      | succ n576 =>
        have hm := (hm627 _ _).symm.trans hm
        generalize hn575 : J626 n576 = nx574 at hm
        try dsimp only at hm
        unfold m_slices_insertionSortCmpFunc_api_TelemetryMsg__telemetry_Points_List_1_b4 at hm
        refine C_seq ?_
        refine C_seq ?_
        cases hb582 : (decide (p1_a < n570))
        · have hm := ite_f' hb582 hm
          refine rgp fm 14 [ph _, ph _, ph (.bool (false)), ph _, ph _, ph _, ph _, ph _, ph _, ph _, ph _, ph _, ph _, ph _] ⟨om, om, omb hb582, om, om, om, om, om, om, om, om, om, om, om, trivial⟩ ?_
          intro H583 hle584
          rintro _ _ ⟨rfl, rfl⟩
          rintro _ _ ⟨rfl, rfl⟩
          rintro _ _ ⟨rfl, rfl⟩
          rintro _ _ ⟨rfl, rfl⟩
          rintro _ _ ⟨rfl, rfl⟩
          rintro _ _ ⟨rfl, rfl⟩
          rintro _ _ ⟨rfl, rfl⟩
          rintro _ _ ⟨rfl, rfl⟩
          rintro _ _ ⟨rfl, rfl⟩
          rintro _ _ ⟨rfl, rfl⟩
          rintro _ _ ⟨rfl, rfl⟩
          rintro _ _ ⟨rfl, rfl⟩
          rintro _ _ ⟨rfl, rfl⟩
          rintro _ _ ⟨rfl, rfl⟩
          refine isW ?_
          refine W_no rfl rfl rfl ?_
          refine W_no rfl rfl rfl ?_
          refine W_pick rfl rfl rfl rfl ?_
          refine W_end ?_
          refine E_then ?_
          refine cF rfl ?_
          refine C_exit ?_
          refine E_exit_then ?_
          refine E_exit_then ?_
          refine E_exit_hit ?_
          refine E_normal_block ?_
          refine E_then ?_
          refine C_region ?_
          refine W_move rfl rfl rfl ?_
          refine W_bin rfl rfl rfl rfl rfl ?_
          refine W_assign rfl rfl rfl ?_
          refine W_end ?_
          exact kj (E_back (Nat.lt_succ_self _) ⟨_, _, _, ((congrFun hn456 _).trans hm), (hr569.mono hle584), (Hp.le_trans (Hp.le_trans hle453 hle572) hle584), rfl, rfl⟩)
        · have hm := ite_t' hb582 hm
          obtain ⟨y585, h586, he587, hm⟩ := idx_some hm
          obtain ⟨_, rfl, hg588⟩ := (hr569).elem he587
          obtain ⟨y589, h590, he591, hm⟩ := idx_some hm
          obtain ⟨_, rfl, hg592⟩ := (hr569).elem he591
          refine rgp fm 14 [ph _, ph _, ph (.bool (true)), ph _, ph _, ph _, ph _, ph (.pointer (some ((Value.base (v0)).add ((n570 : Int).toNat * Rep.sz S_api_TelemetryMsg)))), ph (.agg [.string (y585.Point), .int .i64 (y585.Number), .int .i64 (y585.Time), .int .i64 (y585.Value)].toArray), ph _, ph _, ph _, ph (.pointer (some ((Value.base (v0)).add ((IntKind.i64.wrap (n570 - 1) : Int).toNat * Rep.sz S_api_TelemetryMsg)))), ph (.agg [.string (y589.Point), .int .i64 (y589.Number), .int .i64 (y589.Time), .int .i64 (y589.Value)].toArray)] ⟨om, om, omb hb582, om, om, om, om, ?_, ?_, om, om, om, ?_, ?_, trivial⟩ ?_
          · intro HX hX X Rest hR
            rintro _ _ ⟨rfl, rfl⟩
            rintro _ _ ⟨rfl, rfl⟩
            rintro _ _ ⟨rfl, rfl⟩
            intro hU hUp
            refine W_indexO (hR _ (List.mem_cons_self ..)) rfl rfl Proofs.Try.runUnderlying27 Proofs.Try.sizeOf29 rfl rfl h586 (List.getElem?_eq_some_iff.1 he587).1 ?_
            exact o0 ⟨rfl, rfl⟩
          · intro HX hX X Rest hR
            rintro _ _ ⟨rfl, rfl⟩
            rintro _ _ ⟨rfl, rfl⟩
            intro hU hUp
            refine W_loadAgg (cs := [.string (y585.Point), .int .i64 (y585.Number), .int .i64 (y585.Time), .int .i64 (y585.Value)]) rfl rfl Proofs.Try.isAgg29 Proofs.Try.sizeOf29 rfl (row_cells (hR _ (List.mem_cons_self ..)) hg588) rfl ?_
            exact o0 ⟨rfl, rfl⟩
          · intro HX hX X Rest hR
            rintro _ _ ⟨rfl, rfl⟩
            rintro _ _ ⟨rfl, rfl⟩
            rintro _ _ ⟨rfl, rfl⟩
            intro hU hUp
            refine W_indexO (hR _ (List.mem_cons_self ..)) rfl rfl Proofs.Try.runUnderlying27 Proofs.Try.sizeOf29 rfl rfl h590 (List.getElem?_eq_some_iff.1 he591).1 ?_
            exact o0 ⟨rfl, rfl⟩
          · intro HX hX X Rest hR
            rintro _ _ ⟨rfl, rfl⟩
            rintro _ _ ⟨rfl, rfl⟩
            intro hU hUp
            refine W_loadAgg (cs := [.string (y589.Point), .int .i64 (y589.Number), .int .i64 (y589.Time), .int .i64 (y589.Value)]) rfl rfl Proofs.Try.isAgg29 Proofs.Try.sizeOf29 rfl (row_cells (hR _ (List.mem_cons_self ..)) hg592) rfl ?_
            exact o0 ⟨rfl, rfl⟩
          intro H593 hle594
          rintro _ _ ⟨rfl, rfl⟩
          rintro _ _ ⟨rfl, rfl⟩
          rintro _ _ ⟨rfl, rfl⟩
          rintro _ _ ⟨rfl, rfl⟩
          rintro _ _ ⟨rfl, rfl⟩
          rintro _ _ ⟨rfl, rfl⟩
          rintro _ _ ⟨rfl, rfl⟩
          rintro _ _ ⟨rfl, rfl⟩
          rintro _ _ ⟨rfl, rfl⟩
          rintro _ _ ⟨rfl, rfl⟩
          rintro _ _ ⟨rfl, rfl⟩
          rintro _ _ ⟨rfl, rfl⟩
          rintro _ _ ⟨rfl, rfl⟩
          rintro _ _ ⟨rfl, rfl⟩
          refine isW ?_
          refine W_callv Proofs.Try.call20 rfl rfl rfl rfl (fun w ht => by have h := m_telemetry_Points_List_1_c (hm := (rfl : m_telemetry_Points_List_1 y585 y589 = _))  ht; exact h) ?_
          rintro _ _ _ ⟨rfl, rfl, rfl⟩
          refine W_bin rfl rfl rfl rfl rfl ?_
          refine W_pick rfl rfl rfl rfl ?_
          refine W_end ?_
          refine E_then ?_
          refine cd hm rfl (fun hb595 hm => ?_) (fun hb595 hm => ?_)
          · refine C_skip ?_
            refine E_then ?_
            refine C_seq ?_
            refine C_block ?_
            obtain ⟨y596, h597, he598, hm⟩ := idx_some hm
            obtain ⟨_, rfl, hg599⟩ := (hr569).elem he598
            obtain ⟨y600, h601, he602, hm⟩ := idx_some hm
            obtain ⟨_, rfl, hg603⟩ := (hr569).elem he602
            obtain ⟨y604, h605, he606, hm⟩ := idx_some hm
            obtain ⟨_, rfl, hg607⟩ := (hr569).elem he606
            refine rgx fm 16 [ph _, ph _, ph _, ph _, ph _, ph _, ph _, ph _, ph (.pointer (some ((Value.base (v0)).add ((IntKind.i64.wrap (n570 - 1) : Int).toNat * Rep.sz S_api_TelemetryMsg)))), ph (.agg [.string (y596.Point), .int .i64 (y596.Number), .int .i64 (y596.Time), .int .i64 (y596.Value)].toArray), ph _, ph _, ph (.pointer (some ((Value.base (v0)).add ((n570 : Int).toNat * Rep.sz S_api_TelemetryMsg)))), ph (.agg [.string (y600.Point), .int .i64 (y600.Number), .int .i64 (y600.Time), .int .i64 (y600.Value)].toArray), ph (.pointer (some ((Value.base (v0)).add ((n570 : Int).toNat * Rep.sz S_api_TelemetryMsg)))), (fun H rs v => ∃ xs615 : List Value, [.row v0 29 (Rep.sz S_api_TelemetryMsg) (l568.set ((n570 : Int).toNat) y596).length xs615] = rs ∧ .pointer (some ((Value.base (v0)).add ((n570 : Int).toNat * Rep.sz S_api_TelemetryMsg))) = v ∧ Rw H v0 xs615 (l568.set ((n570 : Int).toNat) y596))] (sp 16 [(15, [16])]) (sp 16 [(8, [16]), (9, [16]), (12, [16]), (13, [16]), (14, [16])]) [0] [0, 1, 2, 3, 4, 5, 6, 7, 8, 9, 10, 11, 12, 13, 14, 15] rfl ⟨om, om, om, om, om, om, om, om, ?_, ?_, om, om, ?_, ?_, ?_, ?_, trivial⟩ ?_
            · intro HX hX X Rest hR
              rintro _ _ ⟨rfl, rfl⟩
              rintro _ _ ⟨rfl, rfl⟩
              intro hU hUp
              have hU2 : ∀ s ∈ [.row v0 29 (Rep.sz S_api_TelemetryMsg) l568.length xs567], s ∈ Rest := hU
              refine W_indexO (hU2 _ (List.mem_cons_self ..)) rfl rfl Proofs.Try.runUnderlying27 Proofs.Try.sizeOf29 rfl rfl h597 (List.getElem?_eq_some_iff.1 he598).1 ?_
              exact o0 ⟨rfl, rfl⟩
            · intro HX hX X Rest hR
              rintro _ _ ⟨rfl, rfl⟩
              intro hU hUp
              have hU2 : ∀ s ∈ [.row v0 29 (Rep.sz S_api_TelemetryMsg) l568.length xs567], s ∈ Rest := hU
              refine W_loadAgg (cs := [.string (y596.Point), .int .i64 (y596.Number), .int .i64 (y596.Time), .int .i64 (y596.Value)]) rfl rfl Proofs.Try.isAgg29 Proofs.Try.sizeOf29 rfl (row_cells (hU2 _ (List.mem_cons_self ..)) hg599) rfl ?_
              exact o0 ⟨rfl, rfl⟩
            · intro HX hX X Rest hR
              rintro _ _ ⟨rfl, rfl⟩
              rintro _ _ ⟨rfl, rfl⟩
              intro hU hUp
              have hU2 : ∀ s ∈ [.row v0 29 (Rep.sz S_api_TelemetryMsg) l568.length xs567], s ∈ Rest := hU
              refine W_indexO (hU2 _ (List.mem_cons_self ..)) rfl rfl Proofs.Try.runUnderlying27 Proofs.Try.sizeOf29 rfl rfl h601 (List.getElem?_eq_some_iff.1 he602).1 ?_
              exact o0 ⟨rfl, rfl⟩
            · intro HX hX X Rest hR
              rintro _ _ ⟨rfl, rfl⟩
              intro hU hUp
              have hU2 : ∀ s ∈ [.row v0 29 (Rep.sz S_api_TelemetryMsg) l568.length xs567], s ∈ Rest := hU
              refine W_loadAgg (cs := [.string (y600.Point), .int .i64 (y600.Number), .int .i64 (y600.Time), .int .i64 (y600.Value)]) rfl rfl Proofs.Try.isAgg29 Proofs.Try.sizeOf29 rfl (row_cells (hU2 _ (List.mem_cons_self ..)) hg603) rfl ?_
              exact o0 ⟨rfl, rfl⟩
            · intro HX hX X Rest hR
              rintro _ _ ⟨rfl, rfl⟩
              rintro _ _ ⟨rfl, rfl⟩
              rintro _ _ ⟨rfl, rfl⟩
              rintro _ _ ⟨rfl, rfl⟩
              rintro _ _ ⟨rfl, rfl⟩
              rintro _ _ ⟨rfl, rfl⟩
              rintro _ _ ⟨rfl, rfl⟩
              rintro _ _ ⟨rfl, rfl⟩
              rintro _ _ ⟨rfl, rfl⟩
              rintro _ _ ⟨rfl, rfl⟩
              intro hU hUp
              have hU2 : ∀ s ∈ [.row v0 29 (Rep.sz S_api_TelemetryMsg) l568.length xs567], s ∈ Rest := hU
              refine W_indexO (hU2 _ (List.mem_cons_self ..)) rfl rfl Proofs.Try.runUnderlying27 Proofs.Try.sizeOf29 rfl rfl h605 (List.getElem?_eq_some_iff.1 he606).1 ?_
              exact o0 ⟨rfl, rfl⟩
            · intro HX hX X Rest hR
              rintro _ _ ⟨rfl, rfl⟩
              rintro _ _ ⟨rfl, rfl⟩
              rintro _ _ ⟨rfl, rfl⟩
              rintro _ _ ⟨rfl, rfl⟩
              rintro _ _ ⟨rfl, rfl⟩
              rintro _ _ ⟨rfl, rfl⟩
              rintro _ _ ⟨rfl, rfl⟩
              rintro _ _ ⟨rfl, rfl⟩
              rintro _ _ ⟨rfl, rfl⟩
              rintro _ _ ⟨rfl, rfl⟩
              intro hU hUp
              refine Wp [0] ?_
              obtain ⟨hr612, he613, hg614⟩ := Rw.put (cs := [.string (y596.Point), .int .i64 (y596.Number), .int .i64 (y596.Time), .int .i64 (y596.Value)]) (o := 0) (c := [.string (y604.Point), .int .i64 (y604.Number), .int .i64 (y604.Time), .int .i64 (y604.Value)]) (out := [.string (y596.Point), .int .i64 (y596.Number), .int .i64 (y596.Time), .int .i64 (y596.Value)]) (e2 := y596) ((hr569.mono hle594).mono hX) he606 rfl hg607 rfl rfl rfl
              refine W_storeO2 (i := (n570 : Int).toNat * Rep.sz S_api_TelemetryMsg + 0) (cs := [.string (y596.Point), .int .i64 (y596.Number), .int .i64 (y596.Time), .int .i64 (y596.Value)]) rfl Proofs.Try.sizeOf29 rfl (row_ad0 _ _) rfl rfl rfl (Rw.room ((hr569.mono hle594).mono hX) he606 rfl) rfl (all_cons rfl (all_cons rfl (all_cons rfl (all_cons rfl all_nil)))) (n' := (l568.set ((n570 : Int).toNat) y596).length) List.length_set ?_
              generalize over xs567 ((n570 : Int).toNat * Rep.sz S_api_TelemetryMsg + 0) [.string (y596.Point), .int .i64 (y596.Number), .int .i64 (y596.Time), .int .i64 (y596.Value)] = xs615 at hr612 hg614 ⊢
              exact W_end (OneT_endL rfl [.row v0 29 (Rep.sz S_api_TelemetryMsg) (l568.set ((n570 : Int).toNat) y596).length xs615] (Hp.le_refl _) ⟨xs615, rfl, rfl, (hr612)⟩)
            intro H616 hle617
            rintro _ _ ⟨rfl, rfl⟩
            rintro _ _ ⟨rfl, rfl⟩
            rintro _ _ ⟨rfl, rfl⟩
            rintro _ _ ⟨rfl, rfl⟩
            rintro _ _ ⟨rfl, rfl⟩
            rintro _ _ ⟨rfl, rfl⟩
            rintro _ _ ⟨rfl, rfl⟩
            rintro _ _ ⟨rfl, rfl⟩
            rintro _ _ ⟨rfl, rfl⟩
            rintro _ _ ⟨rfl, rfl⟩
            rintro _ _ ⟨rfl, rfl⟩
            rintro _ _ ⟨rfl, rfl⟩
            rintro _ _ ⟨rfl, rfl⟩
            rintro _ _ ⟨rfl, rfl⟩
            rintro _ _ ⟨rfl, rfl⟩
            rintro _ _ _ ⟨xs615, rfl, _, hr612⟩
            refine isW ?_
            refine Wp [0] ?_
            obtain ⟨y618, h619, he620, hm⟩ := idx_some hm
            refine W_indexO (List.mem_cons_self ..) rfl rfl Proofs.Try.runUnderlying27 Proofs.Try.sizeOf29 rfl rfl h619 (List.getElem?_eq_some_iff.1 he620).1 ?_
            obtain ⟨_, rfl, hg621⟩ := (hr612).elem he620
            obtain ⟨hr622, he623, hg624⟩ := Rw.put (cs := [.string (y600.Point), .int .i64 (y600.Number), .int .i64 (y600.Time), .int .i64 (y600.Value)]) (o := 0) (c := [.string (y618.Point), .int .i64 (y618.Number), .int .i64 (y618.Time), .int .i64 (y618.Value)]) (out := [.string (y600.Point), .int .i64 (y600.Number), .int .i64 (y600.Time), .int .i64 (y600.Value)]) (e2 := y600) hr612 he620 rfl hg621 rfl rfl rfl
            refine W_storeO2 (i := (IntKind.i64.wrap (n570 - 1) : Int).toNat * Rep.sz S_api_TelemetryMsg + 0) (cs := [.string (y600.Point), .int .i64 (y600.Number), .int .i64 (y600.Time), .int .i64 (y600.Value)]) rfl Proofs.Try.sizeOf29 rfl (row_ad0 _ _) rfl rfl rfl (Rw.room hr612 he620 rfl) rfl (all_cons rfl (all_cons rfl (all_cons rfl (all_cons rfl all_nil)))) (n' := ((l568.set ((n570 : Int).toNat) y596).set ((IntKind.i64.wrap (n570 - 1) : Int).toNat) y600).length) List.length_set ?_
            generalize over xs615 ((IntKind.i64.wrap (n570 - 1) : Int).toNat * Rep.sz S_api_TelemetryMsg + 0) [.string (y600.Point), .int .i64 (y600.Number), .int .i64 (y600.Time), .int .i64 (y600.Value)] = xs625 at hr622 hg624 ⊢
            refine W_end ?_
            refine E_normal_block ?_
            refine E_then ?_
            refine C_region ?_
            refine W_move rfl rfl rfl ?_
            refine W_bin rfl rfl rfl rfl rfl ?_
            refine W_assign rfl rfl rfl ?_
            refine W_end ?_
            exact kj (E_back (Nat.lt_succ_self _) ⟨_, _, _, ((congrFun hn575 _).trans hm), hr622, (Hp.le_trans (Hp.le_trans hle572 hle594) hle617), rfl, rfl⟩)
          · refine C_exit ?_
            refine E_exit_then ?_
            refine E_exit_then ?_
            refine E_exit_hit ?_
            refine E_normal_block ?_
            refine E_then ?_
            refine C_region ?_
            refine W_move rfl rfl rfl ?_
            refine W_bin rfl rfl rfl rfl rfl ?_
            refine W_assign rfl rfl rfl ?_
            refine W_end ?_
            exact kj (E_back (Nat.lt_succ_self _) ⟨_, _, _, ((congrFun hn456 _).trans hm), (hr569.mono hle594), (Hp.le_trans (Hp.le_trans hle453 hle572) hle594), rfl, rfl⟩)
    · refine C_exit ?_
      refine E_exit_then ?_
      refine E_exit_then ?_
      refine E_exit_hit ?_
      refine E_off ?_
      obtain rfl := Option.some.inj hm
      refine E_weak hle453 ?_
      exact end0 rfl ⟨rfl, xs448, rfl, rfl, (hr450).toF⟩

theorem m_slices_siftDownCmpFunc_api_TelemetryMsg__telemetry_Points_List_1_c {B : Nat} {w0 : Bs Proofs.Try.prog} {w : World} {H : Hp} {M : List Res} {data : (List S_api_TelemetryMsg)} {lo : Int} {hi : Int} {first : Int} {v0 : Value} {xs0 : List Value} {r : (List S_api_TelemetryMsg)} (hm : m_slices_siftDownCmpFunc_api_TelemetryMsg__telemetry_Points_List_1 data lo hi first = some r) (h0 : Rw H v0 xs0 data) (ht : St B w0 H (.row v0 29 (Rep.sz S_api_TelemetryMsg) data.length xs0 :: M) w) :
    Calls Proofs.Try.prog 63 [v0, .int .i64 (lo), .int .i64 (hi), .int .i64 (first), .func (.func 20) [].toArray [].toArray].toArray w (Ret B w0 fun H' M' v => H = H' ∧ ∃ qxs0 : List Value, .row v0 29 (Rep.sz S_api_TelemetryMsg) r.length qxs0 :: M = M' ∧ .tuple #[] = v ∧ RwF v0 qxs0 r) := by
  unfold m_slices_siftDownCmpFunc_api_TelemetryMsg__telemetry_Points_List_1 at hm
  refine enter Proofs.Try.func63 rfl rfl rfl ht ?_
  refine C_seq ?_
  refine C_region ?_
  refine W_move rfl rfl rfl ?_
  refine W_assign rfl rfl rfl ?_
  refine W_end ?_
  refine E_then ?_
  refine C_block ?_
  obtain ⟨J353, hm354, hm355, hm⟩ := loopF_nm hm
  refine cl [(0, _), (2, _), (3, _), (4, _)] [] 1 [] 0 (fun u m n H' M' L' => ∃ l265 : List S_api_TelemetryMsg, ∃ n267 : Int, ∃ xs264 : List Value, J353 n (l265, n267) = some r ∧ Rw H' v0 xs264 l265 ∧ H.le H' ∧ .row v0 29 (Rep.sz S_api_TelemetryMsg) l265.length xs264 :: m = M' ∧ (10, .int .i64 (n267)) :: u = L') FUEL rfl ⟨_, _, _, hm, h0, (Hp.le_refl _), rfl, rfl⟩ ?_
  rintro n273 H268 _ _ ⟨l265, n267, xs264, hm, hr266, hle269, rfl, rfl⟩
  cases n273 with
  | zero => exact nomatch (hm355 _).symm.trans hm
  | succ n273 =>
    have hm := (hm354 _ _).symm.trans hm
    generalize hn272 : J353 n273 = nx271 at hm
    try dsimp only at hm
    unfold m_slices_siftDownCmpFunc_api_TelemetryMsg__telemetry_Points_List_1_b3 at hm
    refine C_block ?_
    refine C_seq ?_
    refine C_region ?_
    refine W_move rfl rfl rfl ?_
    refine W_bin rfl rfl rfl rfl rfl ?_
    refine W_bin rfl rfl rfl rfl rfl ?_
    refine W_assign rfl rfl rfl ?_
    refine W_end ?_
    refine E_then ?_
    refine C_seq ?_
    refine C_seq ?_
    refine C_region ?_
    refine W_move rfl rfl rfl ?_
    refine W_move rfl rfl rfl ?_
    refine W_bin rfl rfl rfl rfl rfl ?_
    refine W_end ?_
    refine E_then ?_
    refine cd hm rfl (fun hb279 hm => ?_) (fun hb279 hm => ?_)
    · refine C_exit ?_
      refine E_exit_then ?_
      refine E_exit_miss rfl ?_
      refine E_exit_then ?_
      refine E_exit_hit ?_
      refine E_off ?_
      obtain rfl := Option.some.inj hm
      refine E_weak hle269 ?_
      exact end0 rfl ⟨rfl, xs264, rfl, rfl, (hr266).toF⟩
    · refine C_skip ?_
      refine E_then ?_
      refine cj [(0, _), (2, _), (3, _), (4, _), (10, _)] [] 0 (fun u m H' M' L' => ∃ n294 : Int, m_slices_siftDownCmpFunc_api_TelemetryMsg__telemetry_Points_List_1_b4 first l265 n267 nx271 n294 = some r ∧ H268.le H' ∧ m = M' ∧ (11, .int .i64 (n294)) :: u = L') ?_ (fun J297 => ?_)
      · rintro H295 _ _ ⟨n294, hm, hle296, rfl, rfl⟩
        unfold m_slices_siftDownCmpFunc_api_TelemetryMsg__telemetry_Points_List_1_b4 at hm
        refine C_seq ?_
        refine C_seq ?_
        obtain ⟨y298, h299, he300, hm⟩ := idx_some hm
        obtain ⟨_, rfl, hg301⟩ := (hr266).elem he300
        obtain ⟨y302, h303, he304, hm⟩ := idx_some hm
        obtain ⟨_, rfl, hg305⟩ := (hr266).elem he304
        refine rgp fm 13 [ph _, ph _, ph _, ph _, ph _, ph (.pointer (some ((Value.base (v0)).add ((IntKind.i64.wrap (first + n267) : Int).toNat * Rep.sz S_api_TelemetryMsg)))), ph (.agg [.string (y298.Point), .int .i64 (y298.Number), .int .i64 (y298.Time), .int .i64 (y298.Value)].toArray), ph _, ph _, ph _, ph _, ph (.pointer (some ((Value.base (v0)).add ((IntKind.i64.wrap (first + n294) : Int).toNat * Rep.sz S_api_TelemetryMsg)))), ph (.agg [.string (y302.Point), .int .i64 (y302.Number), .int .i64 (y302.Time), .int .i64 (y302.Value)].toArray)] ⟨om, om, om, om, om, ?_, ?_, om, om, om, om, ?_, ?_, trivial⟩ ?_
        · intro HX hX X Rest hR
          rintro _ _ ⟨rfl, rfl⟩
          rintro _ _ ⟨rfl, rfl⟩
          intro hU hUp
          refine W_indexO (hR _ (List.mem_cons_self ..)) rfl rfl Proofs.Try.runUnderlying27 Proofs.Try.sizeOf29 rfl rfl h299 (List.getElem?_eq_some_iff.1 he300).1 ?_
          exact o0 ⟨rfl, rfl⟩
        · intro HX hX X Rest hR
          rintro _ _ ⟨rfl, rfl⟩
          intro hU hUp
          refine W_loadAgg (cs := [.string (y298.Point), .int .i64 (y298.Number), .int .i64 (y298.Time), .int .i64 (y298.Value)]) rfl rfl Proofs.Try.isAgg29 Proofs.Try.sizeOf29 rfl (row_cells (hR _ (List.mem_cons_self ..)) hg301) rfl ?_
          exact o0 ⟨rfl, rfl⟩
        · intro HX hX X Rest hR
          rintro _ _ ⟨rfl, rfl⟩
          rintro _ _ ⟨rfl, rfl⟩
          intro hU hUp
          refine W_indexO (hR _ (List.mem_cons_self ..)) rfl rfl Proofs.Try.runUnderlying27 Proofs.Try.sizeOf29 rfl rfl h303 (List.getElem?_eq_some_iff.1 he304).1 ?_
          exact o0 ⟨rfl, rfl⟩
        · intro HX hX X Rest hR
          rintro _ _ ⟨rfl, rfl⟩
          intro hU hUp
          refine W_loadAgg (cs := [.string (y302.Point), .int .i64 (y302.Number), .int .i64 (y302.Time), .int .i64 (y302.Value)]) rfl rfl Proofs.Try.isAgg29 Proofs.Try.sizeOf29 rfl (row_cells (hR _ (List.mem_cons_self ..)) hg305) rfl ?_
          exact o0 ⟨rfl, rfl⟩
        intro H306 hle307
        rintro _ _ ⟨rfl, rfl⟩
        rintro _ _ ⟨rfl, rfl⟩
        rintro _ _ ⟨rfl, rfl⟩
        rintro _ _ ⟨rfl, rfl⟩
        rintro _ _ ⟨rfl, rfl⟩
        rintro _ _ ⟨rfl, rfl⟩
        rintro _ _ ⟨rfl, rfl⟩
        rintro _ _ ⟨rfl, rfl⟩
        rintro _ _ ⟨rfl, rfl⟩
        rintro _ _ ⟨rfl, rfl⟩
        rintro _ _ ⟨rfl, rfl⟩
        rintro _ _ ⟨rfl, rfl⟩
        rintro _ _ ⟨rfl, rfl⟩
        refine isW ?_
        refine W_callv Proofs.Try.call20 rfl rfl rfl rfl (fun w ht => by have h := m_telemetry_Points_List_1_c (hm := (rfl : m_telemetry_Points_List_1 y298 y302 = _))  ht; exact h) ?_
        rintro _ _ _ ⟨rfl, rfl, rfl⟩
        refine W_bin rfl rfl rfl rfl rfl ?_
        refine W_un rfl rfl rfl rfl ?_
        refine W_end ?_
        refine E_then ?_
        refine cd hm rfl (fun hb308 hm => ?_) (fun hb308 hm => ?_)
        · refine C_ret ?_
          refine E_ret_then ?_
          refine E_ret_block ?_
          refine E_ret_then ?_
          refine E_ret_block ?_
          obtain rfl := Option.some.inj hm
          refine E_weak (Hp.le_trans (Hp.le_trans hle269 hle296) hle307) ?_
          exact end0 rfl ⟨rfl, xs264, rfl, rfl, (((hr266.mono hle296).mono hle307)).toF⟩
        · refine C_skip ?_
          refine E_then ?_
          refine C_seq ?_
          obtain ⟨y309, h310, he311, hm⟩ := idx_some hm
          obtain ⟨_, rfl, hg312⟩ := (hr266).elem he311
          obtain ⟨y313, h314, he315, hm⟩ := idx_some hm
          obtain ⟨_, rfl, hg316⟩ := (hr266).elem he315
          obtain ⟨y317, h318, he319, hm⟩ := idx_some hm
          obtain ⟨_, rfl, hg320⟩ := (hr266).elem he319
          refine rgx fm 22 [ph _, ph _, ph _, ph _, ph _, ph _, ph _, ph _, ph _, ph _, ph _, ph _, ph (.pointer (some ((Value.base (v0)).add ((IntKind.i64.wrap (first + n294) : Int).toNat * Rep.sz S_api_TelemetryMsg)))), ph (.agg [.string (y309.Point), .int .i64 (y309.Number), .int .i64 (y309.Time), .int .i64 (y309.Value)].toArray), ph _, ph _, ph _, ph _, ph (.pointer (some ((Value.base (v0)).add ((IntKind.i64.wrap (first + n267) : Int).toNat * Rep.sz S_api_TelemetryMsg)))), ph (.agg [.string (y313.Point), .int .i64 (y313.Number), .int .i64 (y313.Time), .int .i64 (y313.Value)].toArray), ph (.pointer (some ((Value.base (v0)).add ((IntKind.i64.wrap (first + n267) : Int).toNat * Rep.sz S_api_TelemetryMsg)))), (fun H rs v => ∃ xs328 : List Value, [.row v0 29 (Rep.sz S_api_TelemetryMsg) (l265.set ((IntKind.i64.wrap (first + n267) : Int).toNat) y309).length xs328] = rs ∧ .pointer (some ((Value.base (v0)).add ((IntKind.i64.wrap (first + n267) : Int).toNat * Rep.sz S_api_TelemetryMsg))) = v ∧ Rw H v0 xs328 (l265.set ((IntKind.i64.wrap (first + n267) : Int).toNat) y309))] (sp 22 [(21, [22])]) (sp 22 [(12, [22]), (13, [22]), (18, [22]), (19, [22]), (20, [22])]) [0] [0, 1, 2, 3, 4, 5, 6, 7, 8, 9, 10, 11, 12, 13, 14, 15, 16, 17, 18, 19, 20, 21] rfl ⟨om, om, om, om, om, om, om, om, om, om, om, om, ?_, ?_, om, om, om, om, ?_, ?_, ?_, ?_, trivial⟩ ?_
          · intro HX hX X Rest hR
            rintro _ _ ⟨rfl, rfl⟩
            rintro _ _ ⟨rfl, rfl⟩
            intro hU hUp
            have hU2 : ∀ s ∈ [.row v0 29 (Rep.sz S_api_TelemetryMsg) l265.length xs264], s ∈ Rest := hU
            refine W_indexO (hU2 _ (List.mem_cons_self ..)) rfl rfl Proofs.Try.runUnderlying27 Proofs.Try.sizeOf29 rfl rfl h310 (List.getElem?_eq_some_iff.1 he311).1 ?_
            exact o0 ⟨rfl, rfl⟩
          · intro HX hX X Rest hR
            rintro _ _ ⟨rfl, rfl⟩
            intro hU hUp
            have hU2 : ∀ s ∈ [.row v0 29 (Rep.sz S_api_TelemetryMsg) l265.length xs264], s ∈ Rest := hU
            refine W_loadAgg (cs := [.string (y309.Point), .int .i64 (y309.Number), .int .i64 (y309.Time), .int .i64 (y309.Value)]) rfl rfl Proofs.Try.isAgg29 Proofs.Try.sizeOf29 rfl (row_cells (hU2 _ (List.mem_cons_self ..)) hg312) rfl ?_
            exact o0 ⟨rfl, rfl⟩
          · intro HX hX X Rest hR
            rintro _ _ ⟨rfl, rfl⟩
            rintro _ _ ⟨rfl, rfl⟩
            intro hU hUp
            have hU2 : ∀ s ∈ [.row v0 29 (Rep.sz S_api_TelemetryMsg) l265.length xs264], s ∈ Rest := hU
            refine W_indexO (hU2 _ (List.mem_cons_self ..)) rfl rfl Proofs.Try.runUnderlying27 Proofs.Try.sizeOf29 rfl rfl h314 (List.getElem?_eq_some_iff.1 he315).1 ?_
            exact o0 ⟨rfl, rfl⟩
          · intro HX hX X Rest hR
            rintro _ _ ⟨rfl, rfl⟩
            intro hU hUp
            have hU2 : ∀ s ∈ [.row v0 29 (Rep.sz S_api_TelemetryMsg) l265.length xs264], s ∈ Rest := hU
            refine W_loadAgg (cs := [.string (y313.Point), .int .i64 (y313.Number), .int .i64 (y313.Time), .int .i64 (y313.Value)]) rfl rfl Proofs.Try.isAgg29 Proofs.Try.sizeOf29 rfl (row_cells (hU2 _ (List.mem_cons_self ..)) hg316) rfl ?_
            exact o0 ⟨rfl, rfl⟩
          · intro HX hX X Rest hR
            rintro _ _ ⟨rfl, rfl⟩
            rintro _ _ ⟨rfl, rfl⟩
            rintro _ _ ⟨rfl, rfl⟩
            rintro _ _ ⟨rfl, rfl⟩
            rintro _ _ ⟨rfl, rfl⟩
            rintro _ _ ⟨rfl, rfl⟩
            rintro _ _ ⟨rfl, rfl⟩
            rintro _ _ ⟨rfl, rfl⟩
            rintro _ _ ⟨rfl, rfl⟩
            rintro _ _ ⟨rfl, rfl⟩
            rintro _ _ ⟨rfl, rfl⟩
            rintro _ _ ⟨rfl, rfl⟩
            rintro _ _ ⟨rfl, rfl⟩
            intro hU hUp
            have hU2 : ∀ s ∈ [.row v0 29 (Rep.sz S_api_TelemetryMsg) l265.length xs264], s ∈ Rest := hU
            refine W_indexO (hU2 _ (List.mem_cons_self ..)) rfl rfl Proofs.Try.runUnderlying27 Proofs.Try.sizeOf29 rfl rfl h318 (List.getElem?_eq_some_iff.1 he319).1 ?_
            exact o0 ⟨rfl, rfl⟩
          · intro HX hX X Rest hR
            rintro _ _ ⟨rfl, rfl⟩
            rintro _ _ ⟨rfl, rfl⟩
            rintro _ _ ⟨rfl, rfl⟩
            rintro _ _ ⟨rfl, rfl⟩
            rintro _ _ ⟨rfl, rfl⟩
            rintro _ _ ⟨rfl, rfl⟩
            rintro _ _ ⟨rfl, rfl⟩
            rintro _ _ ⟨rfl, rfl⟩
            rintro _ _ ⟨rfl, rfl⟩
            rintro _ _ ⟨rfl, rfl⟩
            rintro _ _ ⟨rfl, rfl⟩
            rintro _ _ ⟨rfl, rfl⟩
            rintro _ _ ⟨rfl, rfl⟩
            intro hU hUp
            refine Wp [0] ?_
            obtain ⟨hr325, he326, hg327⟩ := Rw.put (cs := [.string (y309.Point), .int .i64 (y309.Number), .int .i64 (y309.Time), .int .i64 (y309.Value)]) (o := 0) (c := [.string (y317.Point), .int .i64 (y317.Number), .int .i64 (y317.Time), .int .i64 (y317.Value)]) (out := [.string (y309.Point), .int .i64 (y309.Number), .int .i64 (y309.Time), .int .i64 (y309.Value)]) (e2 := y309) (((hr266.mono hle296).mono hle307).mono hX) he319 rfl hg320 rfl rfl rfl
            refine W_storeO2 (i := (IntKind.i64.wrap (first + n267) : Int).toNat * Rep.sz S_api_TelemetryMsg + 0) (cs := [.string (y309.Point), .int .i64 (y309.Number), .int .i64 (y309.Time), .int .i64 (y309.Value)]) rfl Proofs.Try.sizeOf29 rfl (row_ad0 _ _) rfl rfl rfl (Rw.room (((hr266.mono hle296).mono hle307).mono hX) he319 rfl) rfl (all_cons rfl (all_cons rfl (all_cons rfl (all_cons rfl all_nil)))) (n' := (l265.set ((IntKind.i64.wrap (first + n267) : Int).toNat) y309).length) List.length_set ?_
            generalize over xs264 ((IntKind.i64.wrap (first + n267) : Int).toNat * Rep.sz S_api_TelemetryMsg + 0) [.string (y309.Point), .int .i64 (y309.Number), .int .i64 (y309.Time), .int .i64 (y309.Value)] = xs328 at hr325 hg327 ⊢
            exact W_end (OneT_endL rfl [.row v0 29 (Rep.sz S_api_TelemetryMsg) (l265.set ((IntKind.i64.wrap (first + n267) : Int).toNat) y309).length xs328] (Hp.le_refl _) ⟨xs328, rfl, rfl, (hr325)⟩)
          intro H329 hle330
          rintro _ _ ⟨rfl, rfl⟩
          rintro _ _ ⟨rfl, rfl⟩
          rintro _ _ ⟨rfl, rfl⟩
          rintro _ _ ⟨rfl, rfl⟩
          rintro _ _ ⟨rfl, rfl⟩
          rintro _ _ ⟨rfl, rfl⟩
          rintro _ _ ⟨rfl, rfl⟩
          rintro _ _ ⟨rfl, rfl⟩
          rintro _ _ ⟨rfl, rfl⟩
          rintro _ _ ⟨rfl, rfl⟩
          rintro _ _ ⟨rfl, rfl⟩
          rintro _ _ ⟨rfl, rfl⟩
          rintro _ _ ⟨rfl, rfl⟩
          rintro _ _ ⟨rfl, rfl⟩
          rintro _ _ ⟨rfl, rfl⟩
          rintro _ _ ⟨rfl, rfl⟩
          rintro _ _ ⟨rfl, rfl⟩
          rintro _ _ ⟨rfl, rfl⟩
          rintro _ _ ⟨rfl, rfl⟩
          rintro _ _ ⟨rfl, rfl⟩
          rintro _ _ ⟨rfl, rfl⟩
          rintro _ _ _ ⟨xs328, rfl, _, hr325⟩
          refine isW ?_
          refine Wp [0] ?_
          obtain ⟨y331, h332, he333, hm⟩ := idx_some hm
          refine W_indexO (List.mem_cons_self ..) rfl rfl Proofs.Try.runUnderlying27 Proofs.Try.sizeOf29 rfl rfl h332 (List.getElem?_eq_some_iff.1 he333).1 ?_
          obtain ⟨_, rfl, hg334⟩ := (hr325).elem he333
          obtain ⟨hr335, he336, hg337⟩ := Rw.put (cs := [.string (y313.Point), .int .i64 (y313.Number), .int .i64 (y313.Time), .int .i64 (y313.Value)]) (o := 0) (c := [.string (y331.Point), .int .i64 (y331.Number), .int .i64 (y331.Time), .int .i64 (y331.Value)]) (out := [.string (y313.Point), .int .i64 (y313.Number), .int .i64 (y313.Time), .int .i64 (y313.Value)]) (e2 := y313) hr325 he333 rfl hg334 rfl rfl rfl
          refine W_storeO2 (i := (IntKind.i64.wrap (first + n294) : Int).toNat * Rep.sz S_api_TelemetryMsg + 0) (cs := [.string (y313.Point), .int .i64 (y313.Number), .int .i64 (y313.Time), .int .i64 (y313.Value)]) rfl Proofs.Try.sizeOf29 rfl (row_ad0 _ _) rfl rfl rfl (Rw.room hr325 he333 rfl) rfl (all_cons rfl (all_cons rfl (all_cons rfl (all_cons rfl all_nil)))) (n' := ((l265.set ((IntKind.i64.wrap (first + n267) : Int).toNat) y309).set ((IntKind.i64.wrap (first + n294) : Int).toNat) y313).length) List.length_set ?_
          generalize over xs328 ((IntKind.i64.wrap (first + n294) : Int).toNat * Rep.sz S_api_TelemetryMsg + 0) [.string (y313.Point), .int .i64 (y313.Number), .int .i64 (y313.Time), .int .i64 (y313.Value)] = xs338 at hr335 hg337 ⊢
          refine W_end ?_
          refine E_then ?_
          refine C_region ?_
          refine W_move rfl rfl rfl ?_
          refine W_assign rfl rfl rfl ?_
          refine W_end ?_
          refine E_normal_block ?_
          exact kj (E_back (Nat.lt_succ_self _) ⟨_, _, _, ((congrFun hn272 _).trans hm), hr335, (Hp.le_trans (Hp.le_trans (Hp.le_trans hle269 hle296) hle307) hle330), rfl, rfl⟩)
      · refine C_seq ?_
        cases hb339 : (decide ((IntKind.i64.wrap ((IntKind.i64.wrap ((IntKind.i64.wrap (2 * n267)) + 1)) + 1)) < hi))
        · have hm := ite_f' hb339 hm
          refine rgp fm 19 [ph _, ph _, ph _, ph (.bool (false)), ph _, ph _, ph _, ph _, ph _, ph _, ph _, ph _, ph _, ph _, ph _, ph _, ph _, ph _, ph _] ⟨om, om, om, omb hb339, om, om, om, om, om, om, om, om, om, om, om, om, om, om, om, trivial⟩ ?_
          intro H340 hle341
          rintro _ _ ⟨rfl, rfl⟩
          rintro _ _ ⟨rfl, rfl⟩
          rintro _ _ ⟨rfl, rfl⟩
          rintro _ _ ⟨rfl, rfl⟩
          rintro _ _ ⟨rfl, rfl⟩
          rintro _ _ ⟨rfl, rfl⟩
          rintro _ _ ⟨rfl, rfl⟩
          rintro _ _ ⟨rfl, rfl⟩
          rintro _ _ ⟨rfl, rfl⟩
          rintro _ _ ⟨rfl, rfl⟩
          rintro _ _ ⟨rfl, rfl⟩
          rintro _ _ ⟨rfl, rfl⟩
          rintro _ _ ⟨rfl, rfl⟩
          rintro _ _ ⟨rfl, rfl⟩
          rintro _ _ ⟨rfl, rfl⟩
          rintro _ _ ⟨rfl, rfl⟩
          rintro _ _ ⟨rfl, rfl⟩
          rintro _ _ ⟨rfl, rfl⟩
          rintro _ _ ⟨rfl, rfl⟩
          refine isW ?_
          refine W_no rfl rfl rfl ?_
          refine W_no rfl rfl rfl ?_
          refine W_pick rfl rfl rfl rfl ?_
          refine W_end ?_
          refine E_then ?_
          refine cF rfl ?_
          refine C_skip ?_
          exact kj (J297 _ _ _ ⟨_, hm, hle341, rfl, rfl⟩)
        · have hm := ite_t' hb339 hm
          obtain ⟨y342, h343, he344, hm⟩ := idx_some hm
          obtain ⟨_, rfl, hg345⟩ := (hr266).elem he344
          obtain ⟨y346, h347, he348, hm⟩ := idx_some hm
          obtain ⟨_, rfl, hg349⟩ := (hr266).elem he348
          refine rgp fm 19 [ph _, ph _, ph _, ph (.bool (true)), ph _, ph _, ph _, ph _, ph _, ph _, ph (.pointer (some ((Value.base (v0)).add ((IntKind.i64.wrap (first + (IntKind.i64.wrap ((IntKind.i64.wrap (2 * n267)) + 1))) : Int).toNat * Rep.sz S_api_TelemetryMsg)))), ph (.agg [.string (y342.Point), .int .i64 (y342.Number), .int .i64 (y342.Time), .int .i64 (y342.Value)].toArray), ph _, ph _, ph _, ph _, ph _, ph (.pointer (some ((Value.base (v0)).add ((IntKind.i64.wrap ((IntKind.i64.wrap (first + (IntKind.i64.wrap ((IntKind.i64.wrap (2 * n267)) + 1)))) + 1) : Int).toNat * Rep.sz S_api_TelemetryMsg)))), ph (.agg [.string (y346.Point), .int .i64 (y346.Number), .int .i64 (y346.Time), .int .i64 (y346.Value)].toArray)] ⟨om, om, om, omb hb339, om, om, om, om, om, om, ?_, ?_, om, om, om, om, om, ?_, ?_, trivial⟩ ?_
          · intro HX hX X Rest hR
            rintro _ _ ⟨rfl, rfl⟩
            rintro _ _ ⟨rfl, rfl⟩
            rintro _ _ ⟨rfl, rfl⟩
            intro hU hUp
            refine W_indexO (hR _ (List.mem_cons_self ..)) rfl rfl Proofs.Try.runUnderlying27 Proofs.Try.sizeOf29 rfl rfl h343 (List.getElem?_eq_some_iff.1 he344).1 ?_
            exact o0 ⟨rfl, rfl⟩
          · intro HX hX X Rest hR
            rintro _ _ ⟨rfl, rfl⟩
            rintro _ _ ⟨rfl, rfl⟩
            intro hU hUp
            refine W_loadAgg (cs := [.string (y342.Point), .int .i64 (y342.Number), .int .i64 (y342.Time), .int .i64 (y342.Value)]) rfl rfl Proofs.Try.isAgg29 Proofs.Try.sizeOf29 rfl (row_cells (hR _ (List.mem_cons_self ..)) hg345) rfl ?_
            exact o0 ⟨rfl, rfl⟩
          · intro HX hX X Rest hR
            rintro _ _ ⟨rfl, rfl⟩
            rintro _ _ ⟨rfl, rfl⟩
            rintro _ _ ⟨rfl, rfl⟩
            intro hU hUp
            refine W_indexO (hR _ (List.mem_cons_self ..)) rfl rfl Proofs.Try.runUnderlying27 Proofs.Try.sizeOf29 rfl rfl h347 (List.getElem?_eq_some_iff.1 he348).1 ?_
            exact o0 ⟨rfl, rfl⟩
          · intro HX hX X Rest hR
            rintro _ _ ⟨rfl, rfl⟩
            rintro _ _ ⟨rfl, rfl⟩
            intro hU hUp
            refine W_loadAgg (cs := [.string (y346.Point), .int .i64 (y346.Number), .int .i64 (y346.Time), .int .i64 (y346.Value)]) rfl rfl Proofs.Try.isAgg29 Proofs.Try.sizeOf29 rfl (row_cells (hR _ (List.mem_cons_self ..)) hg349) rfl ?_
            exact o0 ⟨rfl, rfl⟩
          intro H350 hle351
          rintro _ _ ⟨rfl, rfl⟩
          rintro _ _ ⟨rfl, rfl⟩
          rintro _ _ ⟨rfl, rfl⟩
          rintro _ _ ⟨rfl, rfl⟩
          rintro _ _ ⟨rfl, rfl⟩
          rintro _ _ ⟨rfl, rfl⟩
          rintro _ _ ⟨rfl, rfl⟩
          rintro _ _ ⟨rfl, rfl⟩
          rintro _ _ ⟨rfl, rfl⟩
          rintro _ _ ⟨rfl, rfl⟩
          rintro _ _ ⟨rfl, rfl⟩
          rintro _ _ ⟨rfl, rfl⟩
          rintro _ _ ⟨rfl, rfl⟩
          rintro _ _ ⟨rfl, rfl⟩
          rintro _ _ ⟨rfl, rfl⟩
          rintro _ _ ⟨rfl, rfl⟩
          rintro _ _ ⟨rfl, rfl⟩
          rintro _ _ ⟨rfl, rfl⟩
          rintro _ _ ⟨rfl, rfl⟩
          refine isW ?_
          refine W_callv Proofs.Try.call20 rfl rfl rfl rfl (fun w ht => by have h := m_telemetry_Points_List_1_c (hm := (rfl : m_telemetry_Points_List_1 y342 y346 = _))  ht; exact h) ?_
          rintro _ _ _ ⟨rfl, rfl, rfl⟩
          refine W_bin rfl rfl rfl rfl rfl ?_
          refine W_pick rfl rfl rfl rfl ?_
          refine W_end ?_
          refine E_then ?_
          refine cd hm rfl (fun hb352 hm => ?_) (fun hb352 hm => ?_)
          · refine C_region ?_
            refine W_move rfl rfl rfl ?_
            refine W_bin rfl rfl rfl rfl rfl ?_
            refine W_assign rfl rfl rfl ?_
            refine W_end ?_
            exact kj (J297 _ _ _ ⟨_, hm, hle351, rfl, rfl⟩)
          · refine C_skip ?_
            exact kj (J297 _ _ _ ⟨_, hm, hle351, rfl, rfl⟩)

theorem m_slices_heapSortCmpFunc_api_TelemetryMsg__telemetry_Points_List_1_c {B : Nat} {w0 : Bs Proofs.Try.prog} {w : World} {H : Hp} {M : List Res} {data : (List S_api_TelemetryMsg)} {p1_a : Int} {p2_b : Int} {v0 : Value} {xs0 : List Value} {r : (List S_api_TelemetryMsg)} (hm : m_slices_heapSortCmpFunc_api_TelemetryMsg__telemetry_Points_List_1 data p1_a p2_b = some r) (h0 : Rw H v0 xs0 data) (ht : St B w0 H (.row v0 29 (Rep.sz S_api_TelemetryMsg) data.length xs0 :: M) w) :
    Calls Proofs.Try.prog 53 [v0, .int .i64 (p1_a), .int .i64 (p2_b), .func (.func 20) [].toArray [].toArray].toArray w (Ret B w0 fun H' M' v => H = H' ∧ ∃ qxs0 : List Value, .row v0 29 (Rep.sz S_api_TelemetryMsg) r.length qxs0 :: M = M' ∧ .tuple #[] = v ∧ RwF v0 qxs0 r) := by
  unfold m_slices_heapSortCmpFunc_api_TelemetryMsg__telemetry_Points_List_1 at hm
  refine enter Proofs.Try.func53 rfl rfl rfl ht ?_
  refine C_seq ?_
  refine C_region ?_
  refine W_move rfl rfl rfl ?_
  refine W_assign rfl rfl rfl ?_
  refine W_end ?_
  refine E_then ?_
  refine C_seq ?_
  refine C_region ?_
  refine W_assign rfl rfl rfl ?_
  refine W_end ?_
  refine E_then ?_
  refine C_seq ?_
  refine C_region ?_
  refine W_move rfl rfl rfl ?_
  refine W_move rfl rfl rfl ?_
  refine W_bin rfl rfl rfl rfl rfl ?_
  refine W_assign rfl rfl rfl ?_
  refine W_end ?_
  refine E_then ?_
  refine C_seq ?_
  refine C_seq ?_
  refine C_region ?_
  refine W_move rfl rfl rfl ?_
  refine W_bin rfl rfl rfl rfl rfl ?_
  refine W_quo rfl rfl rfl rfl (by decide) ?_
  refine W_assign rfl rfl rfl ?_
  refine W_end ?_
  refine E_then ?_
  refine C_block ?_
  obtain ⟨J286, hm287, hm288, hm⟩ := loopF_nm hm
  refine cl [(0, _), (3, _), (8, _), (9, _), (10, _)] [] 1 [] 0 (fun u m n H' M' L' => ∃ l125 : List S_api_TelemetryMsg, ∃ n127 : Int, ∃ xs124 : List Value, J286 n (l125, n127) = some r ∧ Rw H' v0 xs124 l125 ∧ H.le H' ∧ .row v0 29 (Rep.sz S_api_TelemetryMsg) l125.length xs124 :: m = M' ∧ (11, .int .i64 (n127)) :: u = L') FUEL rfl ⟨_, _, _, hm, h0, (Hp.le_refl _), rfl, rfl⟩ ?_
  rintro n133 H128 _ _ ⟨l125, n127, xs124, hm, hr126, hle129, rfl, rfl⟩
  cases n133 with
  | zero => exact nomatch (hm288 _).symm.trans hm
  | succ n133 =>
    have hm := (hm287 _ _).symm.trans hm
    generalize hn132 : J286 n133 = nx131 at hm
    try dsimp only at hm
    unfold m_slices_heapSortCmpFunc_api_TelemetryMsg__telemetry_Points_List_1_b1 at hm
    refine C_seq ?_
    refine C_seq ?_
    refine C_region ?_
    refine W_move rfl rfl rfl ?_
    refine W_bin rfl rfl rfl rfl rfl ?_
    refine W_end ?_
    refine E_then ?_
    refine cd hm rfl (fun hb139 hm => ?_) (fun hb139 hm => ?_)
    · refine C_skip ?_
      refine E_then ?_
      refine C_seq ?_
      refine C_block ?_
      refine C_region ?_
      refine W_move rfl rfl rfl ?_
      refine W_move rfl rfl rfl ?_
      refine W_move rfl rfl rfl ?_
      refine W_move rfl rfl rfl ?_
      refine W_move rfl rfl rfl ?_
      obtain ⟨r140, hc141, hm⟩ := bind_some hm
      refine W_call Proofs.Try.call63 rfl rfl rfl (fun w ht => by have h := m_slices_siftDownCmpFunc_api_TelemetryMsg__telemetry_Points_List_1_c (hm := hc141) hr126 ht; exact h) ?_
      rintro _ _ _ ⟨rfl, xs143, rfl, rfl, h144⟩
      have h144 := h144 H128
      refine W_end ?_
      refine E_normal_block ?_
      refine E_then ?_
      refine C_region ?_
      refine W_move rfl rfl rfl ?_
      refine W_bin rfl rfl rfl rfl rfl ?_
      refine W_assign rfl rfl rfl ?_
      refine W_end ?_
      exact kj (E_back (Nat.lt_succ_self _) ⟨_, _, _, ((congrFun hn132 _).trans hm), h144, hle129, rfl, rfl⟩)
    · refine C_exit ?_
      refine E_exit_then ?_
      refine E_exit_then ?_
      refine E_exit_hit ?_
      refine E_then ?_
      refine C_seq ?_
      refine C_region ?_
      refine W_move rfl rfl rfl ?_
      refine W_bin rfl rfl rfl rfl rfl ?_
      refine W_assign rfl rfl rfl ?_
      refine W_end ?_
      refine E_then ?_
      refine C_block ?_
      obtain ⟨J283, hm284, hm285, hm⟩ := loopF_nm hm
      refine cl [(0, _), (3, _), (8, _), (9, _)] [] 1 [] 0 (fun u m n H' M' L' => ∃ l233 : List S_api_TelemetryMsg, ∃ n235 : Int, ∃ xs232 : List Value, J283 n (l233, n235) = some r ∧ Rw H' v0 xs232 l233 ∧ H128.le H' ∧ .row v0 29 (Rep.sz S_api_TelemetryMsg) l233.length xs232 :: m = M' ∧ (12, .int .i64 (n235)) :: u = L') FUEL rfl ⟨_, _, _, hm, hr126, (Hp.le_refl _), rfl, rfl⟩ ?_
      rintro n241 H236 _ _ ⟨l233, n235, xs232, hm, hr234, hle237, rfl, rfl⟩
      cases n241 with
      | zero => exact nomatch (hm285 _).symm.trans hm
      | succ n241 =>
        have hm := (hm284 _ _).symm.trans hm
        generalize hn240 : J283 n241 = nx239 at hm
        try dsimp only at hm
        unfold m_slices_heapSortCmpFunc_api_TelemetryMsg__telemetry_Points_List_1_b2 at hm
        refine C_seq ?_
        refine C_seq ?_
        refine C_region ?_
        refine W_move rfl rfl rfl ?_
        refine W_bin rfl rfl rfl rfl rfl ?_
        refine W_end ?_
        refine E_then ?_
        refine cd hm rfl (fun hb247 hm => ?_) (fun hb247 hm => ?_)
        · refine C_skip ?_
          refine E_then ?_
          refine C_seq ?_
          refine C_block ?_
          refine C_seq ?_
          obtain ⟨y248, h249, he250, hm⟩ := idx_some hm
          obtain ⟨_, rfl, hg251⟩ := (hr234).elem he250
          obtain ⟨y252, h253, he254, hm⟩ := idx_some hm
          obtain ⟨_, rfl, hg255⟩ := (hr234).elem he254
          obtain ⟨y256, h257, he258, hm⟩ := idx_some hm
          obtain ⟨_, rfl, hg259⟩ := (hr234).elem he258
          refine rgx fm 18 [ph _, ph _, ph _, ph _, ph _, ph _, ph _, ph _, ph _, ph _, ph (.pointer (some ((Value.base (v0)).add ((IntKind.i64.wrap (p1_a + n235) : Int).toNat * Rep.sz S_api_TelemetryMsg)))), ph (.agg [.string (y248.Point), .int .i64 (y248.Number), .int .i64 (y248.Time), .int .i64 (y248.Value)].toArray), ph _, ph _, ph (.pointer (some ((Value.base (v0)).add ((p1_a : Int).toNat * Rep.sz S_api_TelemetryMsg)))), ph (.agg [.string (y252.Point), .int .i64 (y252.Number), .int .i64 (y252.Time), .int .i64 (y252.Value)].toArray), ph (.pointer (some ((Value.base (v0)).add ((p1_a : Int).toNat * Rep.sz S_api_TelemetryMsg)))), (fun H rs v => ∃ xs267 : List Value, [.row v0 29 (Rep.sz S_api_TelemetryMsg) (l233.set ((p1_a : Int).toNat) y248).length xs267] = rs ∧ .pointer (some ((Value.base (v0)).add ((p1_a : Int).toNat * Rep.sz S_api_TelemetryMsg))) = v ∧ Rw H v0 xs267 (l233.set ((p1_a : Int).toNat) y248))] (sp 18 [(17, [18])]) (sp 18 [(10, [18]), (11, [18]), (14, [18]), (15, [18]), (16, [18])]) [0] [0, 1, 2, 3, 4, 5, 6, 7, 8, 9, 10, 11, 12, 13, 14, 15, 16, 17] rfl ⟨om, om, om, om, om, om, om, om, om, om, ?_, ?_, om, om, ?_, ?_, ?_, ?_, trivial⟩ ?_
          · intro HX hX X Rest hR
            rintro _ _ ⟨rfl, rfl⟩
            rintro _ _ ⟨rfl, rfl⟩
            intro hU hUp
            have hU2 : ∀ s ∈ [.row v0 29 (Rep.sz S_api_TelemetryMsg) l233.length xs232], s ∈ Rest := hU
            refine W_indexO (hU2 _ (List.mem_cons_self ..)) rfl rfl Proofs.Try.runUnderlying27 Proofs.Try.sizeOf29 rfl rfl h249 (List.getElem?_eq_some_iff.1 he250).1 ?_
            exact o0 ⟨rfl, rfl⟩
          · intro HX hX X Rest hR
            rintro _ _ ⟨rfl, rfl⟩
            intro hU hUp
            have hU2 : ∀ s ∈ [.row v0 29 (Rep.sz S_api_TelemetryMsg) l233.length xs232], s ∈ Rest := hU
            refine W_loadAgg (cs := [.string (y248.Point), .int .i64 (y248.Number), .int .i64 (y248.Time), .int .i64 (y248.Value)]) rfl rfl Proofs.Try.isAgg29 Proofs.Try.sizeOf29 rfl (row_cells (hU2 _ (List.mem_cons_self ..)) hg251) rfl ?_
            exact o0 ⟨rfl, rfl⟩
          · intro HX hX X Rest hR
            rintro _ _ ⟨rfl, rfl⟩
            rintro _ _ ⟨rfl, rfl⟩
            intro hU hUp
            have hU2 : ∀ s ∈ [.row v0 29 (Rep.sz S_api_TelemetryMsg) l233.length xs232], s ∈ Rest := hU
            refine W_indexO (hU2 _ (List.mem_cons_self ..)) rfl rfl Proofs.Try.runUnderlying27 Proofs.Try.sizeOf29 rfl rfl h253 (List.getElem?_eq_some_iff.1 he254).1 ?_
            exact o0 ⟨rfl, rfl⟩
          · intro HX hX X Rest hR
            rintro _ _ ⟨rfl, rfl⟩
            intro hU hUp
            have hU2 : ∀ s ∈ [.row v0 29 (Rep.sz S_api_TelemetryMsg) l233.length xs232], s ∈ Rest := hU
            refine W_loadAgg (cs := [.string (y252.Point), .int .i64 (y252.Number), .int .i64 (y252.Time), .int .i64 (y252.Value)]) rfl rfl Proofs.Try.isAgg29 Proofs.Try.sizeOf29 rfl (row_cells (hU2 _ (List.mem_cons_self ..)) hg255) rfl ?_
            exact o0 ⟨rfl, rfl⟩
          · intro HX hX X Rest hR
            rintro _ _ ⟨rfl, rfl⟩
            rintro _ _ ⟨rfl, rfl⟩
            rintro _ _ ⟨rfl, rfl⟩
            rintro _ _ ⟨rfl, rfl⟩
            rintro _ _ ⟨rfl, rfl⟩
            rintro _ _ ⟨rfl, rfl⟩
            rintro _ _ ⟨rfl, rfl⟩
            rintro _ _ ⟨rfl, rfl⟩
            rintro _ _ ⟨rfl, rfl⟩
            rintro _ _ ⟨rfl, rfl⟩
            rintro _ _ ⟨rfl, rfl⟩
            intro hU hUp
            have hU2 : ∀ s ∈ [.row v0 29 (Rep.sz S_api_TelemetryMsg) l233.length xs232], s ∈ Rest := hU
            refine W_indexO (hU2 _ (List.mem_cons_self ..)) rfl rfl Proofs.Try.runUnderlying27 Proofs.Try.sizeOf29 rfl rfl h257 (List.getElem?_eq_some_iff.1 he258).1 ?_
            exact o0 ⟨rfl, rfl⟩
          · intro HX hX X Rest hR
            rintro _ _ ⟨rfl, rfl⟩
            rintro _ _ ⟨rfl, rfl⟩
            rintro _ _ ⟨rfl, rfl⟩
            rintro _ _ ⟨rfl, rfl⟩
            rintro _ _ ⟨rfl, rfl⟩
            rintro _ _ ⟨rfl, rfl⟩
            rintro _ _ ⟨rfl, rfl⟩
            rintro _ _ ⟨rfl, rfl⟩
            rintro _ _ ⟨rfl, rfl⟩
            rintro _ _ ⟨rfl, rfl⟩
            rintro _ _ ⟨rfl, rfl⟩
            intro hU hUp
            refine Wp [0] ?_
            obtain ⟨hr264, he265, hg266⟩ := Rw.put (cs := [.string (y248.Point), .int .i64 (y248.Number), .int .i64 (y248.Time), .int .i64 (y248.Value)]) (o := 0) (c := [.string (y256.Point), .int .i64 (y256.Number), .int .i64 (y256.Time), .int .i64 (y256.Value)]) (out := [.string (y248.Point), .int .i64 (y248.Number), .int .i64 (y248.Time), .int .i64 (y248.Value)]) (e2 := y248) (hr234.mono hX) he258 rfl hg259 rfl rfl rfl
            refine W_storeO2 (i := (p1_a : Int).toNat * Rep.sz S_api_TelemetryMsg + 0) (cs := [.string (y248.Point), .int .i64 (y248.Number), .int .i64 (y248.Time), .int .i64 (y248.Value)]) rfl Proofs.Try.sizeOf29 rfl (row_ad0 _ _) rfl rfl rfl (Rw.room (hr234.mono hX) he258 rfl) rfl (all_cons rfl (all_cons rfl (all_cons rfl (all_cons rfl all_nil)))) (n' := (l233.set ((p1_a : Int).toNat) y248).length) List.length_set ?_
            generalize over xs232 ((p1_a : Int).toNat * Rep.sz S_api_TelemetryMsg + 0) [.string (y248.Point), .int .i64 (y248.Number), .int .i64 (y248.Time), .int .i64 (y248.Value)] = xs267 at hr264 hg266 ⊢
            exact W_end (OneT_endL rfl [.row v0 29 (Rep.sz S_api_TelemetryMsg) (l233.set ((p1_a : Int).toNat) y248).length xs267] (Hp.le_refl _) ⟨xs267, rfl, rfl, (hr264)⟩)
          intro H268 hle269
          rintro _ _ ⟨rfl, rfl⟩
          rintro _ _ ⟨rfl, rfl⟩
          rintro _ _ ⟨rfl, rfl⟩
          rintro _ _ ⟨rfl, rfl⟩
          rintro _ _ ⟨rfl, rfl⟩
          rintro _ _ ⟨rfl, rfl⟩
          rintro _ _ ⟨rfl, rfl⟩
          rintro _ _ ⟨rfl, rfl⟩
          rintro _ _ ⟨rfl, rfl⟩
          rintro _ _ ⟨rfl, rfl⟩
          rintro _ _ ⟨rfl, rfl⟩
          rintro _ _ ⟨rfl, rfl⟩
          rintro _ _ ⟨rfl, rfl⟩
          rintro _ _ ⟨rfl, rfl⟩
          rintro _ _ ⟨rfl, rfl⟩
          rintro _ _ ⟨rfl, rfl⟩
          rintro _ _ ⟨rfl, rfl⟩
          rintro _ _ _ ⟨xs267, rfl, _, hr264⟩
          refine isW ?_
          refine Wp [0] ?_
          obtain ⟨y270, h271, he272, hm⟩ := idx_some hm
          refine W_indexO (List.mem_cons_self ..) rfl rfl Proofs.Try.runUnderlying27 Proofs.Try.sizeOf29 rfl rfl h271 (List.getElem?_eq_some_iff.1 he272).1 ?_
          obtain ⟨_, rfl, hg273⟩ := (hr264).elem he272
          obtain ⟨hr274, he275, hg276⟩ := Rw.put (cs := [.string (y252.Point), .int .i64 (y252.Number), .int .i64 (y252.Time), .int .i64 (y252.Value)]) (o := 0) (c := [.string (y270.Point), .int .i64 (y270.Number), .int .i64 (y270.Time), .int .i64 (y270.Value)]) (out := [.string (y252.Point), .int .i64 (y252.Number), .int .i64 (y252.Time), .int .i64 (y252.Value)]) (e2 := y252) hr264 he272 rfl hg273 rfl rfl rfl
          refine W_storeO2 (i := (IntKind.i64.wrap (p1_a + n235) : Int).toNat * Rep.sz S_api_TelemetryMsg + 0) (cs := [.string (y252.Point), .int .i64 (y252.Number), .int .i64 (y252.Time), .int .i64 (y252.Value)]) rfl Proofs.Try.sizeOf29 rfl (row_ad0 _ _) rfl rfl rfl (Rw.room hr264 he272 rfl) rfl (all_cons rfl (all_cons rfl (all_cons rfl (all_cons rfl all_nil)))) (n' := ((l233.set ((p1_a : Int).toNat) y248).set ((IntKind.i64.wrap (p1_a + n235) : Int).toNat) y252).length) List.length_set ?_
          generalize over xs267 ((IntKind.i64.wrap (p1_a + n235) : Int).toNat * Rep.sz S_api_TelemetryMsg + 0) [.string (y252.Point), .int .i64 (y252.Number), .int .i64 (y252.Time), .int .i64 (y252.Value)] = xs277 at hr274 hg276 ⊢
          refine W_end ?_
          refine E_then ?_
          refine C_region ?_
          refine W_move rfl rfl rfl ?_
          refine W_move rfl rfl rfl ?_
          refine W_move rfl rfl rfl ?_
          refine W_move rfl rfl rfl ?_
          refine W_move rfl rfl rfl ?_
          obtain ⟨r278, hc279, hm⟩ := bind_some hm
          refine W_call Proofs.Try.call63 rfl rfl rfl (fun w ht => by have h := m_slices_siftDownCmpFunc_api_TelemetryMsg__telemetry_Points_List_1_c (hm := hc279) hr274 ht; exact h) ?_
          rintro _ _ _ ⟨rfl, xs281, rfl, rfl, h282⟩
          have h282 := h282 H268
          refine W_end ?_
          refine E_normal_block ?_
          refine E_then ?_
          refine C_region ?_
          refine W_move rfl rfl rfl ?_
          refine W_bin rfl rfl rfl rfl rfl ?_
          refine W_assign rfl rfl rfl ?_
          refine W_end ?_
          exact kj (E_back (Nat.lt_succ_self _) ⟨_, _, _, ((congrFun hn240 _).trans hm), h282, (Hp.le_trans hle237 hle269), rfl, rfl⟩)
        · refine C_exit ?_
          refine E_exit_then ?_
          refine E_exit_then ?_
          refine E_exit_hit ?_
          refine E_off ?_
          obtain rfl := Option.some.inj hm
          refine E_weak (Hp.le_trans hle129 hle237) ?_
          exact end0 rfl ⟨rfl, xs232, rfl, rfl, (hr234).toF⟩

theorem m_slices_order2CmpFunc_api_TelemetryMsg__telemetry_Points_List_1_c {B : Nat} {w0 : Bs Proofs.Try.prog} {w : World} {H : Hp} {M : List Res} {data : (List S_api_TelemetryMsg)} {p1_a : Int} {p2_b : Int} {swaps : Int} {v0 : Value} {xs0 : List Value} {b0 : Nat} {r : Int × Int × Int} (hm : m_slices_order2CmpFunc_api_TelemetryMsg__telemetry_Points_List_1 data p1_a p2_b swaps = some r) (h0 : Rw H v0 xs0 data) (ht : St B w0 H (.row v0 29 (Rep.sz S_api_TelemetryMsg) data.length xs0 :: .obj b0 (.cells ([.int .i64 (swaps)] : List Value).toArray 3 (0, 0)) :: M) w) :
    Calls Proofs.Try.prog 68 [v0, .int .i64 (p1_a), .int .i64 (p2_b), .pointer (some ⟨b0, 0, none⟩), .func (.func 20) [].toArray [].toArray].toArray w (Ret B w0 fun H' M' v => H = H' ∧ .row v0 29 (Rep.sz S_api_TelemetryMsg) data.length xs0 :: .obj b0 (.cells ([.int .i64 (r.2.2)] : List Value).toArray 3 (0, 0)) :: M = M' ∧ .tuple #[.int .i64 (r.1), .int .i64 (r.2.1)] = v) := by
  unfold m_slices_order2CmpFunc_api_TelemetryMsg__telemetry_Points_List_1 at hm
  refine enter Proofs.Try.func68 rfl rfl rfl ht ?_
  refine C_seq ?_
  refine C_region ?_
  refine W_assign rfl rfl rfl ?_
  refine W_assign rfl rfl rfl ?_
  refine W_end ?_
  refine E_then ?_
  refine C_seq ?_
  refine C_seq ?_
  obtain ⟨y101, h102, he103, hm⟩ := idx_some hm
  obtain ⟨_, rfl, hg104⟩ := (h0).elem he103
  obtain ⟨y105, h106, he107, hm⟩ := idx_some hm
  obtain ⟨_, rfl, hg108⟩ := (h0).elem he107
  refine rgp fm 9 [ph _, ph _, ph _, ph (.pointer (some ((Value.base (v0)).add ((p2_b : Int).toNat * Rep.sz S_api_TelemetryMsg)))), ph (.agg [.string (y101.Point), .int .i64 (y101.Number), .int .i64 (y101.Time), .int .i64 (y101.Value)].toArray), ph _, ph _, ph (.pointer (some ((Value.base (v0)).add ((p1_a : Int).toNat * Rep.sz S_api_TelemetryMsg)))), ph (.agg [.string (y105.Point), .int .i64 (y105.Number), .int .i64 (y105.Time), .int .i64 (y105.Value)].toArray)] ⟨om, om, om, ?_, ?_, om, om, ?_, ?_, trivial⟩ ?_
  · intro HX hX X Rest hR
    rintro _ _ ⟨rfl, rfl⟩
    rintro _ _ ⟨rfl, rfl⟩
    intro hU hUp
    refine W_indexO (hR _ (List.mem_cons_self ..)) rfl rfl Proofs.Try.runUnderlying27 Proofs.Try.sizeOf29 rfl rfl h102 (List.getElem?_eq_some_iff.1 he103).1 ?_
    exact o0 ⟨rfl, rfl⟩
  · intro HX hX X Rest hR
    rintro _ _ ⟨rfl, rfl⟩
    intro hU hUp
    refine W_loadAgg (cs := [.string (y101.Point), .int .i64 (y101.Number), .int .i64 (y101.Time), .int .i64 (y101.Value)]) rfl rfl Proofs.Try.isAgg29 Proofs.Try.sizeOf29 rfl (row_cells (hR _ (List.mem_cons_self ..)) hg104) rfl ?_
    exact o0 ⟨rfl, rfl⟩
  · intro HX hX X Rest hR
    rintro _ _ ⟨rfl, rfl⟩
    rintro _ _ ⟨rfl, rfl⟩
    intro hU hUp
    refine W_indexO (hR _ (List.mem_cons_self ..)) rfl rfl Proofs.Try.runUnderlying27 Proofs.Try.sizeOf29 rfl rfl h106 (List.getElem?_eq_some_iff.1 he107).1 ?_
    exact o0 ⟨rfl, rfl⟩
  · intro HX hX X Rest hR
    rintro _ _ ⟨rfl, rfl⟩
    intro hU hUp
    refine W_loadAgg (cs := [.string (y105.Point), .int .i64 (y105.Number), .int .i64 (y105.Time), .int .i64 (y105.Value)]) rfl rfl Proofs.Try.isAgg29 Proofs.Try.sizeOf29 rfl (row_cells (hR _ (List.mem_cons_self ..)) hg108) rfl ?_
    exact o0 ⟨rfl, rfl⟩
  intro H109 hle110
  rintro _ _ ⟨rfl, rfl⟩
  rintro _ _ ⟨rfl, rfl⟩
  rintro _ _ ⟨rfl, rfl⟩
  rintro _ _ ⟨rfl, rfl⟩
  rintro _ _ ⟨rfl, rfl⟩
  rintro _ _ ⟨rfl, rfl⟩
  rintro _ _ ⟨rfl, rfl⟩
  rintro _ _ ⟨rfl, rfl⟩
  rintro _ _ ⟨rfl, rfl⟩
  refine isW ?_
  refine W_callv Proofs.Try.call20 rfl rfl rfl rfl (fun w ht => by have h := m_telemetry_Points_List_1_c (hm := (rfl : m_telemetry_Points_List_1 y101 y105 = _))  ht; exact h) ?_
  rintro _ _ _ ⟨rfl, rfl, rfl⟩
  refine W_bin rfl rfl rfl rfl rfl ?_
  refine W_end ?_
  refine E_then ?_
  refine cd hm rfl (fun hb111 hm => ?_) (fun hb111 hm => ?_)
  · refine C_seq ?_
    refine C_region ?_
    refine W_move rfl rfl rfl ?_
    refine W_nilCheck rfl rfl rfl ?_
    refine W_load rfl rfl Proofs.Try.isAgg3 rfl (own_at (List.mem_cons_of_mem _ (List.mem_cons_self ..)) rfl) ?_
    refine W_bin rfl rfl rfl rfl rfl ?_
    refine W_nilCheck rfl rfl rfl ?_
    refine Wp [1] ?_
    refine W_store (cs := [.int .i64 (IntKind.i64.wrap (swaps + 1))]) (out := [.int .i64 (IntKind.i64.wrap (swaps + 1))]) rfl Proofs.Try.sizeOf3 rfl rfl rfl rfl rfl (all_cons rfl all_nil) (over_all rfl) ?_
    refine W_end ?_
    refine E_then ?_
    refine C_seq ?_
    refine C_region ?_
    refine W_move rfl rfl rfl ?_
    refine W_move rfl rfl rfl ?_
    refine W_assign rfl rfl rfl ?_
    refine W_assign rfl rfl rfl ?_
    refine W_end ?_
    refine E_then ?_
    refine C_ret ?_
    refine E_ret_then ?_
    obtain rfl := Option.some.inj hm
    refine Ek [1] 0 ?_
    refine E_weak hle110 ?_
    exact end2 rfl rfl rfl ⟨rfl, rfl, rfl⟩
  · refine C_skip ?_
    refine E_then ?_
    refine C_seq ?_
    refine C_region ?_
    refine W_move rfl rfl rfl ?_
    refine W_move rfl rfl rfl ?_
    refine W_assign rfl rfl rfl ?_
    refine W_assign rfl rfl rfl ?_
    refine W_end ?_
    refine E_then ?_
    refine C_ret ?_
    obtain rfl := Option.some.inj hm
    refine E_weak hle110 ?_
    exact end2 rfl rfl rfl ⟨rfl, rfl, rfl⟩

theorem m_slices_medianCmpFunc_api_TelemetryMsg__telemetry_Points_List_1_c {B : Nat} {w0 : Bs Proofs.Try.prog} {w : World} {H : Hp} {M : List Res} {data : (List S_api_TelemetryMsg)} {p1_a : Int} {p2_b : Int} {p3_c : Int} {swaps : Int} {v0 : Value} {xs0 : List Value} {b0 : Nat} {r : Int × Int} (hm : m_slices_medianCmpFunc_api_TelemetryMsg__telemetry_Points_List_1 data p1_a p2_b p3_c swaps = some r) (h0 : Rw H v0 xs0 data) (ht : St B w0 H (.row v0 29 (Rep.sz S_api_TelemetryMsg) data.length xs0 :: .obj b0 (.cells ([.int .i64 (swaps)] : List Value).toArray 3 (0, 0)) :: M) w) :
    Calls Proofs.Try.prog 67 [v0, .int .i64 (p1_a), .int .i64 (p2_b), .int .i64 (p3_c), .pointer (some ⟨b0, 0, none⟩), .func (.func 20) [].toArray [].toArray].toArray w (Ret B w0 fun H' M' v => H = H' ∧ .row v0 29 (Rep.sz S_api_TelemetryMsg) data.length xs0 :: .obj b0 (.cells ([.int .i64 (r.2)] : List Value).toArray 3 (0, 0)) :: M = M' ∧ .int .i64 (r.1) = v) := by
  unfold m_slices_medianCmpFunc_api_TelemetryMsg__telemetry_Points_List_1 at hm
  refine enter Proofs.Try.func67 rfl rfl rfl ht ?_
  refine C_seq ?_
  refine C_region ?_
  refine W_assign rfl rfl rfl ?_
  refine W_end ?_
  refine E_then ?_
  refine C_seq ?_
  refine C_region ?_
  refine W_move rfl rfl rfl ?_
  refine W_move rfl rfl rfl ?_
  refine W_move rfl rfl rfl ?_
  refine W_move rfl rfl rfl ?_
  refine W_move rfl rfl rfl ?_
  obtain ⟨r101, hc102, hm⟩ := bind_some hm
  refine W_call Proofs.Try.call68 rfl rfl rfl (fun w ht => by have h := m_slices_order2CmpFunc_api_TelemetryMsg__telemetry_Points_List_1_c (hm := hc102) h0 ht; exact h) ?_
  rintro _ _ _ ⟨rfl, rfl, rfl⟩
  refine W_move rfl rfl rfl ?_
  refine W_extract rfl rfl rfl rfl ?_
  refine W_extract rfl rfl rfl rfl ?_
  refine W_assign rfl rfl rfl ?_
  refine W_assign rfl rfl rfl ?_
  refine W_end ?_
  refine E_then ?_
  refine C_seq ?_
  refine C_region ?_
  refine W_move rfl rfl rfl ?_
  refine W_move rfl rfl rfl ?_
  refine W_move rfl rfl rfl ?_
  refine W_move rfl rfl rfl ?_
  refine W_move rfl rfl rfl ?_
  obtain ⟨r104, hc105, hm⟩ := bind_some hm
  refine W_call Proofs.Try.call68 rfl rfl rfl (fun w ht => by have h := m_slices_order2CmpFunc_api_TelemetryMsg__telemetry_Points_List_1_c (hm := hc105) h0 ht; exact h) ?_
  rintro _ _ _ ⟨rfl, rfl, rfl⟩
  refine W_move rfl rfl rfl ?_
  refine W_extract rfl rfl rfl rfl ?_
  refine W_extract rfl rfl rfl rfl ?_
  refine W_assign rfl rfl rfl ?_
  refine W_assign rfl rfl rfl ?_
  refine W_end ?_
  refine E_then ?_
  refine C_seq ?_
  refine C_region ?_
  refine W_move rfl rfl rfl ?_
  refine W_move rfl rfl rfl ?_
  refine W_move rfl rfl rfl ?_
  refine W_move rfl rfl rfl ?_
  refine W_move rfl rfl rfl ?_
  obtain ⟨r107, hc108, hm⟩ := bind_some hm
  refine W_call Proofs.Try.call68 rfl rfl rfl (fun w ht => by have h := m_slices_order2CmpFunc_api_TelemetryMsg__telemetry_Points_List_1_c (hm := hc108) h0 ht; exact h) ?_
  rintro _ _ _ ⟨rfl, rfl, rfl⟩
  refine W_move rfl rfl rfl ?_
  refine W_extract rfl rfl rfl rfl ?_
  refine W_extract rfl rfl rfl rfl ?_
  refine W_assign rfl rfl rfl ?_
  refine W_assign rfl rfl rfl ?_
  refine W_end ?_
  refine E_then ?_
  refine C_seq ?_
  refine C_region ?_
  refine W_move rfl rfl rfl ?_
  refine W_assign rfl rfl rfl ?_
  refine W_end ?_
  refine E_then ?_
  refine C_ret ?_
  obtain rfl := Option.some.inj hm
  refine E_weak (Hp.le_refl _) ?_
  exact end1 rfl rfl ⟨rfl, rfl, rfl⟩

theorem m_slices_medianAdjacentCmpFunc_api_TelemetryMsg__telemetry_Points_List_1_c {B : Nat} {w0 : Bs Proofs.Try.prog} {w : World} {H : Hp} {M : List Res} {data : (List S_api_TelemetryMsg)} {p1_a : Int} {swaps : Int} {v0 : Value} {xs0 : List Value} {b0 : Nat} {r : Int × Int} (hm : m_slices_medianAdjacentCmpFunc_api_TelemetryMsg__telemetry_Points_List_1 data p1_a swaps = some r) (h0 : Rw H v0 xs0 data) (ht : St B w0 H (.row v0 29 (Rep.sz S_api_TelemetryMsg) data.length xs0 :: .obj b0 (.cells ([.int .i64 (swaps)] : List Value).toArray 3 (0, 0)) :: M) w) :
    Calls Proofs.Try.prog 66 [v0, .int .i64 (p1_a), .pointer (some ⟨b0, 0, none⟩), .func (.func 20) [].toArray [].toArray].toArray w (Ret B w0 fun H' M' v => H = H' ∧ .row v0 29 (Rep.sz S_api_TelemetryMsg) data.length xs0 :: .obj b0 (.cells ([.int .i64 (r.2)] : List Value).toArray 3 (0, 0)) :: M = M' ∧ .int .i64 (r.1) = v) := by
  unfold m_slices_medianAdjacentCmpFunc_api_TelemetryMsg__telemetry_Points_List_1 at hm
  refine enter Proofs.Try.func66 rfl rfl rfl ht ?_
  refine C_seq ?_
  refine C_region ?_
  refine W_assign rfl rfl rfl ?_
  refine W_end ?_
  refine E_then ?_
  refine C_seq ?_
  refine C_region ?_
  refine W_move rfl rfl rfl ?_
  refine W_move rfl rfl rfl ?_
  refine W_bin rfl rfl rfl rfl rfl ?_
  refine W_move rfl rfl rfl ?_
  refine W_move rfl rfl rfl ?_
  refine W_bin rfl rfl rfl rfl rfl ?_
  refine W_move rfl rfl rfl ?_
  refine W_move rfl rfl rfl ?_
  obtain ⟨r101, hc102, hm⟩ := bind_some hm
  refine W_call Proofs.Try.call67 rfl rfl rfl (fun w ht => by have h := m_slices_medianCmpFunc_api_TelemetryMsg__telemetry_Points_List_1_c (hm := hc102) h0 ht; exact h) ?_
  rintro _ _ _ ⟨rfl, rfl, rfl⟩
  refine W_assign rfl rfl rfl ?_
  refine W_end ?_
  refine E_then ?_
  refine C_ret ?_
  obtain rfl := Option.some.inj hm
  refine E_weak (Hp.le_refl _) ?_
  exact end1 rfl rfl ⟨rfl, rfl, rfl⟩
end Go.Sim
