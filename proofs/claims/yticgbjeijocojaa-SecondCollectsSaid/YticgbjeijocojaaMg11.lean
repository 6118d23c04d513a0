/-
  Printed by a program: each Go function computes its model, in company.
-/
import Derived.Test.YticgbjeijocojaaMg10
set_option linter.unusedVariables false
set_option linter.unusedSimpArgs false
namespace Go.Sim
open Go Go.Proofs.Try
set_option linter.unusedVariables false
set_option linter.unusedSimpArgs false
set_option maxRecDepth 100000
set_option maxHeartbeats 4000000
theorem m_slices_choosePivotCmpFunc_api_TelemetryMsg__telemetry_Points_List_1_c {B : Nat} {w0 : Bs Proofs.Try.prog} {w : World} {H : Hp} {M : List Res} {data : (List S_api_TelemetryMsg)} {p1_a : Int} {p2_b : Int} {v0 : Value} {xs0 : List Value} {r : Int × Int} (hm : m_slices_choosePivotCmpFunc_api_TelemetryMsg__telemetry_Points_List_1 data p1_a p2_b = some r) (h0 : Rw H v0 xs0 data) (ht : St B w0 H (.row v0 29 (Rep.sz S_api_TelemetryMsg) data.length xs0 :: M) w) :
    Calls Proofs.Try.prog 55 [v0, .int .i64 (p1_a), .int .i64 (p2_b), .func (.func 20) [].toArray [].toArray].toArray w (Ret B w0 fun H' M' v => H = H' ∧ .row v0 29 (Rep.sz S_api_TelemetryMsg) data.length xs0 :: M = M' ∧ .tuple #[.int .i64 (r.1), .int .i64 (r.2)] = v) := by
  unfold m_slices_choosePivotCmpFunc_api_TelemetryMsg__telemetry_Points_List_1 at hm
  refine enter Proofs.Try.func55 rfl rfl rfl ht ?_
  refine C_seq ?_
  refine C_region ?_
  refine W_assign rfl rfl rfl ?_
  refine W_assign rfl rfl rfl ?_
  refine W_end ?_
  refine E_then ?_
  refine C_seq ?_
  refine C_region ?_
  refine W_move rfl rfl rfl ?_
  refine W_move rfl rfl rfl ?_
  refine W_bin rfl rfl rfl rfl rfl ?_
  refine W_assign rfl rfl rfl ?_
  refine W_end ?_
  refine E_then ?_
  refine C_seq ?_
  refine C_region ?_
  refine W_alloc (cs := [.int .i64 (0)]) rfl rfl Proofs.Try.zeroValue3 rfl (fun b101 => ?_)
  refine W_end ?_
  refine E_then ?_
  refine C_seq ?_
  refine C_region ?_
  refine W_move rfl rfl rfl ?_
  refine W_move rfl rfl rfl ?_
  refine W_quo rfl rfl rfl rfl (by decide) ?_
  refine W_bin rfl rfl rfl rfl rfl ?_
  refine W_bin rfl rfl rfl rfl rfl ?_
  refine W_assign rfl rfl rfl ?_
  refine W_end ?_
  refine E_then ?_
  refine C_seq ?_
  refine C_region ?_
  refine W_move rfl rfl rfl ?_
  refine W_move rfl rfl rfl ?_
  refine W_quo rfl rfl rfl rfl (by decide) ?_
  refine W_bin rfl rfl rfl rfl rfl ?_
  refine W_bin rfl rfl rfl rfl rfl ?_
  refine W_assign rfl rfl rfl ?_
  refine W_end ?_
  refine E_then ?_
  refine C_seq ?_
  refine C_region ?_
  refine W_move rfl rfl rfl ?_
  refine W_move rfl rfl rfl ?_
  refine W_quo rfl rfl rfl rfl (by decide) ?_
  refine W_bin rfl rfl rfl rfl rfl ?_
  refine W_bin rfl rfl rfl rfl rfl ?_
  refine W_assign rfl rfl rfl ?_
  refine W_end ?_
  refine E_then ?_
  refine cj [(11, _)] [1] 1 (fun u m H' M' L' => ∃ n131 : Int, ∃ n132 : Int, m_slices_choosePivotCmpFunc_api_TelemetryMsg__telemetry_Points_List_1_b2 n131 n132 = some r ∧ H = H' ∧ .obj b101 (.cells ([.int .i64 (n132)] : List Value).toArray 3 (0, 0)) :: m = M' ∧ (13, .int .i64 (n131)) :: u = L') ?_ (fun J133 => ?_)
  · rintro _ _ _ ⟨n131, n132, hm, rfl, rfl, rfl⟩
    unfold m_slices_choosePivotCmpFunc_api_TelemetryMsg__telemetry_Points_List_1_b2 at hm
    refine C_seq ?_
    refine C_region ?_
    refine W_load rfl rfl Proofs.Try.isAgg3 rfl (own_at (List.mem_cons_self ..) rfl) ?_
    refine W_end ?_
    refine E_then ?_
    refine C_block ?_
    refine C_seq ?_
    refine C_region ?_
    refine W_bin rfl rfl rfl rfl rfl ?_
    refine W_assign rfl rfl rfl ?_
    refine W_end ?_
    refine E_then ?_
    refine cd hm rfl (fun hb134 hm => ?_) (fun hb134 hm => ?_)
    · refine C_seq ?_
      refine C_region ?_
      refine W_move rfl rfl rfl ?_
      refine W_assign rfl rfl rfl ?_
      refine W_assign rfl rfl rfl ?_
      refine W_end ?_
      refine E_then ?_
      refine C_ret ?_
      refine E_ret_block ?_
      obtain rfl := Option.some.inj hm
      refine Ek [1] 1 ?_
      refine E_weak (Hp.le_refl _) ?_
      exact end2 rfl rfl rfl ⟨rfl, rfl, rfl⟩
    · refine C_seq ?_
      refine C_region ?_
      refine W_bin rfl rfl rfl rfl rfl ?_
      refine W_assign rfl rfl rfl ?_
      refine W_end ?_
      refine E_then ?_
      refine cd hm rfl (fun hb135 hm => ?_) (fun hb135 hm => ?_)
      · refine C_seq ?_
        refine C_region ?_
        refine W_move rfl rfl rfl ?_
        refine W_assign rfl rfl rfl ?_
        refine W_assign rfl rfl rfl ?_
        refine W_end ?_
        refine E_then ?_
        refine C_ret ?_
        refine E_ret_block ?_
        obtain rfl := Option.some.inj hm
        refine Ek [1] 1 ?_
        refine E_weak (Hp.le_refl _) ?_
        exact end2 rfl rfl rfl ⟨rfl, rfl, rfl⟩
      · refine C_seq ?_
        refine C_region ?_
        refine W_move rfl rfl rfl ?_
        refine W_assign rfl rfl rfl ?_
        refine W_assign rfl rfl rfl ?_
        refine W_end ?_
        refine E_then ?_
        refine C_ret ?_
        refine E_ret_block ?_
        obtain rfl := Option.some.inj hm
        refine Ek [1] 1 ?_
        refine E_weak (Hp.le_refl _) ?_
        exact end2 rfl rfl rfl ⟨rfl, rfl, rfl⟩
  · refine C_seq ?_
    refine C_region ?_
    refine W_move rfl rfl rfl ?_
    refine W_bin rfl rfl rfl rfl rfl ?_
    refine W_end ?_
    refine E_then ?_
    refine cd hm rfl (fun hb136 hm => ?_) (fun hb136 hm => ?_)
    · refine cj [(0, _), (3, _), (11, _)] [1] 1 (fun u m H' M' L' => ∃ n147 : Int, ∃ n148 : Int, ∃ n149 : Int, ∃ n150 : Int, m_slices_choosePivotCmpFunc_api_TelemetryMsg__telemetry_Points_List_1_b3 data n147 n148 n149 n150 = some r ∧ H = H' ∧ .obj b101 (.cells ([.int .i64 (n150)] : List Value).toArray 3 (0, 0)) :: m = M' ∧ (12, .int .i64 (n147)) :: (13, .int .i64 (n148)) :: (14, .int .i64 (n149)) :: u = L') ?_ (fun J151 => ?_)
      · rintro _ _ _ ⟨n147, n148, n149, n150, hm, rfl, rfl, rfl⟩
        unfold m_slices_choosePivotCmpFunc_api_TelemetryMsg__telemetry_Points_List_1_b3 at hm
        refine C_region ?_
        refine W_move rfl rfl rfl ?_
        refine W_move rfl rfl rfl ?_
        refine W_move rfl rfl rfl ?_
        refine W_move rfl rfl rfl ?_
        refine W_move rfl rfl rfl ?_
        refine Wp [1] ?_
        obtain ⟨r152, hc153, hm⟩ := bind_some hm
        refine W_call Proofs.Try.call67 rfl rfl rfl (fun w ht => by have h := m_slices_medianCmpFunc_api_TelemetryMsg__telemetry_Points_List_1_c (hm := hc153) h0 ht; exact h) ?_
        rintro _ _ _ ⟨rfl, rfl, rfl⟩
        refine W_assign rfl rfl rfl ?_
        refine W_end ?_
        exact kx [1] 0 (J133 _ _ _ ⟨_, _, hm, rfl, rfl, rfl⟩)
      · refine C_seq ?_
        refine C_region ?_
        refine W_move rfl rfl rfl ?_
        refine W_bin rfl rfl rfl rfl rfl ?_
        refine W_end ?_
        refine E_then ?_
        refine cd hm rfl (fun hb155 hm => ?_) (fun hb155 hm => ?_)
        · refine C_seq ?_
          refine C_region ?_
          refine W_move rfl rfl rfl ?_
          refine W_move rfl rfl rfl ?_
          refine W_move rfl rfl rfl ?_
          refine Wp [1] ?_
          obtain ⟨r156, hc157, hm⟩ := bind_some hm
          refine W_call Proofs.Try.call66 rfl rfl rfl (fun w ht => by have h := m_slices_medianAdjacentCmpFunc_api_TelemetryMsg__telemetry_Points_List_1_c (hm := hc157) h0 ht; exact h) ?_
          rintro _ _ _ ⟨rfl, rfl, rfl⟩
          refine W_assign rfl rfl rfl ?_
          refine W_end ?_
          refine E_then ?_
          refine C_seq ?_
          refine C_region ?_
          refine W_move rfl rfl rfl ?_
          refine W_move rfl rfl rfl ?_
          refine W_move rfl rfl rfl ?_
          obtain ⟨r159, hc160, hm⟩ := bind_some hm
          refine W_call Proofs.Try.call66 rfl rfl rfl (fun w ht => by have h := m_slices_medianAdjacentCmpFunc_api_TelemetryMsg__telemetry_Points_List_1_c (hm := hc160) h0 ht; exact h) ?_
          rintro _ _ _ ⟨rfl, rfl, rfl⟩
          refine W_assign rfl rfl rfl ?_
          refine W_end ?_
          refine E_then ?_
          refine C_region ?_
          refine W_move rfl rfl rfl ?_
          refine W_move rfl rfl rfl ?_
          refine W_move rfl rfl rfl ?_
          obtain ⟨r162, hc163, hm⟩ := bind_some hm
          refine W_call Proofs.Try.call66 rfl rfl rfl (fun w ht => by have h := m_slices_medianAdjacentCmpFunc_api_TelemetryMsg__telemetry_Points_List_1_c (hm := hc163) h0 ht; exact h) ?_
          rintro _ _ _ ⟨rfl, rfl, rfl⟩
          refine W_assign rfl rfl rfl ?_
          refine W_end ?_
          exact kx [1] 0 (J151 _ _ _ ⟨_, _, _, _, hm, rfl, rfl, rfl⟩)
        · refine C_skip ?_
          exact kj (J151 _ _ _ ⟨_, _, _, _, hm, rfl, rfl, rfl⟩)
    · refine C_skip ?_
      exact kj (J133 _ _ _ ⟨_, _, hm, rfl, rfl, rfl⟩)

theorem m_slices_reverseRangeCmpFunc_api_TelemetryMsg__telemetry_Points_List_1_c {B : Nat} {w0 : Bs Proofs.Try.prog} {w : World} {H : Hp} {M : List Res} {data : (List S_api_TelemetryMsg)} {p1_a : Int} {p2_b : Int} {v0 : Value} {xs0 : List Value} {r : (List S_api_TelemetryMsg)} (hm : m_slices_reverseRangeCmpFunc_api_TelemetryMsg__telemetry_Points_List_1 data p1_a p2_b = some r) (h0 : Rw H v0 xs0 data) (ht : St B w0 H (.row v0 29 (Rep.sz S_api_TelemetryMsg) data.length xs0 :: M) w) :
    Calls Proofs.Try.prog 56 [v0, .int .i64 (p1_a), .int .i64 (p2_b), .func (.func 20) [].toArray [].toArray].toArray w (Ret B w0 fun H' M' v => H = H' ∧ ∃ qxs0 : List Value, .row v0 29 (Rep.sz S_api_TelemetryMsg) r.length qxs0 :: M = M' ∧ .tuple #[] = v ∧ RwF v0 qxs0 r) := by
  unfold m_slices_reverseRangeCmpFunc_api_TelemetryMsg__telemetry_Points_List_1 at hm
  refine enter Proofs.Try.func56 rfl rfl rfl ht ?_
  refine C_seq ?_
  refine C_region ?_
  refine W_move rfl rfl rfl ?_
  refine W_assign rfl rfl rfl ?_
  refine W_end ?_
  refine E_then ?_
  refine C_seq ?_
  refine C_region ?_
  refine W_move rfl rfl rfl ?_
  refine W_bin rfl rfl rfl rfl rfl ?_
  refine W_assign rfl rfl rfl ?_
  refine W_end ?_
  refine E_then ?_
  refine C_block ?_
  obtain ⟨J227, hm228, hm229, hm⟩ := loopF_nm hm
  refine cl [(0, _)] [] 1 [] 0 (fun u m n H' M' L' => ∃ l181 : List S_api_TelemetryMsg, ∃ n183 : Int, ∃ n184 : Int, ∃ xs180 : List Value, J227 n (l181, n183, n184) = some r ∧ Rw H' v0 xs180 l181 ∧ H.le H' ∧ .row v0 29 (Rep.sz S_api_TelemetryMsg) l181.length xs180 :: m = M' ∧ (8, .int .i64 (n183)) :: (9, .int .i64 (n184)) :: u = L') FUEL rfl ⟨_, _, _, _, hm, h0, (Hp.le_refl _), rfl, rfl⟩ ?_
  rintro n190 H185 _ _ ⟨l181, n183, n184, xs180, hm, hr182, hle186, rfl, rfl⟩
  cases n190 with
  | zero => exact nomatch (hm229 _).symm.trans hm
  | succ n190 =>
    have hm := (hm228 _ _).symm.trans hm
    generalize hn189 : J227 n190 = nx188 at hm
    try dsimp only at hm
    unfold m_slices_reverseRangeCmpFunc_api_TelemetryMsg__telemetry_Points_List_1_b1 at hm
    refine C_seq ?_
    refine C_seq ?_
    refine C_region ?_
    refine W_move rfl rfl rfl ?_
    refine W_move rfl rfl rfl ?_
    refine W_bin rfl rfl rfl rfl rfl ?_
    refine W_end ?_
    refine E_then ?_
    refine cd hm rfl (fun hb196 hm => ?_) (fun hb196 hm => ?_)
    · refine C_skip ?_
      refine E_then ?_
      refine C_block ?_
      refine C_seq ?_
      obtain ⟨y197, h198, he199, hm⟩ := idx_some hm
      obtain ⟨_, rfl, hg200⟩ := (hr182).elem he199
      obtain ⟨y201, h202, he203, hm⟩ := idx_some hm
      obtain ⟨_, rfl, hg204⟩ := (hr182).elem he203
      obtain ⟨y205, h206, he207, hm⟩ := idx_some hm
      obtain ⟨_, rfl, hg208⟩ := (hr182).elem he207
      refine rgx fm 14 [ph _, ph _, ph _, ph _, ph _, ph _, ph (.pointer (some ((Value.base (v0)).add ((n184 : Int).toNat * Rep.sz S_api_TelemetryMsg)))), ph (.agg [.string (y197.Point), .int .i64 (y197.Number), .int .i64 (y197.Time), .int .i64 (y197.Value)].toArray), ph _, ph _, ph (.pointer (some ((Value.base (v0)).add ((n183 : Int).toNat * Rep.sz S_api_TelemetryMsg)))), ph (.agg [.string (y201.Point), .int .i64 (y201.Number), .int .i64 (y201.Time), .int .i64 (y201.Value)].toArray), ph (.pointer (some ((Value.base (v0)).add ((n183 : Int).toNat * Rep.sz S_api_TelemetryMsg)))), (fun H rs v => ∃ xs216 : List Value, [.row v0 29 (Rep.sz S_api_TelemetryMsg) (l181.set ((n183 : Int).toNat) y197).length xs216] = rs ∧ .pointer (some ((Value.base (v0)).add ((n183 : Int).toNat * Rep.sz S_api_TelemetryMsg))) = v ∧ Rw H v0 xs216 (l181.set ((n183 : Int).toNat) y197))] (sp 14 [(13, [14])]) [[], [], [], [], [], [], [14], [14], [], [], [14], [14], [14], []] [0] [0, 1, 2, 3, 4, 5, 6, 7, 8, 9, 10, 11, 12, 13] rfl ⟨om, om, om, om, om, om, ?_, ?_, om, om, ?_, ?_, ?_, ?_, trivial⟩ ?_
      · intro HX hX X Rest hR
        rintro _ _ ⟨rfl, rfl⟩
        rintro _ _ ⟨rfl, rfl⟩
        intro hU hUp
        have hU2 : ∀ s ∈ [.row v0 29 (Rep.sz S_api_TelemetryMsg) l181.length xs180], s ∈ Rest := hU
        refine W_indexO (hU2 _ (List.mem_cons_self ..)) rfl rfl Proofs.Try.runUnderlying27 Proofs.Try.sizeOf29 rfl rfl h198 (List.getElem?_eq_some_iff.1 he199).1 ?_
        exact o0 ⟨rfl, rfl⟩
      · intro HX hX X Rest hR
        rintro _ _ ⟨rfl, rfl⟩
        intro hU hUp
        have hU2 : ∀ s ∈ [.row v0 29 (Rep.sz S_api_TelemetryMsg) l181.length xs180], s ∈ Rest := hU
        refine W_loadAgg (cs := [.string (y197.Point), .int .i64 (y197.Number), .int .i64 (y197.Time), .int .i64 (y197.Value)]) rfl rfl Proofs.Try.isAgg29 Proofs.Try.sizeOf29 rfl (row_cells (hU2 _ (List.mem_cons_self ..)) hg200) rfl ?_
        exact o0 ⟨rfl, rfl⟩
      · intro HX hX X Rest hR
        rintro _ _ ⟨rfl, rfl⟩
        rintro _ _ ⟨rfl, rfl⟩
        intro hU hUp
        have hU2 : ∀ s ∈ [.row v0 29 (Rep.sz S_api_TelemetryMsg) l181.length xs180], s ∈ Rest := hU
        refine W_indexO (hU2 _ (List.mem_cons_self ..)) rfl rfl Proofs.Try.runUnderlying27 Proofs.Try.sizeOf29 rfl rfl h202 (List.getElem?_eq_some_iff.1 he203).1 ?_
        exact o0 ⟨rfl, rfl⟩
      · intro HX hX X Rest hR
        rintro _ _ ⟨rfl, rfl⟩
        intro hU hUp
        have hU2 : ∀ s ∈ [.row v0 29 (Rep.sz S_api_TelemetryMsg) l181.length xs180], s ∈ Rest := hU
        refine W_loadAgg (cs := [.string (y201.Point), .int .i64 (y201.Number), .int .i64 (y201.Time), .int .i64 (y201.Value)]) rfl rfl Proofs.Try.isAgg29 Proofs.Try.sizeOf29 rfl (row_cells (hU2 _ (List.mem_cons_self ..)) hg204) rfl ?_
        exact o0 ⟨rfl, rfl⟩
      · intro HX hX X Rest hR
        rintro _ _ ⟨rfl, rfl⟩
        rintro _ _ ⟨rfl, rfl⟩
        rintro _ _ ⟨rfl, rfl⟩
        rintro _ _ ⟨rfl, rfl⟩
        rintro _ _ ⟨rfl, rfl⟩
        rintro _ _ ⟨rfl, rfl⟩
        rintro _ _ ⟨rfl, rfl⟩
        rintro _ _ ⟨rfl, rfl⟩
        rintro _ _ ⟨rfl, rfl⟩
        intro hU hUp
        have hU2 : ∀ s ∈ [.row v0 29 (Rep.sz S_api_TelemetryMsg) l181.length xs180], s ∈ Rest := hU
        refine W_indexO (hU2 _ (List.mem_cons_self ..)) rfl rfl Proofs.Try.runUnderlying27 Proofs.Try.sizeOf29 rfl rfl h206 (List.getElem?_eq_some_iff.1 he207).1 ?_
        exact o0 ⟨rfl, rfl⟩
      · intro HX hX X Rest hR
        rintro _ _ ⟨rfl, rfl⟩
        rintro _ _ ⟨rfl, rfl⟩
        rintro _ _ ⟨rfl, rfl⟩
        rintro _ _ ⟨rfl, rfl⟩
        rintro _ _ ⟨rfl, rfl⟩
        rintro _ _ ⟨rfl, rfl⟩
        rintro _ _ ⟨rfl, rfl⟩
        rintro _ _ ⟨rfl, rfl⟩
        rintro _ _ ⟨rfl, rfl⟩
        intro hU hUp
        refine Wp [0] ?_
        obtain ⟨hr213, he214, hg215⟩ := Rw.put (cs := [.string (y197.Point), .int .i64 (y197.Number), .int .i64 (y197.Time), .int .i64 (y197.Value)]) (o := 0) (c := [.string (y205.Point), .int .i64 (y205.Number), .int .i64 (y205.Time), .int .i64 (y205.Value)]) (out := [.string (y197.Point), .int .i64 (y197.Number), .int .i64 (y197.Time), .int .i64 (y197.Value)]) (e2 := y197) (hr182.mono hX) he207 rfl hg208 rfl rfl rfl
        refine W_storeO2 (i := (n183 : Int).toNat * Rep.sz S_api_TelemetryMsg + 0) (cs := [.string (y197.Point), .int .i64 (y197.Number), .int .i64 (y197.Time), .int .i64 (y197.Value)]) rfl Proofs.Try.sizeOf29 rfl (row_ad0 _ _) rfl rfl rfl (Rw.room (hr182.mono hX) he207 rfl) rfl (all_cons rfl (all_cons rfl (all_cons rfl (all_cons rfl all_nil)))) (n' := (l181.set ((n183 : Int).toNat) y197).length) List.length_set ?_
        generalize over xs180 ((n183 : Int).toNat * Rep.sz S_api_TelemetryMsg + 0) [.string (y197.Point), .int .i64 (y197.Number), .int .i64 (y197.Time), .int .i64 (y197.Value)] = xs216 at hr213 hg215 ⊢
        exact W_end (OneT_endL rfl [.row v0 29 (Rep.sz S_api_TelemetryMsg) (l181.set ((n183 : Int).toNat) y197).length xs216] (Hp.le_refl _) ⟨xs216, rfl, rfl, (hr213)⟩)
      intro H217 hle218
      rintro _ _ ⟨rfl, rfl⟩
      rintro _ _ ⟨rfl, rfl⟩
      rintro _ _ ⟨rfl, rfl⟩
      rintro _ _ ⟨rfl, rfl⟩
      rintro _ _ ⟨rfl, rfl⟩
      rintro _ _ ⟨rfl, rfl⟩
      rintro _ _ ⟨rfl, rfl⟩
      rintro _ _ ⟨rfl, rfl⟩
      rintro _ _ ⟨rfl, rfl⟩
      rintro _ _ ⟨rfl, rfl⟩
      rintro _ _ ⟨rfl, rfl⟩
      rintro _ _ ⟨rfl, rfl⟩
      rintro _ _ ⟨rfl, rfl⟩
      rintro _ _ _ ⟨xs216, rfl, _, hr213⟩
      refine isW ?_
      refine Wp [0] ?_
      obtain ⟨y219, h220, he221, hm⟩ := idx_some hm
      refine W_indexO (List.mem_cons_self ..) rfl rfl Proofs.Try.runUnderlying27 Proofs.Try.sizeOf29 rfl rfl h220 (List.getElem?_eq_some_iff.1 he221).1 ?_
      obtain ⟨_, rfl, hg222⟩ := (hr213).elem he221
      obtain ⟨hr223, he224, hg225⟩ := Rw.put (cs := [.string (y201.Point), .int .i64 (y201.Number), .int .i64 (y201.Time), .int .i64 (y201.Value)]) (o := 0) (c := [.string (y219.Point), .int .i64 (y219.Number), .int .i64 (y219.Time), .int .i64 (y219.Value)]) (out := [.string (y201.Point), .int .i64 (y201.Number), .int .i64 (y201.Time), .int .i64 (y201.Value)]) (e2 := y201) hr213 he221 rfl hg222 rfl rfl rfl
      refine W_storeO2 (i := (n184 : Int).toNat * Rep.sz S_api_TelemetryMsg + 0) (cs := [.string (y201.Point), .int .i64 (y201.Number), .int .i64 (y201.Time), .int .i64 (y201.Value)]) rfl Proofs.Try.sizeOf29 rfl (row_ad0 _ _) rfl rfl rfl (Rw.room hr213 he221 rfl) rfl (all_cons rfl (all_cons rfl (all_cons rfl (all_cons rfl all_nil)))) (n' := ((l181.set ((n183 : Int).toNat) y197).set ((n184 : Int).toNat) y201).length) List.length_set ?_
      generalize over xs216 ((n184 : Int).toNat * Rep.sz S_api_TelemetryMsg + 0) [.string (y201.Point), .int .i64 (y201.Number), .int .i64 (y201.Time), .int .i64 (y201.Value)] = xs226 at hr223 hg225 ⊢
      refine W_end ?_
      refine E_then ?_
      refine C_seq ?_
      refine C_region ?_
      refine W_move rfl rfl rfl ?_
      refine W_bin rfl rfl rfl rfl rfl ?_
      refine W_assign rfl rfl rfl ?_
      refine W_end ?_
      refine E_then ?_
      refine C_region ?_
      refine W_move rfl rfl rfl ?_
      refine W_bin rfl rfl rfl rfl rfl ?_
      refine W_assign rfl rfl rfl ?_
      refine W_end ?_
      refine E_normal_block ?_
      exact kj (E_back (Nat.lt_succ_self _) ⟨_, _, _, _, ((congrFun hn189 _).trans hm), hr223, (Hp.le_trans hle186 hle218), rfl, rfl⟩)
    · refine C_exit ?_
      refine E_exit_then ?_
      refine E_exit_then ?_
      refine E_exit_hit ?_
      refine E_off ?_
      obtain rfl := Option.some.inj hm
      refine E_weak hle186 ?_
      exact end0 rfl ⟨rfl, xs180, rfl, rfl, (hr182).toF⟩

theorem m_slices_partialInsertionSortCmpFunc_api_TelemetryMsg__telemetry_Points_List_1_c {B : Nat} {w0 : Bs Proofs.Try.prog} {w : World} {H : Hp} {M : List Res} {data : (List S_api_TelemetryMsg)} {p1_a : Int} {p2_b : Int} {v0 : Value} {xs0 : List Value} {r : Bool × (List S_api_TelemetryMsg)} (hm : m_slices_partialInsertionSortCmpFunc_api_TelemetryMsg__telemetry_Points_List_1 data p1_a p2_b = some r) (h0 : Rw H v0 xs0 data) (ht : St B w0 H (.row v0 29 (Rep.sz S_api_TelemetryMsg) data.length xs0 :: M) w) :
    Calls Proofs.Try.prog 57 [v0, .int .i64 (p1_a), .int .i64 (p2_b), .func (.func 20) [].toArray [].toArray].toArray w (Ret B w0 fun H' M' v => H = H' ∧ ∃ qxs0 : List Value, .row v0 29 (Rep.sz S_api_TelemetryMsg) r.2.length qxs0 :: M = M' ∧ .bool (r.1) = v ∧ RwF v0 qxs0 r.2) := by
  unfold m_slices_partialInsertionSortCmpFunc_api_TelemetryMsg__telemetry_Points_List_1 at hm
  refine enter Proofs.Try.func57 rfl rfl rfl ht ?_
  refine C_seq ?_
  refine C_region ?_
  refine W_assign rfl rfl rfl ?_
  refine W_end ?_
  refine E_then ?_
  refine C_seq ?_
  refine C_region ?_
  refine W_move rfl rfl rfl ?_
  refine W_bin rfl rfl rfl rfl rfl ?_
  refine W_assign rfl rfl rfl ?_
  refine W_end ?_
  refine E_then ?_
  refine C_seq ?_
  refine C_seq ?_
  refine C_region ?_
  refine W_assign rfl rfl rfl ?_
  refine W_end ?_
  refine E_then ?_
  refine C_block ?_
  obtain ⟨J4055, hm4056, hm4057, hm⟩ := loopF_nm hm
  refine cl [(0, _), (1, _), (2, _), (3, _)] [] 1 [] 0 (fun u m n H' M' L' => ∃ l2733 : List S_api_TelemetryMsg, ∃ n2735 : Int, ∃ n2736 : Int, ∃ xs2732 : List Value, J4055 n (l2733, n2735, n2736) = some r ∧ Rw H' v0 xs2732 l2733 ∧ H.le H' ∧ .row v0 29 (Rep.sz S_api_TelemetryMsg) l2733.length xs2732 :: m = M' ∧ (9, .int .i64 (n2735)) :: (10, .int .i64 (n2736)) :: u = L') FUEL rfl ⟨_, _, _, _, hm, h0, (Hp.le_refl _), rfl, rfl⟩ ?_
  rintro n2742 H2737 _ _ ⟨l2733, n2735, n2736, xs2732, hm, hr2734, hle2738, rfl, rfl⟩
  cases n2742 with
  | zero => exact nomatch (hm4057 _).symm.trans hm
  | succ n2742 =>
    have hm := (hm4056 _ _).symm.trans hm
    generalize hn2741 : J4055 n2742 = nx2740 at hm
    try dsimp only at hm
    unfold m_slices_partialInsertionSortCmpFunc_api_TelemetryMsg__telemetry_Points_List_1_b31 at hm
    refine C_seq ?_
    refine C_seq ?_
    refine C_region ?_
    refine W_move rfl rfl rfl ?_
    refine W_bin rfl rfl rfl rfl rfl ?_
    refine W_end ?_
    refine E_then ?_
    refine cd hm rfl (fun hb2748 hm => ?_) (fun hb2748 hm => ?_)
    · refine C_skip ?_
      refine E_then ?_
      refine cj [(0, _), (1, _), (2, _), (3, _), (10, _)] [] 1 (fun u m H' M' L' => ∃ l3400 : List S_api_TelemetryMsg, ∃ n3402 : Int, ∃ xs3399 : List Value, m_slices_partialInsertionSortCmpFunc_api_TelemetryMsg__telemetry_Points_List_1_b39 n2736 nx2740 l3400 n3402 = some r ∧ Rw H' v0 xs3399 l3400 ∧ H2737.le H' ∧ .row v0 29 (Rep.sz S_api_TelemetryMsg) l3400.length xs3399 :: m = M' ∧ (9, .int .i64 (n3402)) :: u = L') ?_ (fun J3405 => ?_)
      · rintro H3403 _ _ ⟨l3400, n3402, xs3399, hm, hr3401, hle3404, rfl, rfl⟩
        unfold m_slices_partialInsertionSortCmpFunc_api_TelemetryMsg__telemetry_Points_List_1_b39 at hm
        refine C_region ?_
        refine W_move rfl rfl rfl ?_
        refine W_bin rfl rfl rfl rfl rfl ?_
        refine W_assign rfl rfl rfl ?_
        refine W_end ?_
        exact kj (E_back (Nat.lt_succ_self _) ⟨_, _, _, _, ((congrFun hn2741 _).trans hm), hr3401, (Hp.le_trans hle2738 hle3404), rfl, rfl⟩)
      · refine C_block ?_
        refine cj [(0, _), (1, _), (2, _), (3, _), (10, _)] [] 0 (fun u m H' M' L' => ∃ n3469 : Int, m_slices_partialInsertionSortCmpFunc_api_TelemetryMsg__telemetry_Points_List_1_b45 p1_a p2_b l2733 n2736 nx2740 n3469 = some r ∧ H2737.le H' ∧ m = M' ∧ (9, .int .i64 (n3469)) :: u = L') ?_ (fun J3472 => ?_)
        · rintro H3470 _ _ ⟨n3469, hm, hle3471, rfl, rfl⟩
          unfold m_slices_partialInsertionSortCmpFunc_api_TelemetryMsg__telemetry_Points_List_1_b45 at hm
          refine C_seq ?_
          refine C_seq ?_
          refine C_region ?_
          refine W_move rfl rfl rfl ?_
          refine W_move rfl rfl rfl ?_
          refine W_bin rfl rfl rfl rfl rfl ?_
          refine W_end ?_
          refine E_then ?_
          refine cd hm rfl (fun hb3473 hm => ?_) (fun hb3473 hm => ?_)
          · refine C_seq ?_
            refine C_region ?_
            refine W_assign rfl rfl rfl ?_
            refine W_end ?_
            refine E_then ?_
            refine C_ret ?_
            refine E_ret_then ?_
            refine E_ret_block ?_
            refine E_ret_then ?_
            refine E_ret_then ?_
            refine E_ret_block ?_
            refine E_ret_then ?_
            obtain rfl := Option.some.inj hm
            refine E_weak (Hp.le_trans hle2738 hle3471) ?_
            exact end1 rfl rfl ⟨rfl, xs2732, rfl, rfl, ((hr2734.mono hle3471)).toF⟩
          · refine C_skip ?_
            refine E_then ?_
            refine C_seq ?_
            refine C_seq ?_
            refine C_region ?_
            refine W_move rfl rfl rfl ?_
            refine W_move rfl rfl rfl ?_
            refine W_bin rfl rfl rfl rfl rfl ?_
            refine W_bin rfl rfl rfl rfl rfl ?_
            refine W_end ?_
            refine E_then ?_
            refine cd hm rfl (fun hb3474 hm => ?_) (fun hb3474 hm => ?_)
            · refine C_seq ?_
              refine C_region ?_
              refine W_assign rfl rfl rfl ?_
              refine W_end ?_
              refine E_then ?_
              refine C_ret ?_
              refine E_ret_then ?_
              refine E_ret_block ?_
              refine E_ret_then ?_
              refine E_ret_then ?_
              refine E_ret_block ?_
              refine E_ret_then ?_
              obtain rfl := Option.some.inj hm
              refine E_weak (Hp.le_trans hle2738 hle3471) ?_
              exact end1 rfl rfl ⟨rfl, xs2732, rfl, rfl, ((hr2734.mono hle3471)).toF⟩
            · refine C_skip ?_
              refine E_then ?_
              refine C_seq ?_
              obtain ⟨y3475, h3476, he3477, hm⟩ := idx_some hm
              obtain ⟨_, rfl, hg3478⟩ := (hr2734).elem he3477
              obtain ⟨y3479, h3480, he3481, hm⟩ := idx_some hm
              obtain ⟨_, rfl, hg3482⟩ := (hr2734).elem he3481
              obtain ⟨y3483, h3484, he3485, hm⟩ := idx_some hm
              obtain ⟨_, rfl, hg3486⟩ := (hr2734).elem he3485
              refine rgx fm 16 [ph _, ph _, ph _, ph _, ph _, ph _, ph _, ph _, ph (.pointer (some ((Value.base (v0)).add ((IntKind.i64.wrap (n3469 - 1) : Int).toNat * Rep.sz S_api_TelemetryMsg)))), ph (.agg [.string (y3475.Point), .int .i64 (y3475.Number), .int .i64 (y3475.Time), .int .i64 (y3475.Value)].toArray), ph _, ph _, ph (.pointer (some ((Value.base (v0)).add ((n3469 : Int).toNat * Rep.sz S_api_TelemetryMsg)))), ph (.agg [.string (y3479.Point), .int .i64 (y3479.Number), .int .i64 (y3479.Time), .int .i64 (y3479.Value)].toArray), ph (.pointer (some ((Value.base (v0)).add ((n3469 : Int).toNat * Rep.sz S_api_TelemetryMsg)))), (fun H rs v => ∃ xs3494 : List Value, [.row v0 29 (Rep.sz S_api_TelemetryMsg) (l2733.set ((n3469 : Int).toNat) y3475).length xs3494] = rs ∧ .pointer (some ((Value.base (v0)).add ((n3469 : Int).toNat * Rep.sz S_api_TelemetryMsg))) = v ∧ Rw H v0 xs3494 (l2733.set ((n3469 : Int).toNat) y3475))] (sp 16 [(15, [16])]) (sp 16 [(8, [16]), (9, [16]), (12, [16]), (13, [16]), (14, [16])]) [0] [0, 1, 2, 3, 4, 5, 6, 7, 8, 9, 10, 11, 12, 13, 14, 15] rfl ⟨om, om, om, om, om, om, om, om, ?_, ?_, om, om, ?_, ?_, ?_, ?_, trivial⟩ ?_
              · intro HX hX X Rest hR
                rintro _ _ ⟨rfl, rfl⟩
                rintro _ _ ⟨rfl, rfl⟩
                intro hU hUp
                have hU2 : ∀ s ∈ [.row v0 29 (Rep.sz S_api_TelemetryMsg) l2733.length xs2732], s ∈ Rest := hU
                refine W_indexO (hU2 _ (List.mem_cons_self ..)) rfl rfl Proofs.Try.runUnderlying27 Proofs.Try.sizeOf29 rfl rfl h3476 (List.getElem?_eq_some_iff.1 he3477).1 ?_
                exact o0 ⟨rfl, rfl⟩
              · intro HX hX X Rest hR
                rintro _ _ ⟨rfl, rfl⟩
                intro hU hUp
                have hU2 : ∀ s ∈ [.row v0 29 (Rep.sz S_api_TelemetryMsg) l2733.length xs2732], s ∈ Rest := hU
                refine W_loadAgg (cs := [.string (y3475.Point), .int .i64 (y3475.Number), .int .i64 (y3475.Time), .int .i64 (y3475.Value)]) rfl rfl Proofs.Try.isAgg29 Proofs.Try.sizeOf29 rfl (row_cells (hU2 _ (List.mem_cons_self ..)) hg3478) rfl ?_
                exact o0 ⟨rfl, rfl⟩
              · intro HX hX X Rest hR
                rintro _ _ ⟨rfl, rfl⟩
                rintro _ _ ⟨rfl, rfl⟩
                intro hU hUp
                have hU2 : ∀ s ∈ [.row v0 29 (Rep.sz S_api_TelemetryMsg) l2733.length xs2732], s ∈ Rest := hU
                refine W_indexO (hU2 _ (List.mem_cons_self ..)) rfl rfl Proofs.Try.runUnderlying27 Proofs.Try.sizeOf29 rfl rfl h3480 (List.getElem?_eq_some_iff.1 he3481).1 ?_
                exact o0 ⟨rfl, rfl⟩
              · intro HX hX X Rest hR
                rintro _ _ ⟨rfl, rfl⟩
                intro hU hUp
                have hU2 : ∀ s ∈ [.row v0 29 (Rep.sz S_api_TelemetryMsg) l2733.length xs2732], s ∈ Rest := hU
                refine W_loadAgg (cs := [.string (y3479.Point), .int .i64 (y3479.Number), .int .i64 (y3479.Time), .int .i64 (y3479.Value)]) rfl rfl Proofs.Try.isAgg29 Proofs.Try.sizeOf29 rfl (row_cells (hU2 _ (List.mem_cons_self ..)) hg3482) rfl ?_
                exact o0 ⟨rfl, rfl⟩
              · intro HX hX X Rest hR
                rintro _ _ ⟨rfl, rfl⟩
                rintro _ _ ⟨rfl, rfl⟩
                rintro _ _ ⟨rfl, rfl⟩
                rintro _ _ ⟨rfl, rfl⟩
                rintro _ _ ⟨rfl, rfl⟩
                rintro _ _ ⟨rfl, rfl⟩
                rintro _ _ ⟨rfl, rfl⟩
                rintro _ _ ⟨rfl, rfl⟩
                rintro _ _ ⟨rfl, rfl⟩
                rintro _ _ ⟨rfl, rfl⟩
                intro hU hUp
                have hU2 : ∀ s ∈ [.row v0 29 (Rep.sz S_api_TelemetryMsg) l2733.length xs2732], s ∈ Rest := hU
                refine W_indexO (hU2 _ (List.mem_cons_self ..)) rfl rfl Proofs.Try.runUnderlying27 Proofs.Try.sizeOf29 rfl rfl h3484 (List.getElem?_eq_some_iff.1 he3485).1 ?_
                exact o0 ⟨rfl, rfl⟩
              · intro HX hX X Rest hR
                rintro _ _ ⟨rfl, rfl⟩
                rintro _ _ ⟨rfl, rfl⟩
                rintro _ _ ⟨rfl, rfl⟩
                rintro _ _ ⟨rfl, rfl⟩
                rintro _ _ ⟨rfl, rfl⟩
                rintro _ _ ⟨rfl, rfl⟩
                rintro _ _ ⟨rfl, rfl⟩
                rintro _ _ ⟨rfl, rfl⟩
                rintro _ _ ⟨rfl, rfl⟩
                rintro _ _ ⟨rfl, rfl⟩
                intro hU hUp
                refine Wp [0] ?_
                obtain ⟨hr3491, he3492, hg3493⟩ := Rw.put (cs := [.string (y3475.Point), .int .i64 (y3475.Number), .int .i64 (y3475.Time), .int .i64 (y3475.Value)]) (o := 0) (c := [.string (y3483.Point), .int .i64 (y3483.Number), .int .i64 (y3483.Time), .int .i64 (y3483.Value)]) (out := [.string (y3475.Point), .int .i64 (y3475.Number), .int .i64 (y3475.Time), .int .i64 (y3475.Value)]) (e2 := y3475) ((hr2734.mono hle3471).mono hX) he3485 rfl hg3486 rfl rfl rfl
                refine W_storeO2 (i := (n3469 : Int).toNat * Rep.sz S_api_TelemetryMsg + 0) (cs := [.string (y3475.Point), .int .i64 (y3475.Number), .int .i64 (y3475.Time), .int .i64 (y3475.Value)]) rfl Proofs.Try.sizeOf29 rfl (row_ad0 _ _) rfl rfl rfl (Rw.room ((hr2734.mono hle3471).mono hX) he3485 rfl) rfl (all_cons rfl (all_cons rfl (all_cons rfl (all_cons rfl all_nil)))) (n' := (l2733.set ((n3469 : Int).toNat) y3475).length) List.length_set ?_
                generalize over xs2732 ((n3469 : Int).toNat * Rep.sz S_api_TelemetryMsg + 0) [.string (y3475.Point), .int .i64 (y3475.Number), .int .i64 (y3475.Time), .int .i64 (y3475.Value)] = xs3494 at hr3491 hg3493 ⊢
                exact W_end (OneT_endL rfl [.row v0 29 (Rep.sz S_api_TelemetryMsg) (l2733.set ((n3469 : Int).toNat) y3475).length xs3494] (Hp.le_refl _) ⟨xs3494, rfl, rfl, (hr3491)⟩)
              intro H3495 hle3496
              rintro _ _ ⟨rfl, rfl⟩
              rintro _ _ ⟨rfl, rfl⟩
              rintro _ _ ⟨rfl, rfl⟩
              rintro _ _ ⟨rfl, rfl⟩
              rintro _ _ ⟨rfl, rfl⟩
              rintro _ _ ⟨rfl, rfl⟩
              rintro _ _ ⟨rfl, rfl⟩
              rintro _ _ ⟨rfl, rfl⟩
              rintro _ _ ⟨rfl, rfl⟩
              rintro _ _ ⟨rfl, rfl⟩
              rintro _ _ ⟨rfl, rfl⟩
              rintro _ _ ⟨rfl, rfl⟩
              rintro _ _ ⟨rfl, rfl⟩
              rintro _ _ ⟨rfl, rfl⟩
              rintro _ _ ⟨rfl, rfl⟩
              rintro _ _ _ ⟨xs3494, rfl, _, hr3491⟩
              refine isW ?_
              refine Wp [0] ?_
              obtain ⟨y3497, h3498, he3499, hm⟩ := idx_some hm
              refine W_indexO (List.mem_cons_self ..) rfl rfl Proofs.Try.runUnderlying27 Proofs.Try.sizeOf29 rfl rfl h3498 (List.getElem?_eq_some_iff.1 he3499).1 ?_
              obtain ⟨_, rfl, hg3500⟩ := (hr3491).elem he3499
              obtain ⟨hr3501, he3502, hg3503⟩ := Rw.put (cs := [.string (y3479.Point), .int .i64 (y3479.Number), .int .i64 (y3479.Time), .int .i64 (y3479.Value)]) (o := 0) (c := [.string (y3497.Point), .int .i64 (y3497.Number), .int .i64 (y3497.Time), .int .i64 (y3497.Value)]) (out := [.string (y3479.Point), .int .i64 (y3479.Number), .int .i64 (y3479.Time), .int .i64 (y3479.Value)]) (e2 := y3479) hr3491 he3499 rfl hg3500 rfl rfl rfl
              refine W_storeO2 (i := (IntKind.i64.wrap (n3469 - 1) : Int).toNat * Rep.sz S_api_TelemetryMsg + 0) (cs := [.string (y3479.Point), .int .i64 (y3479.Number), .int .i64 (y3479.Time), .int .i64 (y3479.Value)]) rfl Proofs.Try.sizeOf29 rfl (row_ad0 _ _) rfl rfl rfl (Rw.room hr3491 he3499 rfl) rfl (all_cons rfl (all_cons rfl (all_cons rfl (all_cons rfl all_nil)))) (n' := ((l2733.set ((n3469 : Int).toNat) y3475).set ((IntKind.i64.wrap (n3469 - 1) : Int).toNat) y3479).length) List.length_set ?_
              generalize over xs3494 ((IntKind.i64.wrap (n3469 - 1) : Int).toNat * Rep.sz S_api_TelemetryMsg + 0) [.string (y3479.Point), .int .i64 (y3479.Number), .int .i64 (y3479.Time), .int .i64 (y3479.Value)] = xs3504 at hr3501 hg3503 ⊢
              refine W_end ?_
              refine E_then ?_
              refine cj [(0, _), (1, _), (2, _), (3, _), (9, _), (10, _)] [] 1 (fun u m H' M' L' => ∃ l3667 : List S_api_TelemetryMsg, ∃ xs3666 : List Value, m_slices_partialInsertionSortCmpFunc_api_TelemetryMsg__telemetry_Points_List_1_b43 p2_b n2736 nx2740 n3469 l3667 = some r ∧ Rw H' v0 xs3666 l3667 ∧ H3495.le H' ∧ .row v0 29 (Rep.sz S_api_TelemetryMsg) l3667.length xs3666 :: m = M' ∧ u = L') ?_ (fun J3671 => ?_)
              · rintro H3669 _ _ ⟨l3667, xs3666, hm, hr3668, hle3670, rfl, rfl⟩
                unfold m_slices_partialInsertionSortCmpFunc_api_TelemetryMsg__telemetry_Points_List_1_b43 at hm
                refine C_seq ?_
                refine C_region ?_
                refine W_move rfl rfl rfl ?_
                refine W_move rfl rfl rfl ?_
                refine W_bin rfl rfl rfl rfl rfl ?_
                refine W_bin rfl rfl rfl rfl rfl ?_
                refine W_end ?_
                refine E_then ?_
                refine cd hm rfl (fun hb3672 hm => ?_) (fun hb3672 hm => ?_)
                · refine C_seq ?_
                  refine C_region ?_
                  refine W_move rfl rfl rfl ?_
                  refine W_bin rfl rfl rfl rfl rfl ?_
                  refine W_assign rfl rfl rfl ?_
                  refine W_end ?_
                  refine E_then ?_
                  refine C_block ?_
                  obtain ⟨J3829, hm3830, hm3831, hm⟩ := loopF_nm hm
                  refine cl [(0, _), (1, _), (2, _), (3, _), (9, _), (10, _)] [] 1 [] 0 (fun u m n H' M' L' => ∃ l3773 : List S_api_TelemetryMsg, ∃ n3775 : Int, ∃ xs3772 : List Value, J3829 n (l3773, n3775) = some r ∧ Rw H' v0 xs3772 l3773 ∧ H3669.le H' ∧ .row v0 29 (Rep.sz S_api_TelemetryMsg) l3773.length xs3772 :: m = M' ∧ (12, .int .i64 (n3775)) :: u = L') FUEL rfl ⟨_, _, _, hm, hr3668, (Hp.le_refl _), rfl, rfl⟩ ?_
                  rintro n3781 H3776 _ _ ⟨l3773, n3775, xs3772, hm, hr3774, hle3777, rfl, rfl⟩
                  cases n3781 with
                  | zero => exact nomatch (hm3831 _).symm.trans hm
                  | succ n3781 =>
                    have hm := (hm3830 _ _).symm.trans hm
                    generalize hn3780 : J3829 n3781 = nx3779 at hm
                    try dsimp only at hm
                    unfold m_slices_partialInsertionSortCmpFunc_api_TelemetryMsg__telemetry_Points_List_1_b42 at hm
                    refine C_seq ?_
                    refine C_seq ?_
                    refine C_region ?_
                    refine W_move rfl rfl rfl ?_
                    refine W_move rfl rfl rfl ?_
                    refine W_bin rfl rfl rfl rfl rfl ?_
                    refine W_end ?_
                    refine E_then ?_
                    refine cd hm rfl (fun hb3787 hm => ?_) (fun hb3787 hm => ?_)
                    · refine C_skip ?_
                      refine E_then ?_
                      refine C_seq ?_
                      refine C_block ?_
                      refine C_seq ?_
                      refine C_seq ?_
                      obtain ⟨y3788, h3789, he3790, hm⟩ := idx_some hm
                      obtain ⟨_, rfl, hg3791⟩ := (hr3774).elem he3790
                      obtain ⟨y3792, h3793, he3794, hm⟩ := idx_some hm
                      obtain ⟨_, rfl, hg3795⟩ := (hr3774).elem he3794
                      refine rgp fm 10 [ph _, ph _, ph _, ph (.pointer (some ((Value.base (v0)).add ((n3775 : Int).toNat * Rep.sz S_api_TelemetryMsg)))), ph (.agg [.string (y3788.Point), .int .i64 (y3788.Number), .int .i64 (y3788.Time), .int .i64 (y3788.Value)].toArray), ph _, ph _, ph _, ph (.pointer (some ((Value.base (v0)).add ((IntKind.i64.wrap (n3775 - 1) : Int).toNat * Rep.sz S_api_TelemetryMsg)))), ph (.agg [.string (y3792.Point), .int .i64 (y3792.Number), .int .i64 (y3792.Time), .int .i64 (y3792.Value)].toArray)] ⟨om, om, om, ?_, ?_, om, om, om, ?_, ?_, trivial⟩ ?_
                      · intro HX hX X Rest hR
                        rintro _ _ ⟨rfl, rfl⟩
                        rintro _ _ ⟨rfl, rfl⟩
                        intro hU hUp
                        refine W_indexO (hR _ (List.mem_cons_self ..)) rfl rfl Proofs.Try.runUnderlying27 Proofs.Try.sizeOf29 rfl rfl h3789 (List.getElem?_eq_some_iff.1 he3790).1 ?_
                        exact o0 ⟨rfl, rfl⟩
                      · intro HX hX X Rest hR
                        rintro _ _ ⟨rfl, rfl⟩
                        intro hU hUp
                        refine W_loadAgg (cs := [.string (y3788.Point), .int .i64 (y3788.Number), .int .i64 (y3788.Time), .int .i64 (y3788.Value)]) rfl rfl Proofs.Try.isAgg29 Proofs.Try.sizeOf29 rfl (row_cells (hR _ (List.mem_cons_self ..)) hg3791) rfl ?_
                        exact o0 ⟨rfl, rfl⟩
                      · intro HX hX X Rest hR
                        rintro _ _ ⟨rfl, rfl⟩
                        rintro _ _ ⟨rfl, rfl⟩
                        intro hU hUp
                        refine W_indexO (hR _ (List.mem_cons_self ..)) rfl rfl Proofs.Try.runUnderlying27 Proofs.Try.sizeOf29 rfl rfl h3793 (List.getElem?_eq_some_iff.1 he3794).1 ?_
                        exact o0 ⟨rfl, rfl⟩
                      · intro HX hX X Rest hR
                        rintro _ _ ⟨rfl, rfl⟩
                        intro hU hUp
                        refine W_loadAgg (cs := [.string (y3792.Point), .int .i64 (y3792.Number), .int .i64 (y3792.Time), .int .i64 (y3792.Value)]) rfl rfl Proofs.Try.isAgg29 Proofs.Try.sizeOf29 rfl (row_cells (hR _ (List.mem_cons_self ..)) hg3795) rfl ?_
                        exact o0 ⟨rfl, rfl⟩
                      intro H3796 hle3797
                      rintro _ _ ⟨rfl, rfl⟩
                      rintro _ _ ⟨rfl, rfl⟩
                      rintro _ _ ⟨rfl, rfl⟩
                      rintro _ _ ⟨rfl, rfl⟩
                      rintro _ _ ⟨rfl, rfl⟩
                      rintro _ _ ⟨rfl, rfl⟩
                      rintro _ _ ⟨rfl, rfl⟩
                      rintro _ _ ⟨rfl, rfl⟩
                      rintro _ _ ⟨rfl, rfl⟩
                      rintro _ _ ⟨rfl, rfl⟩
                      refine isW ?_
                      refine W_callv Proofs.Try.call20 rfl rfl rfl rfl (fun w ht => by have h := m_telemetry_Points_List_1_c (hm := (rfl : m_telemetry_Points_List_1 y3788 y3792 = _))  ht; exact h) ?_
                      rintro _ _ _ ⟨rfl, rfl, rfl⟩
                      refine W_bin rfl rfl rfl rfl rfl ?_
                      refine W_un rfl rfl rfl rfl ?_
                      refine W_end ?_
                      refine E_then ?_
                      refine cd hm rfl (fun hb3798 hm => ?_) (fun hb3798 hm => ?_)
                      · refine C_exit ?_
                        refine E_exit_then ?_
                        refine E_exit_miss rfl ?_
                        refine E_exit_then ?_
                        refine E_exit_then ?_
                        refine E_exit_hit ?_
                        refine E_normal_block ?_
                        exact kj (J3405 _ _ _ ⟨_, _, _, hm, (hr3774.mono hle3797), (Hp.le_trans (Hp.le_trans (Hp.le_trans (Hp.le_trans hle3471 hle3496) hle3670) hle3777) hle3797), rfl, rfl⟩)
                      · refine C_skip ?_
                        refine E_then ?_
                        obtain ⟨y3799, h3800, he3801, hm⟩ := idx_some hm
                        obtain ⟨_, rfl, hg3802⟩ := (hr3774).elem he3801
                        obtain ⟨y3803, h3804, he3805, hm⟩ := idx_some hm
                        obtain ⟨_, rfl, hg3806⟩ := (hr3774).elem he3805
                        obtain ⟨y3807, h3808, he3809, hm⟩ := idx_some hm
                        obtain ⟨_, rfl, hg3810⟩ := (hr3774).elem he3809
                        refine rgx fm 16 [ph _, ph _, ph _, ph _, ph _, ph _, ph _, ph _, ph (.pointer (some ((Value.base (v0)).add ((IntKind.i64.wrap (n3775 - 1) : Int).toNat * Rep.sz S_api_TelemetryMsg)))), ph (.agg [.string (y3799.Point), .int .i64 (y3799.Number), .int .i64 (y3799.Time), .int .i64 (y3799.Value)].toArray), ph _, ph _, ph (.pointer (some ((Value.base (v0)).add ((n3775 : Int).toNat * Rep.sz S_api_TelemetryMsg)))), ph (.agg [.string (y3803.Point), .int .i64 (y3803.Number), .int .i64 (y3803.Time), .int .i64 (y3803.Value)].toArray), ph (.pointer (some ((Value.base (v0)).add ((n3775 : Int).toNat * Rep.sz S_api_TelemetryMsg)))), (fun H rs v => ∃ xs3818 : List Value, [.row v0 29 (Rep.sz S_api_TelemetryMsg) (l3773.set ((n3775 : Int).toNat) y3799).length xs3818] = rs ∧ .pointer (some ((Value.base (v0)).add ((n3775 : Int).toNat * Rep.sz S_api_TelemetryMsg))) = v ∧ Rw H v0 xs3818 (l3773.set ((n3775 : Int).toNat) y3799))] (sp 16 [(15, [16])]) (sp 16 [(8, [16]), (9, [16]), (12, [16]), (13, [16]), (14, [16])]) [0] [0, 1, 2, 3, 4, 5, 6, 7, 8, 9, 10, 11, 12, 13, 14, 15] rfl ⟨om, om, om, om, om, om, om, om, ?_, ?_, om, om, ?_, ?_, ?_, ?_, trivial⟩ ?_
                        · intro HX hX X Rest hR
                          rintro _ _ ⟨rfl, rfl⟩
                          rintro _ _ ⟨rfl, rfl⟩
                          intro hU hUp
                          have hU2 : ∀ s ∈ [.row v0 29 (Rep.sz S_api_TelemetryMsg) l3773.length xs3772], s ∈ Rest := hU
                          refine W_indexO (hU2 _ (List.mem_cons_self ..)) rfl rfl Proofs.Try.runUnderlying27 Proofs.Try.sizeOf29 rfl rfl h3800 (List.getElem?_eq_some_iff.1 he3801).1 ?_
                          exact o0 ⟨rfl, rfl⟩
                        · intro HX hX X Rest hR
                          rintro _ _ ⟨rfl, rfl⟩
                          intro hU hUp
                          have hU2 : ∀ s ∈ [.row v0 29 (Rep.sz S_api_TelemetryMsg) l3773.length xs3772], s ∈ Rest := hU
                          refine W_loadAgg (cs := [.string (y3799.Point), .int .i64 (y3799.Number), .int .i64 (y3799.Time), .int .i64 (y3799.Value)]) rfl rfl Proofs.Try.isAgg29 Proofs.Try.sizeOf29 rfl (row_cells (hU2 _ (List.mem_cons_self ..)) hg3802) rfl ?_
                          exact o0 ⟨rfl, rfl⟩
                        · intro HX hX X Rest hR
                          rintro _ _ ⟨rfl, rfl⟩
                          rintro _ _ ⟨rfl, rfl⟩
                          intro hU hUp
                          have hU2 : ∀ s ∈ [.row v0 29 (Rep.sz S_api_TelemetryMsg) l3773.length xs3772], s ∈ Rest := hU
                          refine W_indexO (hU2 _ (List.mem_cons_self ..)) rfl rfl Proofs.Try.runUnderlying27 Proofs.Try.sizeOf29 rfl rfl h3804 (List.getElem?_eq_some_iff.1 he3805).1 ?_
                          exact o0 ⟨rfl, rfl⟩
                        · intro HX hX X Rest hR
                          rintro _ _ ⟨rfl, rfl⟩
                          intro hU hUp
                          have hU2 : ∀ s ∈ [.row v0 29 (Rep.sz S_api_TelemetryMsg) l3773.length xs3772], s ∈ Rest := hU
                          refine W_loadAgg (cs := [.string (y3803.Point), .int .i64 (y3803.Number), .int .i64 (y3803.Time), .int .i64 (y3803.Value)]) rfl rfl Proofs.Try.isAgg29 Proofs.Try.sizeOf29 rfl (row_cells (hU2 _ (List.mem_cons_self ..)) hg3806) rfl ?_
                          exact o0 ⟨rfl, rfl⟩
                        · intro HX hX X Rest hR
                          rintro _ _ ⟨rfl, rfl⟩
                          rintro _ _ ⟨rfl, rfl⟩
                          rintro _ _ ⟨rfl, rfl⟩
                          rintro _ _ ⟨rfl, rfl⟩
                          rintro _ _ ⟨rfl, rfl⟩
                          rintro _ _ ⟨rfl, rfl⟩
                          rintro _ _ ⟨rfl, rfl⟩
                          rintro _ _ ⟨rfl, rfl⟩
                          rintro _ _ ⟨rfl, rfl⟩
                          rintro _ _ ⟨rfl, rfl⟩
                          intro hU hUp
                          have hU2 : ∀ s ∈ [.row v0 29 (Rep.sz S_api_TelemetryMsg) l3773.length xs3772], s ∈ Rest := hU
                          refine W_indexO (hU2 _ (List.mem_cons_self ..)) rfl rfl Proofs.Try.runUnderlying27 Proofs.Try.sizeOf29 rfl rfl h3808 (List.getElem?_eq_some_iff.1 he3809).1 ?_
                          exact o0 ⟨rfl, rfl⟩
                        · intro HX hX X Rest hR
                          rintro _ _ ⟨rfl, rfl⟩
                          rintro _ _ ⟨rfl, rfl⟩
                          rintro _ _ ⟨rfl, rfl⟩
                          rintro _ _ ⟨rfl, rfl⟩
                          rintro _ _ ⟨rfl, rfl⟩
                          rintro _ _ ⟨rfl, rfl⟩
                          rintro _ _ ⟨rfl, rfl⟩
                          rintro _ _ ⟨rfl, rfl⟩
                          rintro _ _ ⟨rfl, rfl⟩
                          rintro _ _ ⟨rfl, rfl⟩
                          intro hU hUp
                          refine Wp [0] ?_
                          obtain ⟨hr3815, he3816, hg3817⟩ := Rw.put (cs := [.string (y3799.Point), .int .i64 (y3799.Number), .int .i64 (y3799.Time), .int .i64 (y3799.Value)]) (o := 0) (c := [.string (y3807.Point), .int .i64 (y3807.Number), .int .i64 (y3807.Time), .int .i64 (y3807.Value)]) (out := [.string (y3799.Point), .int .i64 (y3799.Number), .int .i64 (y3799.Time), .int .i64 (y3799.Value)]) (e2 := y3799) ((hr3774.mono hle3797).mono hX) he3809 rfl hg3810 rfl rfl rfl
                          refine W_storeO2 (i := (n3775 : Int).toNat * Rep.sz S_api_TelemetryMsg + 0) (cs := [.string (y3799.Point), .int .i64 (y3799.Number), .int .i64 (y3799.Time), .int .i64 (y3799.Value)]) rfl Proofs.Try.sizeOf29 rfl (row_ad0 _ _) rfl rfl rfl (Rw.room ((hr3774.mono hle3797).mono hX) he3809 rfl) rfl (all_cons rfl (all_cons rfl (all_cons rfl (all_cons rfl all_nil)))) (n' := (l3773.set ((n3775 : Int).toNat) y3799).length) List.length_set ?_
                          generalize over xs3772 ((n3775 : Int).toNat * Rep.sz S_api_TelemetryMsg + 0) [.string (y3799.Point), .int .i64 (y3799.Number), .int .i64 (y3799.Time), .int .i64 (y3799.Value)] = xs3818 at hr3815 hg3817 ⊢
                          exact W_end (OneT_endL rfl [.row v0 29 (Rep.sz S_api_TelemetryMsg) (l3773.set ((n3775 : Int).toNat) y3799).length xs3818] (Hp.le_refl _) ⟨xs3818, rfl, rfl, (hr3815)⟩)
                        intro H3819 hle3820
                        rintro _ _ ⟨rfl, rfl⟩
                        rintro _ _ ⟨rfl, rfl⟩
                        rintro _ _ ⟨rfl, rfl⟩
                        rintro _ _ ⟨rfl, rfl⟩
                        rintro _ _ ⟨rfl, rfl⟩
                        rintro _ _ ⟨rfl, rfl⟩
                        rintro _ _ ⟨rfl, rfl⟩
                        rintro _ _ ⟨rfl, rfl⟩
                        rintro _ _ ⟨rfl, rfl⟩
                        rintro _ _ ⟨rfl, rfl⟩
                        rintro _ _ ⟨rfl, rfl⟩
                        rintro _ _ ⟨rfl, rfl⟩
                        rintro _ _ ⟨rfl, rfl⟩
                        rintro _ _ ⟨rfl, rfl⟩
                        rintro _ _ ⟨rfl, rfl⟩
                        rintro _ _ _ ⟨xs3818, rfl, _, hr3815⟩
                        refine isW ?_
                        refine Wp [0] ?_
                        obtain ⟨y3821, h3822, he3823, hm⟩ := idx_some hm
                        refine W_indexO (List.mem_cons_self ..) rfl rfl Proofs.Try.runUnderlying27 Proofs.Try.sizeOf29 rfl rfl h3822 (List.getElem?_eq_some_iff.1 he3823).1 ?_
                        obtain ⟨_, rfl, hg3824⟩ := (hr3815).elem he3823
                        obtain ⟨hr3825, he3826, hg3827⟩ := Rw.put (cs := [.string (y3803.Point), .int .i64 (y3803.Number), .int .i64 (y3803.Time), .int .i64 (y3803.Value)]) (o := 0) (c := [.string (y3821.Point), .int .i64 (y3821.Number), .int .i64 (y3821.Time), .int .i64 (y3821.Value)]) (out := [.string (y3803.Point), .int .i64 (y3803.Number), .int .i64 (y3803.Time), .int .i64 (y3803.Value)]) (e2 := y3803) hr3815 he3823 rfl hg3824 rfl rfl rfl
                        refine W_storeO2 (i := (IntKind.i64.wrap (n3775 - 1) : Int).toNat * Rep.sz S_api_TelemetryMsg + 0) (cs := [.string (y3803.Point), .int .i64 (y3803.Number), .int .i64 (y3803.Time), .int .i64 (y3803.Value)]) rfl Proofs.Try.sizeOf29 rfl (row_ad0 _ _) rfl rfl rfl (Rw.room hr3815 he3823 rfl) rfl (all_cons rfl (all_cons rfl (all_cons rfl (all_cons rfl all_nil)))) (n' := ((l3773.set ((n3775 : Int).toNat) y3799).set ((IntKind.i64.wrap (n3775 - 1) : Int).toNat) y3803).length) List.length_set ?_
                        generalize over xs3818 ((IntKind.i64.wrap (n3775 - 1) : Int).toNat * Rep.sz S_api_TelemetryMsg + 0) [.string (y3803.Point), .int .i64 (y3803.Number), .int .i64 (y3803.Time), .int .i64 (y3803.Value)] = xs3828 at hr3825 hg3827 ⊢
                        refine W_end ?_
                        refine E_normal_block ?_
                        refine E_then ?_
                        refine C_region ?_
                        refine W_move rfl rfl rfl ?_
                        refine W_bin rfl rfl rfl rfl rfl ?_
                        refine W_assign rfl rfl rfl ?_
                        refine W_end ?_
                        exact kj (E_back (Nat.lt_succ_self _) ⟨_, _, _, ((congrFun hn3780 _).trans hm), hr3825, (Hp.le_trans (Hp.le_trans hle3777 hle3797) hle3820), rfl, rfl⟩)
                    · refine C_exit ?_
                      refine E_exit_then ?_
                      refine E_exit_then ?_
                      refine E_exit_hit ?_
                      refine E_normal_block ?_
                      exact kj (J3405 _ _ _ ⟨_, _, _, hm, hr3774, (Hp.le_trans (Hp.le_trans (Hp.le_trans hle3471 hle3496) hle3670) hle3777), rfl, rfl⟩)
                · refine C_skip ?_
                  refine E_normal_block ?_
                  exact kj (J3405 _ _ _ ⟨_, _, _, hm, hr3668, (Hp.le_trans (Hp.le_trans hle3471 hle3496) hle3670), rfl, rfl⟩)
              · refine C_seq ?_
                refine C_region ?_
                refine W_move rfl rfl rfl ?_
                refine W_move rfl rfl rfl ?_
                refine W_bin rfl rfl rfl rfl rfl ?_
                refine W_bin rfl rfl rfl rfl rfl ?_
                refine W_end ?_
                refine E_then ?_
                refine cd hm rfl (fun hb3832 hm => ?_) (fun hb3832 hm => ?_)
                · refine C_seq ?_
                  refine C_region ?_
                  refine W_move rfl rfl rfl ?_
                  refine W_bin rfl rfl rfl rfl rfl ?_
                  refine W_assign rfl rfl rfl ?_
                  refine W_end ?_
                  refine E_then ?_
                  refine C_block ?_
                  obtain ⟨J3989, hm3990, hm3991, hm⟩ := loopF_nm hm
                  refine cl [(0, _), (1, _), (2, _), (3, _), (9, _), (10, _)] [] 1 [] 0 (fun u m n H' M' L' => ∃ l3933 : List S_api_TelemetryMsg, ∃ n3935 : Int, ∃ xs3932 : List Value, J3989 n (l3933, n3935) = some r ∧ Rw H' v0 xs3932 l3933 ∧ H3495.le H' ∧ .row v0 29 (Rep.sz S_api_TelemetryMsg) l3933.length xs3932 :: m = M' ∧ (11, .int .i64 (n3935)) :: u = L') FUEL rfl ⟨_, _, _, hm, hr3501, (Hp.le_refl _), rfl, rfl⟩ ?_
                  rintro n3941 H3936 _ _ ⟨l3933, n3935, xs3932, hm, hr3934, hle3937, rfl, rfl⟩
                  cases n3941 with
                  | zero => exact nomatch (hm3991 _).symm.trans hm
                  | succ n3941 =>
                    have hm := (hm3990 _ _).symm.trans hm
                    generalize hn3940 : J3989 n3941 = nx3939 at hm
                    try dsimp only at hm
                    unfold m_slices_partialInsertionSortCmpFunc_api_TelemetryMsg__telemetry_Points_List_1_b44 at hm
                    refine C_seq ?_
                    refine C_seq ?_
                    refine C_region ?_
                    refine W_move rfl rfl rfl ?_
                    refine W_bin rfl rfl rfl rfl rfl ?_
                    refine W_end ?_
                    refine E_then ?_
                    refine cd hm rfl (fun hb3947 hm => ?_) (fun hb3947 hm => ?_)
                    · refine C_skip ?_
                      refine E_then ?_
                      refine C_seq ?_
                      refine C_block ?_
                      refine C_seq ?_
                      refine C_seq ?_
                      obtain ⟨y3948, h3949, he3950, hm⟩ := idx_some hm
                      obtain ⟨_, rfl, hg3951⟩ := (hr3934).elem he3950
                      obtain ⟨y3952, h3953, he3954, hm⟩ := idx_some hm
                      obtain ⟨_, rfl, hg3955⟩ := (hr3934).elem he3954
                      refine rgp fm 10 [ph _, ph _, ph _, ph (.pointer (some ((Value.base (v0)).add ((n3935 : Int).toNat * Rep.sz S_api_TelemetryMsg)))), ph (.agg [.string (y3948.Point), .int .i64 (y3948.Number), .int .i64 (y3948.Time), .int .i64 (y3948.Value)].toArray), ph _, ph _, ph _, ph (.pointer (some ((Value.base (v0)).add ((IntKind.i64.wrap (n3935 - 1) : Int).toNat * Rep.sz S_api_TelemetryMsg)))), ph (.agg [.string (y3952.Point), .int .i64 (y3952.Number), .int .i64 (y3952.Time), .int .i64 (y3952.Value)].toArray)] ⟨om, om, om, ?_, ?_, om, om, om, ?_, ?_, trivial⟩ ?_
                      · intro HX hX X Rest hR
                        rintro _ _ ⟨rfl, rfl⟩
                        rintro _ _ ⟨rfl, rfl⟩
                        intro hU hUp
                        refine W_indexO (hR _ (List.mem_cons_self ..)) rfl rfl Proofs.Try.runUnderlying27 Proofs.Try.sizeOf29 rfl rfl h3949 (List.getElem?_eq_some_iff.1 he3950).1 ?_
                        exact o0 ⟨rfl, rfl⟩
                      · intro HX hX X Rest hR
                        rintro _ _ ⟨rfl, rfl⟩
                        intro hU hUp
                        refine W_loadAgg (cs := [.string (y3948.Point), .int .i64 (y3948.Number), .int .i64 (y3948.Time), .int .i64 (y3948.Value)]) rfl rfl Proofs.Try.isAgg29 Proofs.Try.sizeOf29 rfl (row_cells (hR _ (List.mem_cons_self ..)) hg3951) rfl ?_
                        exact o0 ⟨rfl, rfl⟩
                      · intro HX hX X Rest hR
                        rintro _ _ ⟨rfl, rfl⟩
                        rintro _ _ ⟨rfl, rfl⟩
                        intro hU hUp
                        refine W_indexO (hR _ (List.mem_cons_self ..)) rfl rfl Proofs.Try.runUnderlying27 Proofs.Try.sizeOf29 rfl rfl h3953 (List.getElem?_eq_some_iff.1 he3954).1 ?_
                        exact o0 ⟨rfl, rfl⟩
                      · intro HX hX X Rest hR
                        rintro _ _ ⟨rfl, rfl⟩
                        intro hU hUp
                        refine W_loadAgg (cs := [.string (y3952.Point), .int .i64 (y3952.Number), .int .i64 (y3952.Time), .int .i64 (y3952.Value)]) rfl rfl Proofs.Try.isAgg29 Proofs.Try.sizeOf29 rfl (row_cells (hR _ (List.mem_cons_self ..)) hg3955) rfl ?_
                        exact o0 ⟨rfl, rfl⟩
                      intro H3956 hle3957
                      rintro _ _ ⟨rfl, rfl⟩
                      rintro _ _ ⟨rfl, rfl⟩
                      rintro _ _ ⟨rfl, rfl⟩
                      rintro _ _ ⟨rfl, rfl⟩
                      rintro _ _ ⟨rfl, rfl⟩
                      rintro _ _ ⟨rfl, rfl⟩
                      rintro _ _ ⟨rfl, rfl⟩
                      rintro _ _ ⟨rfl, rfl⟩
                      rintro _ _ ⟨rfl, rfl⟩
                      rintro _ _ ⟨rfl, rfl⟩
                      refine isW ?_
                      refine W_callv Proofs.Try.call20 rfl rfl rfl rfl (fun w ht => by have h := m_telemetry_Points_List_1_c (hm := (rfl : m_telemetry_Points_List_1 y3948 y3952 = _))  ht; exact h) ?_
                      rintro _ _ _ ⟨rfl, rfl, rfl⟩
                      refine W_bin rfl rfl rfl rfl rfl ?_
                      refine W_un rfl rfl rfl rfl ?_
                      refine W_end ?_
                      refine E_then ?_
                      refine cd hm rfl (fun hb3958 hm => ?_) (fun hb3958 hm => ?_)
                      · refine C_exit ?_
                        refine E_exit_then ?_
                        refine E_exit_miss rfl ?_
                        refine E_exit_then ?_
                        refine E_exit_then ?_
                        refine E_exit_hit ?_
                        exact kj (J3671 _ _ _ ⟨_, _, hm, (hr3934.mono hle3957), (Hp.le_trans hle3937 hle3957), rfl, rfl⟩)
                      · refine C_skip ?_
                        refine E_then ?_
                        obtain ⟨y3959, h3960, he3961, hm⟩ := idx_some hm
                        obtain ⟨_, rfl, hg3962⟩ := (hr3934).elem he3961
                        obtain ⟨y3963, h3964, he3965, hm⟩ := idx_some hm
                        obtain ⟨_, rfl, hg3966⟩ := (hr3934).elem he3965
                        obtain ⟨y3967, h3968, he3969, hm⟩ := idx_some hm
                        obtain ⟨_, rfl, hg3970⟩ := (hr3934).elem he3969
                        refine rgx fm 16 [ph _, ph _, ph _, ph _, ph _, ph _, ph _, ph _, ph (.pointer (some ((Value.base (v0)).add ((IntKind.i64.wrap (n3935 - 1) : Int).toNat * Rep.sz S_api_TelemetryMsg)))), ph (.agg [.string (y3959.Point), .int .i64 (y3959.Number), .int .i64 (y3959.Time), .int .i64 (y3959.Value)].toArray), ph _, ph _, ph (.pointer (some ((Value.base (v0)).add ((n3935 : Int).toNat * Rep.sz S_api_TelemetryMsg)))), ph (.agg [.string (y3963.Point), .int .i64 (y3963.Number), .int .i64 (y3963.Time), .int .i64 (y3963.Value)].toArray), ph (.pointer (some ((Value.base (v0)).add ((n3935 : Int).toNat * Rep.sz S_api_TelemetryMsg)))), (fun H rs v => ∃ xs3978 : List Value, [.row v0 29 (Rep.sz S_api_TelemetryMsg) (l3933.set ((n3935 : Int).toNat) y3959).length xs3978] = rs ∧ .pointer (some ((Value.base (v0)).add ((n3935 : Int).toNat * Rep.sz S_api_TelemetryMsg))) = v ∧ Rw H v0 xs3978 (l3933.set ((n3935 : Int).toNat) y3959))] (sp 16 [(15, [16])]) (sp 16 [(8, [16]), (9, [16]), (12, [16]), (13, [16]), (14, [16])]) [0] [0, 1, 2, 3, 4, 5, 6, 7, 8, 9, 10, 11, 12, 13, 14, 15] rfl ⟨om, om, om, om, om, om, om, om, ?_, ?_, om, om, ?_, ?_, ?_, ?_, trivial⟩ ?_
                        · intro HX hX X Rest hR
                          rintro _ _ ⟨rfl, rfl⟩
                          rintro _ _ ⟨rfl, rfl⟩
                          intro hU hUp
                          have hU2 : ∀ s ∈ [.row v0 29 (Rep.sz S_api_TelemetryMsg) l3933.length xs3932], s ∈ Rest := hU
                          refine W_indexO (hU2 _ (List.mem_cons_self ..)) rfl rfl Proofs.Try.runUnderlying27 Proofs.Try.sizeOf29 rfl rfl h3960 (List.getElem?_eq_some_iff.1 he3961).1 ?_
                          exact o0 ⟨rfl, rfl⟩
                        · intro HX hX X Rest hR
                          rintro _ _ ⟨rfl, rfl⟩
                          intro hU hUp
                          have hU2 : ∀ s ∈ [.row v0 29 (Rep.sz S_api_TelemetryMsg) l3933.length xs3932], s ∈ Rest := hU
                          refine W_loadAgg (cs := [.string (y3959.Point), .int .i64 (y3959.Number), .int .i64 (y3959.Time), .int .i64 (y3959.Value)]) rfl rfl Proofs.Try.isAgg29 Proofs.Try.sizeOf29 rfl (row_cells (hU2 _ (List.mem_cons_self ..)) hg3962) rfl ?_
                          exact o0 ⟨rfl, rfl⟩
                        · intro HX hX X Rest hR
                          rintro _ _ ⟨rfl, rfl⟩
                          rintro _ _ ⟨rfl, rfl⟩
                          intro hU hUp
                          have hU2 : ∀ s ∈ [.row v0 29 (Rep.sz S_api_TelemetryMsg) l3933.length xs3932], s ∈ Rest := hU
                          refine W_indexO (hU2 _ (List.mem_cons_self ..)) rfl rfl Proofs.Try.runUnderlying27 Proofs.Try.sizeOf29 rfl rfl h3964 (List.getElem?_eq_some_iff.1 he3965).1 ?_
                          exact o0 ⟨rfl, rfl⟩
                        · intro HX hX X Rest hR
                          rintro _ _ ⟨rfl, rfl⟩
                          intro hU hUp
                          have hU2 : ∀ s ∈ [.row v0 29 (Rep.sz S_api_TelemetryMsg) l3933.length xs3932], s ∈ Rest := hU
                          refine W_loadAgg (cs := [.string (y3963.Point), .int .i64 (y3963.Number), .int .i64 (y3963.Time), .int .i64 (y3963.Value)]) rfl rfl Proofs.Try.isAgg29 Proofs.Try.sizeOf29 rfl (row_cells (hU2 _ (List.mem_cons_self ..)) hg3966) rfl ?_
                          exact o0 ⟨rfl, rfl⟩
                        · intro HX hX X Rest hR
                          rintro _ _ ⟨rfl, rfl⟩
                          rintro _ _ ⟨rfl, rfl⟩
                          rintro _ _ ⟨rfl, rfl⟩
                          rintro _ _ ⟨rfl, rfl⟩
                          rintro _ _ ⟨rfl, rfl⟩
                          rintro _ _ ⟨rfl, rfl⟩
                          rintro _ _ ⟨rfl, rfl⟩
                          rintro _ _ ⟨rfl, rfl⟩
                          rintro _ _ ⟨rfl, rfl⟩
                          rintro _ _ ⟨rfl, rfl⟩
                          intro hU hUp
                          have hU2 : ∀ s ∈ [.row v0 29 (Rep.sz S_api_TelemetryMsg) l3933.length xs3932], s ∈ Rest := hU
                          refine W_indexO (hU2 _ (List.mem_cons_self ..)) rfl rfl Proofs.Try.runUnderlying27 Proofs.Try.sizeOf29 rfl rfl h3968 (List.getElem?_eq_some_iff.1 he3969).1 ?_
                          exact o0 ⟨rfl, rfl⟩
                        · intro HX hX X Rest hR
                          rintro _ _ ⟨rfl, rfl⟩
                          rintro _ _ ⟨rfl, rfl⟩
                          rintro _ _ ⟨rfl, rfl⟩
                          rintro _ _ ⟨rfl, rfl⟩
                          rintro _ _ ⟨rfl, rfl⟩
                          rintro _ _ ⟨rfl, rfl⟩
                          rintro _ _ ⟨rfl, rfl⟩
                          rintro _ _ ⟨rfl, rfl⟩
                          rintro _ _ ⟨rfl, rfl⟩
                          rintro _ _ ⟨rfl, rfl⟩
                          intro hU hUp
                          refine Wp [0] ?_
                          obtain ⟨hr3975, he3976, hg3977⟩ := Rw.put (cs := [.string (y3959.Point), .int .i64 (y3959.Number), .int .i64 (y3959.Time), .int .i64 (y3959.Value)]) (o := 0) (c := [.string (y3967.Point), .int .i64 (y3967.Number), .int .i64 (y3967.Time), .int .i64 (y3967.Value)]) (out := [.string (y3959.Point), .int .i64 (y3959.Number), .int .i64 (y3959.Time), .int .i64 (y3959.Value)]) (e2 := y3959) ((hr3934.mono hle3957).mono hX) he3969 rfl hg3970 rfl rfl rfl
                          refine W_storeO2 (i := (n3935 : Int).toNat * Rep.sz S_api_TelemetryMsg + 0) (cs := [.string (y3959.Point), .int .i64 (y3959.Number), .int .i64 (y3959.Time), .int .i64 (y3959.Value)]) rfl Proofs.Try.sizeOf29 rfl (row_ad0 _ _) rfl rfl rfl (Rw.room ((hr3934.mono hle3957).mono hX) he3969 rfl) rfl (all_cons rfl (all_cons rfl (all_cons rfl (all_cons rfl all_nil)))) (n' := (l3933.set ((n3935 : Int).toNat) y3959).length) List.length_set ?_
                          generalize over xs3932 ((n3935 : Int).toNat * Rep.sz S_api_TelemetryMsg + 0) [.string (y3959.Point), .int .i64 (y3959.Number), .int .i64 (y3959.Time), .int .i64 (y3959.Value)] = xs3978 at hr3975 hg3977 ⊢
                          exact W_end (OneT_endL rfl [.row v0 29 (Rep.sz S_api_TelemetryMsg) (l3933.set ((n3935 : Int).toNat) y3959).length xs3978] (Hp.le_refl _) ⟨xs3978, rfl, rfl, (hr3975)⟩)
                        intro H3979 hle3980
                        rintro _ _ ⟨rfl, rfl⟩
                        rintro _ _ ⟨rfl, rfl⟩
                        rintro _ _ ⟨rfl, rfl⟩
                        rintro _ _ ⟨rfl, rfl⟩
                        rintro _ _ ⟨rfl, rfl⟩
                        rintro _ _ ⟨rfl, rfl⟩
                        rintro _ _ ⟨rfl, rfl⟩
                        rintro _ _ ⟨rfl, rfl⟩
                        rintro _ _ ⟨rfl, rfl⟩
                        rintro _ _ ⟨rfl, rfl⟩
                        rintro _ _ ⟨rfl, rfl⟩
                        rintro _ _ ⟨rfl, rfl⟩
                        rintro _ _ ⟨rfl, rfl⟩
                        rintro _ _ ⟨rfl, rfl⟩
                        rintro _ _ ⟨rfl, rfl⟩
                        rintro _ _ _ ⟨xs3978, rfl, _, hr3975⟩
                        refine isW ?_
                        refine Wp [0] ?_
                        obtain ⟨y3981, h3982, he3983, hm⟩ := idx_some hm
                        refine W_indexO (List.mem_cons_self ..) rfl rfl Proofs.Try.runUnderlying27 Proofs.Try.sizeOf29 rfl rfl h3982 (List.getElem?_eq_some_iff.1 he3983).1 ?_
                        obtain ⟨_, rfl, hg3984⟩ := (hr3975).elem he3983
                        obtain ⟨hr3985, he3986, hg3987⟩ := Rw.put (cs := [.string (y3963.Point), .int .i64 (y3963.Number), .int .i64 (y3963.Time), .int .i64 (y3963.Value)]) (o := 0) (c := [.string (y3981.Point), .int .i64 (y3981.Number), .int .i64 (y3981.Time), .int .i64 (y3981.Value)]) (out := [.string (y3963.Point), .int .i64 (y3963.Number), .int .i64 (y3963.Time), .int .i64 (y3963.Value)]) (e2 := y3963) hr3975 he3983 rfl hg3984 rfl rfl rfl
                        refine W_storeO2 (i := (IntKind.i64.wrap (n3935 - 1) : Int).toNat * Rep.sz S_api_TelemetryMsg + 0) (cs := [.string (y3963.Point), .int .i64 (y3963.Number), .int .i64 (y3963.Time), .int .i64 (y3963.Value)]) rfl Proofs.Try.sizeOf29 rfl (row_ad0 _ _) rfl rfl rfl (Rw.room hr3975 he3983 rfl) rfl (all_cons rfl (all_cons rfl (all_cons rfl (all_cons rfl all_nil)))) (n' := ((l3933.set ((n3935 : Int).toNat) y3959).set ((IntKind.i64.wrap (n3935 - 1) : Int).toNat) y3963).length) List.length_set ?_
                        generalize over xs3978 ((IntKind.i64.wrap (n3935 - 1) : Int).toNat * Rep.sz S_api_TelemetryMsg + 0) [.string (y3963.Point), .int .i64 (y3963.Number), .int .i64 (y3963.Time), .int .i64 (y3963.Value)] = xs3988 at hr3985 hg3987 ⊢
                        refine W_end ?_
                        refine E_normal_block ?_
                        refine E_then ?_
                        refine C_region ?_
                        refine W_move rfl rfl rfl ?_
                        refine W_bin rfl rfl rfl rfl rfl ?_
                        refine W_assign rfl rfl rfl ?_
                        refine W_end ?_
                        exact kj (E_back (Nat.lt_succ_self _) ⟨_, _, _, ((congrFun hn3940 _).trans hm), hr3985, (Hp.le_trans (Hp.le_trans hle3937 hle3957) hle3980), rfl, rfl⟩)
                    · refine C_exit ?_
                      refine E_exit_then ?_
                      refine E_exit_then ?_
                      refine E_exit_hit ?_
                      exact kj (J3671 _ _ _ ⟨_, _, hm, hr3934, hle3937, rfl, rfl⟩)
                · refine C_skip ?_
                  exact kj (J3671 _ _ _ ⟨_, _, hm, hr3501, (Hp.le_refl _), rfl, rfl⟩)
        · refine C_block ?_
          obtain ⟨J4052, hm4053, hm4054, hm⟩ := loopF_nm hm
          refine cl [(0, _), (1, _), (2, _), (3, _), (10, _)] [] 0 [] 0 (fun u m n H' M' L' => ∃ n4026 : Int, J4052 n n4026 = some r ∧ H2737.le H' ∧ m = M' ∧ (9, .int .i64 (n4026)) :: u = L') FUEL rfl ⟨_, hm, (Hp.le_refl _), rfl, rfl⟩ ?_
          rintro n4032 H4027 _ _ ⟨n4026, hm, hle4028, rfl, rfl⟩
          cases n4032 with
          | zero => exact nomatch (hm4054 _).symm.trans hm
          | succ n4032 =>
            have hm := (hm4053 _ _).symm.trans hm
            generalize hn4031 : J4052 n4032 = nx4030 at hm
            unfold m_slices_partialInsertionSortCmpFunc_api_TelemetryMsg__telemetry_Points_List_1_b46 at hm
            refine C_seq ?_
            refine C_seq ?_
            cases hb4038 : (decide (n4026 < p2_b))
            · have hm := ite_f' hb4038 hm
              refine rgp fm 14 [ph _, ph _, ph (.bool (false)), ph _, ph _, ph _, ph _, ph _, ph _, ph _, ph _, ph _, ph _, ph _] ⟨om, om, omb hb4038, om, om, om, om, om, om, om, om, om, om, om, trivial⟩ ?_
              intro H4039 hle4040
              rintro _ _ ⟨rfl, rfl⟩
              rintro _ _ ⟨rfl, rfl⟩
              rintro _ _ ⟨rfl, rfl⟩
              rintro _ _ ⟨rfl, rfl⟩
              rintro _ _ ⟨rfl, rfl⟩
              rintro _ _ ⟨rfl, rfl⟩
              rintro _ _ ⟨rfl, rfl⟩
              rintro _ _ ⟨rfl, rfl⟩
              rintro _ _ ⟨rfl, rfl⟩
              rintro _ _ ⟨rfl, rfl⟩
              rintro _ _ ⟨rfl, rfl⟩
              rintro _ _ ⟨rfl, rfl⟩
              rintro _ _ ⟨rfl, rfl⟩
              rintro _ _ ⟨rfl, rfl⟩
              refine isW ?_
              refine W_no rfl rfl rfl ?_
              refine W_no rfl rfl rfl ?_
              refine W_no rfl rfl rfl ?_
              refine W_pick rfl rfl rfl rfl ?_
              refine W_end ?_
              refine E_then ?_
              refine cF rfl ?_
              refine C_exit ?_
              refine E_exit_then ?_
              refine E_exit_then ?_
              refine E_exit_hit ?_
              exact kj (J3472 _ _ _ ⟨_, hm, (Hp.le_trans hle4028 hle4040), rfl, rfl⟩)
            · have hm := ite_t' hb4038 hm
              obtain ⟨y4041, h4042, he4043, hm⟩ := idx_some hm
              obtain ⟨_, rfl, hg4044⟩ := (hr2734).elem he4043
              obtain ⟨y4045, h4046, he4047, hm⟩ := idx_some hm
              obtain ⟨_, rfl, hg4048⟩ := (hr2734).elem he4047
              refine rgp fm 14 [ph _, ph _, ph (.bool (true)), ph _, ph _, ph _, ph _, ph (.pointer (some ((Value.base (v0)).add ((n4026 : Int).toNat * Rep.sz S_api_TelemetryMsg)))), ph (.agg [.string (y4041.Point), .int .i64 (y4041.Number), .int .i64 (y4041.Time), .int .i64 (y4041.Value)].toArray), ph _, ph _, ph _, ph (.pointer (some ((Value.base (v0)).add ((IntKind.i64.wrap (n4026 - 1) : Int).toNat * Rep.sz S_api_TelemetryMsg)))), ph (.agg [.string (y4045.Point), .int .i64 (y4045.Number), .int .i64 (y4045.Time), .int .i64 (y4045.Value)].toArray)] ⟨om, om, omb hb4038, om, om, om, om, ?_, ?_, om, om, om, ?_, ?_, trivial⟩ ?_
              · intro HX hX X Rest hR
                rintro _ _ ⟨rfl, rfl⟩
                rintro _ _ ⟨rfl, rfl⟩
                rintro _ _ ⟨rfl, rfl⟩
                intro hU hUp
                refine W_indexO (hR _ (List.mem_cons_self ..)) rfl rfl Proofs.Try.runUnderlying27 Proofs.Try.sizeOf29 rfl rfl h4042 (List.getElem?_eq_some_iff.1 he4043).1 ?_
                exact o0 ⟨rfl, rfl⟩
              · intro HX hX X Rest hR
                rintro _ _ ⟨rfl, rfl⟩
                rintro _ _ ⟨rfl, rfl⟩
                intro hU hUp
                refine W_loadAgg (cs := [.string (y4041.Point), .int .i64 (y4041.Number), .int .i64 (y4041.Time), .int .i64 (y4041.Value)]) rfl rfl Proofs.Try.isAgg29 Proofs.Try.sizeOf29 rfl (row_cells (hR _ (List.mem_cons_self ..)) hg4044) rfl ?_
                exact o0 ⟨rfl, rfl⟩
              · intro HX hX X Rest hR
                rintro _ _ ⟨rfl, rfl⟩
                rintro _ _ ⟨rfl, rfl⟩
                rintro _ _ ⟨rfl, rfl⟩
                intro hU hUp
                refine W_indexO (hR _ (List.mem_cons_self ..)) rfl rfl Proofs.Try.runUnderlying27 Proofs.Try.sizeOf29 rfl rfl h4046 (List.getElem?_eq_some_iff.1 he4047).1 ?_
                exact o0 ⟨rfl, rfl⟩
              · intro HX hX X Rest hR
                rintro _ _ ⟨rfl, rfl⟩
                rintro _ _ ⟨rfl, rfl⟩
                intro hU hUp
                refine W_loadAgg (cs := [.string (y4045.Point), .int .i64 (y4045.Number), .int .i64 (y4045.Time), .int .i64 (y4045.Value)]) rfl rfl Proofs.Try.isAgg29 Proofs.Try.sizeOf29 rfl (row_cells (hR _ (List.mem_cons_self ..)) hg4048) rfl ?_
                exact o0 ⟨rfl, rfl⟩
              intro H4049 hle4050
              rintro _ _ ⟨rfl, rfl⟩
              rintro _ _ ⟨rfl, rfl⟩
              rintro _ _ ⟨rfl, rfl⟩
              rintro _ _ ⟨rfl, rfl⟩
              rintro _ _ ⟨rfl, rfl⟩
              rintro _ _ ⟨rfl, rfl⟩
              rintro _ _ ⟨rfl, rfl⟩
              rintro _ _ ⟨rfl, rfl⟩
              rintro _ _ ⟨rfl, rfl⟩
              rintro _ _ ⟨rfl, rfl⟩
              rintro _ _ ⟨rfl, rfl⟩
              rintro _ _ ⟨rfl, rfl⟩
              rintro _ _ ⟨rfl, rfl⟩
              rintro _ _ ⟨rfl, rfl⟩
              refine isW ?_
              refine W_callv Proofs.Try.call20 rfl rfl rfl rfl (fun w ht => by have h := m_telemetry_Points_List_1_c (hm := (rfl : m_telemetry_Points_List_1 y4041 y4045 = _))  ht; exact h) ?_
              rintro _ _ _ ⟨rfl, rfl, rfl⟩
              refine W_bin rfl rfl rfl rfl rfl ?_
              refine W_un rfl rfl rfl rfl ?_
              refine W_pick rfl rfl rfl rfl ?_
              refine W_end ?_
              refine E_then ?_
              refine cd hm rfl (fun hb4051 hm => ?_) (fun hb4051 hm => ?_)
              · refine C_skip ?_
                refine E_then ?_
                refine C_block ?_
                refine C_region ?_
                refine W_move rfl rfl rfl ?_
                refine W_bin rfl rfl rfl rfl rfl ?_
                refine W_assign rfl rfl rfl ?_
                refine W_end ?_
                refine E_normal_block ?_
                exact kj (E_back (Nat.lt_succ_self _) ⟨_, ((congrFun hn4031 _).trans hm), (Hp.le_trans hle4028 hle4050), rfl, rfl⟩)
              · refine C_exit ?_
                refine E_exit_then ?_
                refine E_exit_then ?_
                refine E_exit_hit ?_
                exact kj (J3472 _ _ _ ⟨_, hm, (Hp.le_trans hle4028 hle4050), rfl, rfl⟩)
    · refine C_exit ?_
      refine E_exit_then ?_
      refine E_exit_then ?_
      refine E_exit_hit ?_
      refine E_then ?_
      refine C_seq ?_
      refine C_region ?_
      refine W_assign rfl rfl rfl ?_
      refine W_end ?_
      refine E_then ?_
      refine C_ret ?_
      obtain rfl := Option.some.inj hm
      refine E_weak hle2738 ?_
      exact end1 rfl rfl ⟨rfl, xs2732, rfl, rfl, (hr2734).toF⟩
end Go.Sim
