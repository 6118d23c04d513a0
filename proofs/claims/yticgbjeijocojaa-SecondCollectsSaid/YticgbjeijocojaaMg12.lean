/-
  Printed by a program: each Go function computes its model, in company.
-/
import Derived.Test.YticgbjeijocojaaMg11
set_option linter.unusedVariables false
set_option linter.unusedSimpArgs false
namespace Go.Sim
open Go Go.Proofs.Try
set_option linter.unusedVariables false
set_option linter.unusedSimpArgs false
set_option maxRecDepth 100000
set_option maxHeartbeats 4000000
theorem m_slices_partitionCmpFunc_api_TelemetryMsg__telemetry_Points_List_1_c {B : Nat} {w0 : Bs Proofs.Try.prog} {w : World} {H : Hp} {M : List Res} {data : (List S_api_TelemetryMsg)} {p1_a : Int} {p2_b : Int} {pivot : Int} {v0 : Value} {xs0 : List Value} {r : Int × Bool × (List S_api_TelemetryMsg)} (hm : m_slices_partitionCmpFunc_api_TelemetryMsg__telemetry_Points_List_1 data p1_a p2_b pivot = some r) (h0 : Rw H v0 xs0 data) (ht : St B w0 H (.row v0 29 (Rep.sz S_api_TelemetryMsg) data.length xs0 :: M) w) :
    Calls Proofs.Try.prog 59 [v0, .int .i64 (p1_a), .int .i64 (p2_b), .int .i64 (pivot), .func (.func 20) [].toArray [].toArray].toArray w (Ret B w0 fun H' M' v => H = H' ∧ ∃ qxs0 : List Value, .row v0 29 (Rep.sz S_api_TelemetryMsg) r.2.2.length qxs0 :: M = M' ∧ .tuple #[.int .i64 (r.1), .bool (r.2.1)] = v ∧ RwF v0 qxs0 r.2.2) := by
  unfold m_slices_partitionCmpFunc_api_TelemetryMsg__telemetry_Points_List_1 at hm
  refine enter Proofs.Try.func59 rfl rfl rfl ht ?_
  refine C_seq ?_
  refine C_region ?_
  refine W_assign rfl rfl rfl ?_
  refine W_assign rfl rfl rfl ?_
  refine W_end ?_
  refine E_then ?_
  refine C_seq ?_
  obtain ⟨y101, h102, he103, hm⟩ := idx_some hm
  obtain ⟨_, rfl, hg104⟩ := (h0).elem he103
  obtain ⟨y105, h106, he107, hm⟩ := idx_some hm
  obtain ⟨_, rfl, hg108⟩ := (h0).elem he107
  obtain ⟨y109, h110, he111, hm⟩ := idx_some hm
  obtain ⟨_, rfl, hg112⟩ := (h0).elem he111
  refine rgx fm 14 [ph _, ph _, ph _, ph _, ph _, ph _, ph (.pointer (some ((Value.base (v0)).add ((pivot : Int).toNat * Rep.sz S_api_TelemetryMsg)))), ph (.agg [.string (y101.Point), .int .i64 (y101.Number), .int .i64 (y101.Time), .int .i64 (y101.Value)].toArray), ph _, ph _, ph (.pointer (some ((Value.base (v0)).add ((p1_a : Int).toNat * Rep.sz S_api_TelemetryMsg)))), ph (.agg [.string (y105.Point), .int .i64 (y105.Number), .int .i64 (y105.Time), .int .i64 (y105.Value)].toArray), ph (.pointer (some ((Value.base (v0)).add ((p1_a : Int).toNat * Rep.sz S_api_TelemetryMsg)))), (fun H rs v => ∃ xs120 : List Value, [.row v0 29 (Rep.sz S_api_TelemetryMsg) (data.set ((p1_a : Int).toNat) y101).length xs120] = rs ∧ .pointer (some ((Value.base (v0)).add ((p1_a : Int).toNat * Rep.sz S_api_TelemetryMsg))) = v ∧ Rw H v0 xs120 (data.set ((p1_a : Int).toNat) y101))] (sp 14 [(13, [14])]) [[], [], [], [], [], [], [14], [14], [], [], [14], [14], [14], []] [0] [0, 1, 2, 3, 4, 5, 6, 7, 8, 9, 10, 11, 12, 13] rfl ⟨om, om, om, om, om, om, ?_, ?_, om, om, ?_, ?_, ?_, ?_, trivial⟩ ?_
  · intro HX hX X Rest hR
    rintro _ _ ⟨rfl, rfl⟩
    rintro _ _ ⟨rfl, rfl⟩
    intro hU hUp
    have hU2 : ∀ s ∈ [.row v0 29 (Rep.sz S_api_TelemetryMsg) data.length xs0], s ∈ Rest := hU
    refine W_indexO (hU2 _ (List.mem_cons_self ..)) rfl rfl Proofs.Try.runUnderlying27 Proofs.Try.sizeOf29 rfl rfl h102 (List.getElem?_eq_some_iff.1 he103).1 ?_
    exact o0 ⟨rfl, rfl⟩
  · intro HX hX X Rest hR
    rintro _ _ ⟨rfl, rfl⟩
    intro hU hUp
    have hU2 : ∀ s ∈ [.row v0 29 (Rep.sz S_api_TelemetryMsg) data.length xs0], s ∈ Rest := hU
    refine W_loadAgg (cs := [.string (y101.Point), .int .i64 (y101.Number), .int .i64 (y101.Time), .int .i64 (y101.Value)]) rfl rfl Proofs.Try.isAgg29 Proofs.Try.sizeOf29 rfl (row_cells (hU2 _ (List.mem_cons_self ..)) hg104) rfl ?_
    exact o0 ⟨rfl, rfl⟩
  · intro HX hX X Rest hR
    rintro _ _ ⟨rfl, rfl⟩
    rintro _ _ ⟨rfl, rfl⟩
    intro hU hUp
    have hU2 : ∀ s ∈ [.row v0 29 (Rep.sz S_api_TelemetryMsg) data.length xs0], s ∈ Rest := hU
    refine W_indexO (hU2 _ (List.mem_cons_self ..)) rfl rfl Proofs.Try.runUnderlying27 Proofs.Try.sizeOf29 rfl rfl h106 (List.getElem?_eq_some_iff.1 he107).1 ?_
    exact o0 ⟨rfl, rfl⟩
  · intro HX hX X Rest hR
    rintro _ _ ⟨rfl, rfl⟩
    intro hU hUp
    have hU2 : ∀ s ∈ [.row v0 29 (Rep.sz S_api_TelemetryMsg) data.length xs0], s ∈ Rest := hU
    refine W_loadAgg (cs := [.string (y105.Point), .int .i64 (y105.Number), .int .i64 (y105.Time), .int .i64 (y105.Value)]) rfl rfl Proofs.Try.isAgg29 Proofs.Try.sizeOf29 rfl (row_cells (hU2 _ (List.mem_cons_self ..)) hg108) rfl ?_
    exact o0 ⟨rfl, rfl⟩
  · intro HX hX X Rest hR
    rintro _ _ ⟨rfl, rfl⟩
    rintro _ _ ⟨rfl, rfl⟩
    rintro _ _ ⟨rfl, rfl⟩
    rintro _ _ ⟨rfl, rfl⟩
    rintro _ _ ⟨rfl, rfl⟩
    rintro _ _ ⟨rfl, rfl⟩
    rintro _ _ ⟨rfl, rfl⟩
    rintro _ _ ⟨rfl, rfl⟩
    rintro _ _ ⟨rfl, rfl⟩
    intro hU hUp
    have hU2 : ∀ s ∈ [.row v0 29 (Rep.sz S_api_TelemetryMsg) data.length xs0], s ∈ Rest := hU
    refine W_indexO (hU2 _ (List.mem_cons_self ..)) rfl rfl Proofs.Try.runUnderlying27 Proofs.Try.sizeOf29 rfl rfl h110 (List.getElem?_eq_some_iff.1 he111).1 ?_
    exact o0 ⟨rfl, rfl⟩
  · intro HX hX X Rest hR
    rintro _ _ ⟨rfl, rfl⟩
    rintro _ _ ⟨rfl, rfl⟩
    rintro _ _ ⟨rfl, rfl⟩
    rintro _ _ ⟨rfl, rfl⟩
    rintro _ _ ⟨rfl, rfl⟩
    rintro _ _ ⟨rfl, rfl⟩
    rintro _ _ ⟨rfl, rfl⟩
    rintro _ _ ⟨rfl, rfl⟩
    rintro _ _ ⟨rfl, rfl⟩
    intro hU hUp
    refine Wp [0] ?_
    obtain ⟨hr117, he118, hg119⟩ := Rw.put (cs := [.string (y101.Point), .int .i64 (y101.Number), .int .i64 (y101.Time), .int .i64 (y101.Value)]) (o := 0) (c := [.string (y109.Point), .int .i64 (y109.Number), .int .i64 (y109.Time), .int .i64 (y109.Value)]) (out := [.string (y101.Point), .int .i64 (y101.Number), .int .i64 (y101.Time), .int .i64 (y101.Value)]) (e2 := y101) (h0.mono hX) he111 rfl hg112 rfl rfl rfl
    refine W_storeO2 (i := (p1_a : Int).toNat * Rep.sz S_api_TelemetryMsg + 0) (cs := [.string (y101.Point), .int .i64 (y101.Number), .int .i64 (y101.Time), .int .i64 (y101.Value)]) rfl Proofs.Try.sizeOf29 rfl (row_ad0 _ _) rfl rfl rfl (Rw.room (h0.mono hX) he111 rfl) rfl (all_cons rfl (all_cons rfl (all_cons rfl (all_cons rfl all_nil)))) (n' := (data.set ((p1_a : Int).toNat) y101).length) List.length_set ?_
    generalize over xs0 ((p1_a : Int).toNat * Rep.sz S_api_TelemetryMsg + 0) [.string (y101.Point), .int .i64 (y101.Number), .int .i64 (y101.Time), .int .i64 (y101.Value)] = xs120 at hr117 hg119 ⊢
    exact W_end (OneT_endL rfl [.row v0 29 (Rep.sz S_api_TelemetryMsg) (data.set ((p1_a : Int).toNat) y101).length xs120] (Hp.le_refl _) ⟨xs120, rfl, rfl, (hr117)⟩)
  intro H121 hle122
  rintro _ _ ⟨rfl, rfl⟩
  rintro _ _ ⟨rfl, rfl⟩
  rintro _ _ ⟨rfl, rfl⟩
  rintro _ _ ⟨rfl, rfl⟩
  rintro _ _ ⟨rfl, rfl⟩
  rintro _ _ ⟨rfl, rfl⟩
  rintro _ _ ⟨rfl, rfl⟩
  rintro _ _ ⟨rfl, rfl⟩
  rintro _ _ ⟨rfl, rfl⟩
  rintro _ _ ⟨rfl, rfl⟩
  rintro _ _ ⟨rfl, rfl⟩
  rintro _ _ ⟨rfl, rfl⟩
  rintro _ _ ⟨rfl, rfl⟩
  rintro _ _ _ ⟨xs120, rfl, _, hr117⟩
  refine isW ?_
  refine Wp [0] ?_
  obtain ⟨y123, h124, he125, hm⟩ := idx_some hm
  refine W_indexO (List.mem_cons_self ..) rfl rfl Proofs.Try.runUnderlying27 Proofs.Try.sizeOf29 rfl rfl h124 (List.getElem?_eq_some_iff.1 he125).1 ?_
  obtain ⟨_, rfl, hg126⟩ := (hr117).elem he125
  obtain ⟨hr127, he128, hg129⟩ := Rw.put (cs := [.string (y105.Point), .int .i64 (y105.Number), .int .i64 (y105.Time), .int .i64 (y105.Value)]) (o := 0) (c := [.string (y123.Point), .int .i64 (y123.Number), .int .i64 (y123.Time), .int .i64 (y123.Value)]) (out := [.string (y105.Point), .int .i64 (y105.Number), .int .i64 (y105.Time), .int .i64 (y105.Value)]) (e2 := y105) hr117 he125 rfl hg126 rfl rfl rfl
  refine W_storeO2 (i := (pivot : Int).toNat * Rep.sz S_api_TelemetryMsg + 0) (cs := [.string (y105.Point), .int .i64 (y105.Number), .int .i64 (y105.Time), .int .i64 (y105.Value)]) rfl Proofs.Try.sizeOf29 rfl (row_ad0 _ _) rfl rfl rfl (Rw.room hr117 he125 rfl) rfl (all_cons rfl (all_cons rfl (all_cons rfl (all_cons rfl all_nil)))) (n' := ((data.set ((p1_a : Int).toNat) y101).set ((pivot : Int).toNat) y105).length) List.length_set ?_
  generalize over xs120 ((pivot : Int).toNat * Rep.sz S_api_TelemetryMsg + 0) [.string (y105.Point), .int .i64 (y105.Number), .int .i64 (y105.Time), .int .i64 (y105.Value)] = xs130 at hr127 hg129 ⊢
  refine W_end ?_
  refine E_then ?_
  refine C_seq ?_
  refine C_region ?_
  refine W_move rfl rfl rfl ?_
  refine W_bin rfl rfl rfl rfl rfl ?_
  refine W_move rfl rfl rfl ?_
  refine W_bin rfl rfl rfl rfl rfl ?_
  refine W_assign rfl rfl rfl ?_
  refine W_assign rfl rfl rfl ?_
  refine W_end ?_
  refine E_then ?_
  refine cj [(0, _), (1, _), (4, _), (13, _)] [] 0 (fun u m H' M' L' => ∃ n194 : Int, m_slices_partitionCmpFunc_api_TelemetryMsg__telemetry_Points_List_1_b44 data p1_a p2_b pivot y101 y105 n194 = some r ∧ H121.le H' ∧ m = M' ∧ (12, .int .i64 (n194)) :: u = L') ?_ (fun J197 => ?_)
  · rintro H195 _ _ ⟨n194, hm, hle196, rfl, rfl⟩
    unfold m_slices_partitionCmpFunc_api_TelemetryMsg__telemetry_Points_List_1_b44 at hm
    refine cj [(0, _), (1, _), (4, _), (12, _)] [] 0 (fun u m H' M' L' => ∃ n261 : Int, m_slices_partitionCmpFunc_api_TelemetryMsg__telemetry_Points_List_1_b42 data p1_a pivot y101 y105 n194 n261 = some r ∧ H195.le H' ∧ m = M' ∧ (13, .int .i64 (n261)) :: u = L') ?_ (fun J264 => ?_)
    · rintro H262 _ _ ⟨n261, hm, hle263, rfl, rfl⟩
      unfold m_slices_partitionCmpFunc_api_TelemetryMsg__telemetry_Points_List_1_b42 at hm
      refine C_seq ?_
      refine C_seq ?_
      refine C_region ?_
      refine W_move rfl rfl rfl ?_
      refine W_move rfl rfl rfl ?_
      refine W_bin rfl rfl rfl rfl rfl ?_
      refine W_end ?_
      refine E_then ?_
      refine cd hm rfl (fun hb265 hm => ?_) (fun hb265 hm => ?_)
      · refine C_seq ?_
        obtain ⟨y266, h267, he268, hm⟩ := idx_some hm
        obtain ⟨_, rfl, hg269⟩ := (hr127).elem he268
        obtain ⟨y270, h271, he272, hm⟩ := idx_some hm
        obtain ⟨_, rfl, hg273⟩ := (hr127).elem he272
        obtain ⟨y274, h275, he276, hm⟩ := idx_some hm
        obtain ⟨_, rfl, hg277⟩ := (hr127).elem he276
        refine rgx fm 14 [ph _, ph _, ph _, ph _, ph _, ph _, ph (.pointer (some ((Value.base (v0)).add ((p1_a : Int).toNat * Rep.sz S_api_TelemetryMsg)))), ph (.agg [.string (y266.Point), .int .i64 (y266.Number), .int .i64 (y266.Time), .int .i64 (y266.Value)].toArray), ph _, ph _, ph (.pointer (some ((Value.base (v0)).add ((n261 : Int).toNat * Rep.sz S_api_TelemetryMsg)))), ph (.agg [.string (y270.Point), .int .i64 (y270.Number), .int .i64 (y270.Time), .int .i64 (y270.Value)].toArray), ph (.pointer (some ((Value.base (v0)).add ((n261 : Int).toNat * Rep.sz S_api_TelemetryMsg)))), (fun H rs v => ∃ xs285 : List Value, [.row v0 29 (Rep.sz S_api_TelemetryMsg) (((data.set ((p1_a : Int).toNat) y101).set ((pivot : Int).toNat) y105).set ((n261 : Int).toNat) y266).length xs285] = rs ∧ .pointer (some ((Value.base (v0)).add ((n261 : Int).toNat * Rep.sz S_api_TelemetryMsg))) = v ∧ Rw H v0 xs285 (((data.set ((p1_a : Int).toNat) y101).set ((pivot : Int).toNat) y105).set ((n261 : Int).toNat) y266))] (sp 14 [(13, [14])]) [[], [], [], [], [], [], [14], [14], [], [], [14], [14], [14], []] [0] [0, 1, 2, 3, 4, 5, 6, 7, 8, 9, 10, 11, 12, 13] rfl ⟨om, om, om, om, om, om, ?_, ?_, om, om, ?_, ?_, ?_, ?_, trivial⟩ ?_
        · intro HX hX X Rest hR
          rintro _ _ ⟨rfl, rfl⟩
          rintro _ _ ⟨rfl, rfl⟩
          intro hU hUp
          have hU2 : ∀ s ∈ [.row v0 29 (Rep.sz S_api_TelemetryMsg) ((data.set ((p1_a : Int).toNat) y101).set ((pivot : Int).toNat) y105).length xs130], s ∈ Rest := hU
          refine W_indexO (hU2 _ (List.mem_cons_self ..)) rfl rfl Proofs.Try.runUnderlying27 Proofs.Try.sizeOf29 rfl rfl h267 (List.getElem?_eq_some_iff.1 he268).1 ?_
          exact o0 ⟨rfl, rfl⟩
        · intro HX hX X Rest hR
          rintro _ _ ⟨rfl, rfl⟩
          intro hU hUp
          have hU2 : ∀ s ∈ [.row v0 29 (Rep.sz S_api_TelemetryMsg) ((data.set ((p1_a : Int).toNat) y101).set ((pivot : Int).toNat) y105).length xs130], s ∈ Rest := hU
          refine W_loadAgg (cs := [.string (y266.Point), .int .i64 (y266.Number), .int .i64 (y266.Time), .int .i64 (y266.Value)]) rfl rfl Proofs.Try.isAgg29 Proofs.Try.sizeOf29 rfl (row_cells (hU2 _ (List.mem_cons_self ..)) hg269) rfl ?_
          exact o0 ⟨rfl, rfl⟩
        · intro HX hX X Rest hR
          rintro _ _ ⟨rfl, rfl⟩
          rintro _ _ ⟨rfl, rfl⟩
          intro hU hUp
          have hU2 : ∀ s ∈ [.row v0 29 (Rep.sz S_api_TelemetryMsg) ((data.set ((p1_a : Int).toNat) y101).set ((pivot : Int).toNat) y105).length xs130], s ∈ Rest := hU
          refine W_indexO (hU2 _ (List.mem_cons_self ..)) rfl rfl Proofs.Try.runUnderlying27 Proofs.Try.sizeOf29 rfl rfl h271 (List.getElem?_eq_some_iff.1 he272).1 ?_
          exact o0 ⟨rfl, rfl⟩
        · intro HX hX X Rest hR
          rintro _ _ ⟨rfl, rfl⟩
          intro hU hUp
          have hU2 : ∀ s ∈ [.row v0 29 (Rep.sz S_api_TelemetryMsg) ((data.set ((p1_a : Int).toNat) y101).set ((pivot : Int).toNat) y105).length xs130], s ∈ Rest := hU
          refine W_loadAgg (cs := [.string (y270.Point), .int .i64 (y270.Number), .int .i64 (y270.Time), .int .i64 (y270.Value)]) rfl rfl Proofs.Try.isAgg29 Proofs.Try.sizeOf29 rfl (row_cells (hU2 _ (List.mem_cons_self ..)) hg273) rfl ?_
          exact o0 ⟨rfl, rfl⟩
        · intro HX hX X Rest hR
          rintro _ _ ⟨rfl, rfl⟩
          rintro _ _ ⟨rfl, rfl⟩
          rintro _ _ ⟨rfl, rfl⟩
          rintro _ _ ⟨rfl, rfl⟩
          rintro _ _ ⟨rfl, rfl⟩
          rintro _ _ ⟨rfl, rfl⟩
          rintro _ _ ⟨rfl, rfl⟩
          rintro _ _ ⟨rfl, rfl⟩
          rintro _ _ ⟨rfl, rfl⟩
          intro hU hUp
          have hU2 : ∀ s ∈ [.row v0 29 (Rep.sz S_api_TelemetryMsg) ((data.set ((p1_a : Int).toNat) y101).set ((pivot : Int).toNat) y105).length xs130], s ∈ Rest := hU
          refine W_indexO (hU2 _ (List.mem_cons_self ..)) rfl rfl Proofs.Try.runUnderlying27 Proofs.Try.sizeOf29 rfl rfl h275 (List.getElem?_eq_some_iff.1 he276).1 ?_
          exact o0 ⟨rfl, rfl⟩
        · intro HX hX X Rest hR
          rintro _ _ ⟨rfl, rfl⟩
          rintro _ _ ⟨rfl, rfl⟩
          rintro _ _ ⟨rfl, rfl⟩
          rintro _ _ ⟨rfl, rfl⟩
          rintro _ _ ⟨rfl, rfl⟩
          rintro _ _ ⟨rfl, rfl⟩
          rintro _ _ ⟨rfl, rfl⟩
          rintro _ _ ⟨rfl, rfl⟩
          rintro _ _ ⟨rfl, rfl⟩
          intro hU hUp
          refine Wp [0] ?_
          obtain ⟨hr282, he283, hg284⟩ := Rw.put (cs := [.string (y266.Point), .int .i64 (y266.Number), .int .i64 (y266.Time), .int .i64 (y266.Value)]) (o := 0) (c := [.string (y274.Point), .int .i64 (y274.Number), .int .i64 (y274.Time), .int .i64 (y274.Value)]) (out := [.string (y266.Point), .int .i64 (y266.Number), .int .i64 (y266.Time), .int .i64 (y266.Value)]) (e2 := y266) (((hr127.mono hle196).mono hle263).mono hX) he276 rfl hg277 rfl rfl rfl
          refine W_storeO2 (i := (n261 : Int).toNat * Rep.sz S_api_TelemetryMsg + 0) (cs := [.string (y266.Point), .int .i64 (y266.Number), .int .i64 (y266.Time), .int .i64 (y266.Value)]) rfl Proofs.Try.sizeOf29 rfl (row_ad0 _ _) rfl rfl rfl (Rw.room (((hr127.mono hle196).mono hle263).mono hX) he276 rfl) rfl (all_cons rfl (all_cons rfl (all_cons rfl (all_cons rfl all_nil)))) (n' := (((data.set ((p1_a : Int).toNat) y101).set ((pivot : Int).toNat) y105).set ((n261 : Int).toNat) y266).length) List.length_set ?_
          generalize over xs130 ((n261 : Int).toNat * Rep.sz S_api_TelemetryMsg + 0) [.string (y266.Point), .int .i64 (y266.Number), .int .i64 (y266.Time), .int .i64 (y266.Value)] = xs285 at hr282 hg284 ⊢
          exact W_end (OneT_endL rfl [.row v0 29 (Rep.sz S_api_TelemetryMsg) (((data.set ((p1_a : Int).toNat) y101).set ((pivot : Int).toNat) y105).set ((n261 : Int).toNat) y266).length xs285] (Hp.le_refl _) ⟨xs285, rfl, rfl, (hr282)⟩)
        intro H286 hle287
        rintro _ _ ⟨rfl, rfl⟩
        rintro _ _ ⟨rfl, rfl⟩
        rintro _ _ ⟨rfl, rfl⟩
        rintro _ _ ⟨rfl, rfl⟩
        rintro _ _ ⟨rfl, rfl⟩
        rintro _ _ ⟨rfl, rfl⟩
        rintro _ _ ⟨rfl, rfl⟩
        rintro _ _ ⟨rfl, rfl⟩
        rintro _ _ ⟨rfl, rfl⟩
        rintro _ _ ⟨rfl, rfl⟩
        rintro _ _ ⟨rfl, rfl⟩
        rintro _ _ ⟨rfl, rfl⟩
        rintro _ _ ⟨rfl, rfl⟩
        rintro _ _ _ ⟨xs285, rfl, _, hr282⟩
        refine isW ?_
        refine Wp [0] ?_
        obtain ⟨y288, h289, he290, hm⟩ := idx_some hm
        refine W_indexO (List.mem_cons_self ..) rfl rfl Proofs.Try.runUnderlying27 Proofs.Try.sizeOf29 rfl rfl h289 (List.getElem?_eq_some_iff.1 he290).1 ?_
        obtain ⟨_, rfl, hg291⟩ := (hr282).elem he290
        obtain ⟨hr292, he293, hg294⟩ := Rw.put (cs := [.string (y270.Point), .int .i64 (y270.Number), .int .i64 (y270.Time), .int .i64 (y270.Value)]) (o := 0) (c := [.string (y288.Point), .int .i64 (y288.Number), .int .i64 (y288.Time), .int .i64 (y288.Value)]) (out := [.string (y270.Point), .int .i64 (y270.Number), .int .i64 (y270.Time), .int .i64 (y270.Value)]) (e2 := y270) hr282 he290 rfl hg291 rfl rfl rfl
        refine W_storeO2 (i := (p1_a : Int).toNat * Rep.sz S_api_TelemetryMsg + 0) (cs := [.string (y270.Point), .int .i64 (y270.Number), .int .i64 (y270.Time), .int .i64 (y270.Value)]) rfl Proofs.Try.sizeOf29 rfl (row_ad0 _ _) rfl rfl rfl (Rw.room hr282 he290 rfl) rfl (all_cons rfl (all_cons rfl (all_cons rfl (all_cons rfl all_nil)))) (n' := ((((data.set ((p1_a : Int).toNat) y101).set ((pivot : Int).toNat) y105).set ((n261 : Int).toNat) y266).set ((p1_a : Int).toNat) y270).length) List.length_set ?_
        generalize over xs285 ((p1_a : Int).toNat * Rep.sz S_api_TelemetryMsg + 0) [.string (y270.Point), .int .i64 (y270.Number), .int .i64 (y270.Time), .int .i64 (y270.Value)] = xs295 at hr292 hg294 ⊢
        refine W_end ?_
        refine E_then ?_
        refine C_seq ?_
        refine C_region ?_
        refine W_move rfl rfl rfl ?_
        refine W_assign rfl rfl rfl ?_
        refine W_assign rfl rfl rfl ?_
        refine W_end ?_
        refine E_then ?_
        refine C_ret ?_
        refine E_ret_then ?_
        obtain rfl := Option.some.inj hm
        refine E_weak (Hp.le_trans (Hp.le_trans (Hp.le_trans hle122 hle196) hle263) hle287) ?_
        exact end2 rfl rfl rfl ⟨rfl, xs295, rfl, rfl, (hr292).toF⟩
      · refine C_skip ?_
        refine E_then ?_
        refine C_seq ?_
        obtain ⟨y296, h297, he298, hm⟩ := idx_some hm
        obtain ⟨_, rfl, hg299⟩ := (hr127).elem he298
        obtain ⟨y300, h301, he302, hm⟩ := idx_some hm
        obtain ⟨_, rfl, hg303⟩ := (hr127).elem he302
        obtain ⟨y304, h305, he306, hm⟩ := idx_some hm
        obtain ⟨_, rfl, hg307⟩ := (hr127).elem he306
        refine rgx fm 14 [ph _, ph _, ph _, ph _, ph _, ph _, ph (.pointer (some ((Value.base (v0)).add ((n261 : Int).toNat * Rep.sz S_api_TelemetryMsg)))), ph (.agg [.string (y296.Point), .int .i64 (y296.Number), .int .i64 (y296.Time), .int .i64 (y296.Value)].toArray), ph _, ph _, ph (.pointer (some ((Value.base (v0)).add ((n194 : Int).toNat * Rep.sz S_api_TelemetryMsg)))), ph (.agg [.string (y300.Point), .int .i64 (y300.Number), .int .i64 (y300.Time), .int .i64 (y300.Value)].toArray), ph (.pointer (some ((Value.base (v0)).add ((n194 : Int).toNat * Rep.sz S_api_TelemetryMsg)))), (fun H rs v => ∃ xs315 : List Value, [.row v0 29 (Rep.sz S_api_TelemetryMsg) (((data.set ((p1_a : Int).toNat) y101).set ((pivot : Int).toNat) y105).set ((n194 : Int).toNat) y296).length xs315] = rs ∧ .pointer (some ((Value.base (v0)).add ((n194 : Int).toNat * Rep.sz S_api_TelemetryMsg))) = v ∧ Rw H v0 xs315 (((data.set ((p1_a : Int).toNat) y101).set ((pivot : Int).toNat) y105).set ((n194 : Int).toNat) y296))] (sp 14 [(13, [14])]) [[], [], [], [], [], [], [14], [14], [], [], [14], [14], [14], []] [0] [0, 1, 2, 3, 4, 5, 6, 7, 8, 9, 10, 11, 12, 13] rfl ⟨om, om, om, om, om, om, ?_, ?_, om, om, ?_, ?_, ?_, ?_, trivial⟩ ?_
        · intro HX hX X Rest hR
          rintro _ _ ⟨rfl, rfl⟩
          rintro _ _ ⟨rfl, rfl⟩
          intro hU hUp
          have hU2 : ∀ s ∈ [.row v0 29 (Rep.sz S_api_TelemetryMsg) ((data.set ((p1_a : Int).toNat) y101).set ((pivot : Int).toNat) y105).length xs130], s ∈ Rest := hU
          refine W_indexO (hU2 _ (List.mem_cons_self ..)) rfl rfl Proofs.Try.runUnderlying27 Proofs.Try.sizeOf29 rfl rfl h297 (List.getElem?_eq_some_iff.1 he298).1 ?_
          exact o0 ⟨rfl, rfl⟩
        · intro HX hX X Rest hR
          rintro _ _ ⟨rfl, rfl⟩
          intro hU hUp
          have hU2 : ∀ s ∈ [.row v0 29 (Rep.sz S_api_TelemetryMsg) ((data.set ((p1_a : Int).toNat) y101).set ((pivot : Int).toNat) y105).length xs130], s ∈ Rest := hU
          refine W_loadAgg (cs := [.string (y296.Point), .int .i64 (y296.Number), .int .i64 (y296.Time), .int .i64 (y296.Value)]) rfl rfl Proofs.Try.isAgg29 Proofs.Try.sizeOf29 rfl (row_cells (hU2 _ (List.mem_cons_self ..)) hg299) rfl ?_
          exact o0 ⟨rfl, rfl⟩
        · intro HX hX X Rest hR
          rintro _ _ ⟨rfl, rfl⟩
          rintro _ _ ⟨rfl, rfl⟩
          intro hU hUp
          have hU2 : ∀ s ∈ [.row v0 29 (Rep.sz S_api_TelemetryMsg) ((data.set ((p1_a : Int).toNat) y101).set ((pivot : Int).toNat) y105).length xs130], s ∈ Rest := hU
          refine W_indexO (hU2 _ (List.mem_cons_self ..)) rfl rfl Proofs.Try.runUnderlying27 Proofs.Try.sizeOf29 rfl rfl h301 (List.getElem?_eq_some_iff.1 he302).1 ?_
          exact o0 ⟨rfl, rfl⟩
        · intro HX hX X Rest hR
          rintro _ _ ⟨rfl, rfl⟩
          intro hU hUp
          have hU2 : ∀ s ∈ [.row v0 29 (Rep.sz S_api_TelemetryMsg) ((data.set ((p1_a : Int).toNat) y101).set ((pivot : Int).toNat) y105).length xs130], s ∈ Rest := hU
          refine W_loadAgg (cs := [.string (y300.Point), .int .i64 (y300.Number), .int .i64 (y300.Time), .int .i64 (y300.Value)]) rfl rfl Proofs.Try.isAgg29 Proofs.Try.sizeOf29 rfl (row_cells (hU2 _ (List.mem_cons_self ..)) hg303) rfl ?_
          exact o0 ⟨rfl, rfl⟩
        · intro HX hX X Rest hR
          rintro _ _ ⟨rfl, rfl⟩
          rintro _ _ ⟨rfl, rfl⟩
          rintro _ _ ⟨rfl, rfl⟩
          rintro _ _ ⟨rfl, rfl⟩
          rintro _ _ ⟨rfl, rfl⟩
          rintro _ _ ⟨rfl, rfl⟩
          rintro _ _ ⟨rfl, rfl⟩
          rintro _ _ ⟨rfl, rfl⟩
          rintro _ _ ⟨rfl, rfl⟩
          intro hU hUp
          have hU2 : ∀ s ∈ [.row v0 29 (Rep.sz S_api_TelemetryMsg) ((data.set ((p1_a : Int).toNat) y101).set ((pivot : Int).toNat) y105).length xs130], s ∈ Rest := hU
          refine W_indexO (hU2 _ (List.mem_cons_self ..)) rfl rfl Proofs.Try.runUnderlying27 Proofs.Try.sizeOf29 rfl rfl h305 (List.getElem?_eq_some_iff.1 he306).1 ?_
          exact o0 ⟨rfl, rfl⟩
        · intro HX hX X Rest hR
          rintro _ _ ⟨rfl, rfl⟩
          rintro _ _ ⟨rfl, rfl⟩
          rintro _ _ ⟨rfl, rfl⟩
          rintro _ _ ⟨rfl, rfl⟩
          rintro _ _ ⟨rfl, rfl⟩
          rintro _ _ ⟨rfl, rfl⟩
          rintro _ _ ⟨rfl, rfl⟩
          rintro _ _ ⟨rfl, rfl⟩
          rintro _ _ ⟨rfl, rfl⟩
          intro hU hUp
          refine Wp [0] ?_
          obtain ⟨hr312, he313, hg314⟩ := Rw.put (cs := [.string (y296.Point), .int .i64 (y296.Number), .int .i64 (y296.Time), .int .i64 (y296.Value)]) (o := 0) (c := [.string (y304.Point), .int .i64 (y304.Number), .int .i64 (y304.Time), .int .i64 (y304.Value)]) (out := [.string (y296.Point), .int .i64 (y296.Number), .int .i64 (y296.Time), .int .i64 (y296.Value)]) (e2 := y296) (((hr127.mono hle196).mono hle263).mono hX) he306 rfl hg307 rfl rfl rfl
          refine W_storeO2 (i := (n194 : Int).toNat * Rep.sz S_api_TelemetryMsg + 0) (cs := [.string (y296.Point), .int .i64 (y296.Number), .int .i64 (y296.Time), .int .i64 (y296.Value)]) rfl Proofs.Try.sizeOf29 rfl (row_ad0 _ _) rfl rfl rfl (Rw.room (((hr127.mono hle196).mono hle263).mono hX) he306 rfl) rfl (all_cons rfl (all_cons rfl (all_cons rfl (all_cons rfl all_nil)))) (n' := (((data.set ((p1_a : Int).toNat) y101).set ((pivot : Int).toNat) y105).set ((n194 : Int).toNat) y296).length) List.length_set ?_
          generalize over xs130 ((n194 : Int).toNat * Rep.sz S_api_TelemetryMsg + 0) [.string (y296.Point), .int .i64 (y296.Number), .int .i64 (y296.Time), .int .i64 (y296.Value)] = xs315 at hr312 hg314 ⊢
          exact W_end (OneT_endL rfl [.row v0 29 (Rep.sz S_api_TelemetryMsg) (((data.set ((p1_a : Int).toNat) y101).set ((pivot : Int).toNat) y105).set ((n194 : Int).toNat) y296).length xs315] (Hp.le_refl _) ⟨xs315, rfl, rfl, (hr312)⟩)
        intro H316 hle317
        rintro _ _ ⟨rfl, rfl⟩
        rintro _ _ ⟨rfl, rfl⟩
        rintro _ _ ⟨rfl, rfl⟩
        rintro _ _ ⟨rfl, rfl⟩
        rintro _ _ ⟨rfl, rfl⟩
        rintro _ _ ⟨rfl, rfl⟩
        rintro _ _ ⟨rfl, rfl⟩
        rintro _ _ ⟨rfl, rfl⟩
        rintro _ _ ⟨rfl, rfl⟩
        rintro _ _ ⟨rfl, rfl⟩
        rintro _ _ ⟨rfl, rfl⟩
        rintro _ _ ⟨rfl, rfl⟩
        rintro _ _ ⟨rfl, rfl⟩
        rintro _ _ _ ⟨xs315, rfl, _, hr312⟩
        refine isW ?_
        refine Wp [0] ?_
        obtain ⟨y318, h319, he320, hm⟩ := idx_some hm
        refine W_indexO (List.mem_cons_self ..) rfl rfl Proofs.Try.runUnderlying27 Proofs.Try.sizeOf29 rfl rfl h319 (List.getElem?_eq_some_iff.1 he320).1 ?_
        obtain ⟨_, rfl, hg321⟩ := (hr312).elem he320
        obtain ⟨hr322, he323, hg324⟩ := Rw.put (cs := [.string (y300.Point), .int .i64 (y300.Number), .int .i64 (y300.Time), .int .i64 (y300.Value)]) (o := 0) (c := [.string (y318.Point), .int .i64 (y318.Number), .int .i64 (y318.Time), .int .i64 (y318.Value)]) (out := [.string (y300.Point), .int .i64 (y300.Number), .int .i64 (y300.Time), .int .i64 (y300.Value)]) (e2 := y300) hr312 he320 rfl hg321 rfl rfl rfl
        refine W_storeO2 (i := (n261 : Int).toNat * Rep.sz S_api_TelemetryMsg + 0) (cs := [.string (y300.Point), .int .i64 (y300.Number), .int .i64 (y300.Time), .int .i64 (y300.Value)]) rfl Proofs.Try.sizeOf29 rfl (row_ad0 _ _) rfl rfl rfl (Rw.room hr312 he320 rfl) rfl (all_cons rfl (all_cons rfl (all_cons rfl (all_cons rfl all_nil)))) (n' := ((((data.set ((p1_a : Int).toNat) y101).set ((pivot : Int).toNat) y105).set ((n194 : Int).toNat) y296).set ((n261 : Int).toNat) y300).length) List.length_set ?_
        generalize over xs315 ((n261 : Int).toNat * Rep.sz S_api_TelemetryMsg + 0) [.string (y300.Point), .int .i64 (y300.Number), .int .i64 (y300.Time), .int .i64 (y300.Value)] = xs325 at hr322 hg324 ⊢
        refine W_end ?_
        refine E_then ?_
        refine C_seq ?_
        refine C_region ?_
        refine W_move rfl rfl rfl ?_
        refine W_bin rfl rfl rfl rfl rfl ?_
        refine W_assign rfl rfl rfl ?_
        refine W_end ?_
        refine E_then ?_
        refine C_seq ?_
        refine C_region ?_
        refine W_move rfl rfl rfl ?_
        refine W_bin rfl rfl rfl rfl rfl ?_
        refine W_assign rfl rfl rfl ?_
        refine W_end ?_
        refine E_then ?_
        refine cj [(0, _), (1, _)] [] 1 (fun u m H' M' L' => ∃ l1237 : List S_api_TelemetryMsg, ∃ n1239 : Int, ∃ xs1236 : List Value, m_slices_partitionCmpFunc_api_TelemetryMsg__telemetry_Points_List_1_b22 p1_a l1237 n1239 = some r ∧ Rw H' v0 xs1236 l1237 ∧ H316.le H' ∧ .row v0 29 (Rep.sz S_api_TelemetryMsg) l1237.length xs1236 :: m = M' ∧ (13, .int .i64 (n1239)) :: u = L') ?_ (fun J1242 => ?_)
        · rintro H1240 _ _ ⟨l1237, n1239, xs1236, hm, hr1238, hle1241, rfl, rfl⟩
          unfold m_slices_partitionCmpFunc_api_TelemetryMsg__telemetry_Points_List_1_b22 at hm
          refine C_seq ?_
          obtain ⟨y1243, h1244, he1245, hm⟩ := idx_some hm
          obtain ⟨_, rfl, hg1246⟩ := (hr1238).elem he1245
          obtain ⟨y1247, h1248, he1249, hm⟩ := idx_some hm
          obtain ⟨_, rfl, hg1250⟩ := (hr1238).elem he1249
          obtain ⟨y1251, h1252, he1253, hm⟩ := idx_some hm
          obtain ⟨_, rfl, hg1254⟩ := (hr1238).elem he1253
          refine rgx fm 14 [ph _, ph _, ph _, ph _, ph _, ph _, ph (.pointer (some ((Value.base (v0)).add ((p1_a : Int).toNat * Rep.sz S_api_TelemetryMsg)))), ph (.agg [.string (y1243.Point), .int .i64 (y1243.Number), .int .i64 (y1243.Time), .int .i64 (y1243.Value)].toArray), ph _, ph _, ph (.pointer (some ((Value.base (v0)).add ((n1239 : Int).toNat * Rep.sz S_api_TelemetryMsg)))), ph (.agg [.string (y1247.Point), .int .i64 (y1247.Number), .int .i64 (y1247.Time), .int .i64 (y1247.Value)].toArray), ph (.pointer (some ((Value.base (v0)).add ((n1239 : Int).toNat * Rep.sz S_api_TelemetryMsg)))), (fun H rs v => ∃ xs1262 : List Value, [.row v0 29 (Rep.sz S_api_TelemetryMsg) (l1237.set ((n1239 : Int).toNat) y1243).length xs1262] = rs ∧ .pointer (some ((Value.base (v0)).add ((n1239 : Int).toNat * Rep.sz S_api_TelemetryMsg))) = v ∧ Rw H v0 xs1262 (l1237.set ((n1239 : Int).toNat) y1243))] (sp 14 [(13, [14])]) [[], [], [], [], [], [], [14], [14], [], [], [14], [14], [14], []] [0] [0, 1, 2, 3, 4, 5, 6, 7, 8, 9, 10, 11, 12, 13] rfl ⟨om, om, om, om, om, om, ?_, ?_, om, om, ?_, ?_, ?_, ?_, trivial⟩ ?_
          · intro HX hX X Rest hR
            rintro _ _ ⟨rfl, rfl⟩
            rintro _ _ ⟨rfl, rfl⟩
            intro hU hUp
            have hU2 : ∀ s ∈ [.row v0 29 (Rep.sz S_api_TelemetryMsg) l1237.length xs1236], s ∈ Rest := hU
            refine W_indexO (hU2 _ (List.mem_cons_self ..)) rfl rfl Proofs.Try.runUnderlying27 Proofs.Try.sizeOf29 rfl rfl h1244 (List.getElem?_eq_some_iff.1 he1245).1 ?_
            exact o0 ⟨rfl, rfl⟩
          · intro HX hX X Rest hR
            rintro _ _ ⟨rfl, rfl⟩
            intro hU hUp
            have hU2 : ∀ s ∈ [.row v0 29 (Rep.sz S_api_TelemetryMsg) l1237.length xs1236], s ∈ Rest := hU
            refine W_loadAgg (cs := [.string (y1243.Point), .int .i64 (y1243.Number), .int .i64 (y1243.Time), .int .i64 (y1243.Value)]) rfl rfl Proofs.Try.isAgg29 Proofs.Try.sizeOf29 rfl (row_cells (hU2 _ (List.mem_cons_self ..)) hg1246) rfl ?_
            exact o0 ⟨rfl, rfl⟩
          · intro HX hX X Rest hR
            rintro _ _ ⟨rfl, rfl⟩
            rintro _ _ ⟨rfl, rfl⟩
            intro hU hUp
            have hU2 : ∀ s ∈ [.row v0 29 (Rep.sz S_api_TelemetryMsg) l1237.length xs1236], s ∈ Rest := hU
            refine W_indexO (hU2 _ (List.mem_cons_self ..)) rfl rfl Proofs.Try.runUnderlying27 Proofs.Try.sizeOf29 rfl rfl h1248 (List.getElem?_eq_some_iff.1 he1249).1 ?_
            exact o0 ⟨rfl, rfl⟩
          · intro HX hX X Rest hR
            rintro _ _ ⟨rfl, rfl⟩
            intro hU hUp
            have hU2 : ∀ s ∈ [.row v0 29 (Rep.sz S_api_TelemetryMsg) l1237.length xs1236], s ∈ Rest := hU
            refine W_loadAgg (cs := [.string (y1247.Point), .int .i64 (y1247.Number), .int .i64 (y1247.Time), .int .i64 (y1247.Value)]) rfl rfl Proofs.Try.isAgg29 Proofs.Try.sizeOf29 rfl (row_cells (hU2 _ (List.mem_cons_self ..)) hg1250) rfl ?_
            exact o0 ⟨rfl, rfl⟩
          · intro HX hX X Rest hR
            rintro _ _ ⟨rfl, rfl⟩
            rintro _ _ ⟨rfl, rfl⟩
            rintro _ _ ⟨rfl, rfl⟩
            rintro _ _ ⟨rfl, rfl⟩
            rintro _ _ ⟨rfl, rfl⟩
            rintro _ _ ⟨rfl, rfl⟩
            rintro _ _ ⟨rfl, rfl⟩
            rintro _ _ ⟨rfl, rfl⟩
            rintro _ _ ⟨rfl, rfl⟩
            intro hU hUp
            have hU2 : ∀ s ∈ [.row v0 29 (Rep.sz S_api_TelemetryMsg) l1237.length xs1236], s ∈ Rest := hU
            refine W_indexO (hU2 _ (List.mem_cons_self ..)) rfl rfl Proofs.Try.runUnderlying27 Proofs.Try.sizeOf29 rfl rfl h1252 (List.getElem?_eq_some_iff.1 he1253).1 ?_
            exact o0 ⟨rfl, rfl⟩
          · intro HX hX X Rest hR
            rintro _ _ ⟨rfl, rfl⟩
            rintro _ _ ⟨rfl, rfl⟩
            rintro _ _ ⟨rfl, rfl⟩
            rintro _ _ ⟨rfl, rfl⟩
            rintro _ _ ⟨rfl, rfl⟩
            rintro _ _ ⟨rfl, rfl⟩
            rintro _ _ ⟨rfl, rfl⟩
            rintro _ _ ⟨rfl, rfl⟩
            rintro _ _ ⟨rfl, rfl⟩
            intro hU hUp
            refine Wp [0] ?_
            obtain ⟨hr1259, he1260, hg1261⟩ := Rw.put (cs := [.string (y1243.Point), .int .i64 (y1243.Number), .int .i64 (y1243.Time), .int .i64 (y1243.Value)]) (o := 0) (c := [.string (y1251.Point), .int .i64 (y1251.Number), .int .i64 (y1251.Time), .int .i64 (y1251.Value)]) (out := [.string (y1243.Point), .int .i64 (y1243.Number), .int .i64 (y1243.Time), .int .i64 (y1243.Value)]) (e2 := y1243) (hr1238.mono hX) he1253 rfl hg1254 rfl rfl rfl
            refine W_storeO2 (i := (n1239 : Int).toNat * Rep.sz S_api_TelemetryMsg + 0) (cs := [.string (y1243.Point), .int .i64 (y1243.Number), .int .i64 (y1243.Time), .int .i64 (y1243.Value)]) rfl Proofs.Try.sizeOf29 rfl (row_ad0 _ _) rfl rfl rfl (Rw.room (hr1238.mono hX) he1253 rfl) rfl (all_cons rfl (all_cons rfl (all_cons rfl (all_cons rfl all_nil)))) (n' := (l1237.set ((n1239 : Int).toNat) y1243).length) List.length_set ?_
            generalize over xs1236 ((n1239 : Int).toNat * Rep.sz S_api_TelemetryMsg + 0) [.string (y1243.Point), .int .i64 (y1243.Number), .int .i64 (y1243.Time), .int .i64 (y1243.Value)] = xs1262 at hr1259 hg1261 ⊢
            exact W_end (OneT_endL rfl [.row v0 29 (Rep.sz S_api_TelemetryMsg) (l1237.set ((n1239 : Int).toNat) y1243).length xs1262] (Hp.le_refl _) ⟨xs1262, rfl, rfl, (hr1259)⟩)
          intro H1263 hle1264
          rintro _ _ ⟨rfl, rfl⟩
          rintro _ _ ⟨rfl, rfl⟩
          rintro _ _ ⟨rfl, rfl⟩
          rintro _ _ ⟨rfl, rfl⟩
          rintro _ _ ⟨rfl, rfl⟩
          rintro _ _ ⟨rfl, rfl⟩
          rintro _ _ ⟨rfl, rfl⟩
          rintro _ _ ⟨rfl, rfl⟩
          rintro _ _ ⟨rfl, rfl⟩
          rintro _ _ ⟨rfl, rfl⟩
          rintro _ _ ⟨rfl, rfl⟩
          rintro _ _ ⟨rfl, rfl⟩
          rintro _ _ ⟨rfl, rfl⟩
          rintro _ _ _ ⟨xs1262, rfl, _, hr1259⟩
          refine isW ?_
          refine Wp [0] ?_
          obtain ⟨y1265, h1266, he1267, hm⟩ := idx_some hm
          refine W_indexO (List.mem_cons_self ..) rfl rfl Proofs.Try.runUnderlying27 Proofs.Try.sizeOf29 rfl rfl h1266 (List.getElem?_eq_some_iff.1 he1267).1 ?_
          obtain ⟨_, rfl, hg1268⟩ := (hr1259).elem he1267
          obtain ⟨hr1269, he1270, hg1271⟩ := Rw.put (cs := [.string (y1247.Point), .int .i64 (y1247.Number), .int .i64 (y1247.Time), .int .i64 (y1247.Value)]) (o := 0) (c := [.string (y1265.Point), .int .i64 (y1265.Number), .int .i64 (y1265.Time), .int .i64 (y1265.Value)]) (out := [.string (y1247.Point), .int .i64 (y1247.Number), .int .i64 (y1247.Time), .int .i64 (y1247.Value)]) (e2 := y1247) hr1259 he1267 rfl hg1268 rfl rfl rfl
          refine W_storeO2 (i := (p1_a : Int).toNat * Rep.sz S_api_TelemetryMsg + 0) (cs := [.string (y1247.Point), .int .i64 (y1247.Number), .int .i64 (y1247.Time), .int .i64 (y1247.Value)]) rfl Proofs.Try.sizeOf29 rfl (row_ad0 _ _) rfl rfl rfl (Rw.room hr1259 he1267 rfl) rfl (all_cons rfl (all_cons rfl (all_cons rfl (all_cons rfl all_nil)))) (n' := ((l1237.set ((n1239 : Int).toNat) y1243).set ((p1_a : Int).toNat) y1247).length) List.length_set ?_
          generalize over xs1262 ((p1_a : Int).toNat * Rep.sz S_api_TelemetryMsg + 0) [.string (y1247.Point), .int .i64 (y1247.Number), .int .i64 (y1247.Time), .int .i64 (y1247.Value)] = xs1272 at hr1269 hg1271 ⊢
          refine W_end ?_
          refine E_then ?_
          refine C_seq ?_
          refine C_region ?_
          refine W_move rfl rfl rfl ?_
          refine W_assign rfl rfl rfl ?_
          refine W_assign rfl rfl rfl ?_
          refine W_end ?_
          refine E_then ?_
          refine C_ret ?_
          obtain rfl := Option.some.inj hm
          refine E_weak (Hp.le_trans (Hp.le_trans (Hp.le_trans (Hp.le_trans (Hp.le_trans hle122 hle196) hle263) hle317) hle1241) hle1264) ?_
          exact end2 rfl rfl rfl ⟨rfl, xs1272, rfl, rfl, (hr1269).toF⟩
        · refine C_block ?_
          obtain ⟨J2179, hm2180, hm2181, hm⟩ := loopF_nm hm
          refine cl [(0, _), (1, _), (4, _)] [] 1 [] 0 (fun u m n H' M' L' => ∃ l1873 : List S_api_TelemetryMsg, ∃ n1875 : Int, ∃ n1876 : Int, ∃ xs1872 : List Value, J2179 n (l1873, n1875, n1876) = some r ∧ Rw H' v0 xs1872 l1873 ∧ H316.le H' ∧ .row v0 29 (Rep.sz S_api_TelemetryMsg) l1873.length xs1872 :: m = M' ∧ (12, .int .i64 (n1875)) :: (13, .int .i64 (n1876)) :: u = L') FUEL rfl ⟨_, _, _, _, hm, hr322, (Hp.le_refl _), rfl, rfl⟩ ?_
          rintro n1882 H1877 _ _ ⟨l1873, n1875, n1876, xs1872, hm, hr1874, hle1878, rfl, rfl⟩
          cases n1882 with
          | zero => exact nomatch (hm2181 _).symm.trans hm
          | succ n1882 =>
            have hm := (hm2180 _ _).symm.trans hm
            generalize hn1881 : J2179 n1882 = nx1880 at hm
            try dsimp only at hm
            unfold m_slices_partitionCmpFunc_api_TelemetryMsg__telemetry_Points_List_1_b35 at hm
            refine C_block ?_
            refine cj [(0, _), (1, _), (4, _), (13, _)] [] 0 (fun u m H' M' L' => ∃ n1951 : Int, m_slices_partitionCmpFunc_api_TelemetryMsg__telemetry_Points_List_1_b40 p1_a l1873 n1876 nx1880 n1951 = some r ∧ H1877.le H' ∧ m = M' ∧ (12, .int .i64 (n1951)) :: u = L') ?_ (fun J1954 => ?_)
            · rintro H1952 _ _ ⟨n1951, hm, hle1953, rfl, rfl⟩
              unfold m_slices_partitionCmpFunc_api_TelemetryMsg__telemetry_Points_List_1_b40 at hm
              refine cj [(0, _), (1, _), (4, _), (12, _)] [] 0 (fun u m H' M' L' => ∃ n2018 : Int, m_slices_partitionCmpFunc_api_TelemetryMsg__telemetry_Points_List_1_b38 p1_a l1873 nx1880 n1951 n2018 = some r ∧ H1952.le H' ∧ m = M' ∧ (13, .int .i64 (n2018)) :: u = L') ?_ (fun J2021 => ?_)
              · rintro H2019 _ _ ⟨n2018, hm, hle2020, rfl, rfl⟩
                unfold m_slices_partitionCmpFunc_api_TelemetryMsg__telemetry_Points_List_1_b38 at hm
                refine C_seq ?_
                refine C_seq ?_
                refine C_region ?_
                refine W_move rfl rfl rfl ?_
                refine W_move rfl rfl rfl ?_
                refine W_bin rfl rfl rfl rfl rfl ?_
                refine W_end ?_
                refine E_then ?_
                refine cd hm rfl (fun hb2022 hm => ?_) (fun hb2022 hm => ?_)
                · refine C_exit ?_
                  refine E_exit_then ?_
                  refine E_exit_miss rfl ?_
                  refine E_exit_then ?_
                  refine E_exit_hit ?_
                  exact kj (J1242 _ _ _ ⟨_, _, _, hm, ((hr1874.mono hle1953).mono hle2020), (Hp.le_trans (Hp.le_trans hle1878 hle1953) hle2020), rfl, rfl⟩)
                · refine C_skip ?_
                  refine E_then ?_
                  refine C_seq ?_
                  obtain ⟨y2023, h2024, he2025, hm⟩ := idx_some hm
                  obtain ⟨_, rfl, hg2026⟩ := (hr1874).elem he2025
                  obtain ⟨y2027, h2028, he2029, hm⟩ := idx_some hm
                  obtain ⟨_, rfl, hg2030⟩ := (hr1874).elem he2029
                  obtain ⟨y2031, h2032, he2033, hm⟩ := idx_some hm
                  obtain ⟨_, rfl, hg2034⟩ := (hr1874).elem he2033
                  refine rgx fm 14 [ph _, ph _, ph _, ph _, ph _, ph _, ph (.pointer (some ((Value.base (v0)).add ((n2018 : Int).toNat * Rep.sz S_api_TelemetryMsg)))), ph (.agg [.string (y2023.Point), .int .i64 (y2023.Number), .int .i64 (y2023.Time), .int .i64 (y2023.Value)].toArray), ph _, ph _, ph (.pointer (some ((Value.base (v0)).add ((n1951 : Int).toNat * Rep.sz S_api_TelemetryMsg)))), ph (.agg [.string (y2027.Point), .int .i64 (y2027.Number), .int .i64 (y2027.Time), .int .i64 (y2027.Value)].toArray), ph (.pointer (some ((Value.base (v0)).add ((n1951 : Int).toNat * Rep.sz S_api_TelemetryMsg)))), (fun H rs v => ∃ xs2042 : List Value, [.row v0 29 (Rep.sz S_api_TelemetryMsg) (l1873.set ((n1951 : Int).toNat) y2023).length xs2042] = rs ∧ .pointer (some ((Value.base (v0)).add ((n1951 : Int).toNat * Rep.sz S_api_TelemetryMsg))) = v ∧ Rw H v0 xs2042 (l1873.set ((n1951 : Int).toNat) y2023))] (sp 14 [(13, [14])]) [[], [], [], [], [], [], [14], [14], [], [], [14], [14], [14], []] [0] [0, 1, 2, 3, 4, 5, 6, 7, 8, 9, 10, 11, 12, 13] rfl ⟨om, om, om, om, om, om, ?_, ?_, om, om, ?_, ?_, ?_, ?_, trivial⟩ ?_
                  · intro HX hX X Rest hR
                    rintro _ _ ⟨rfl, rfl⟩
                    rintro _ _ ⟨rfl, rfl⟩
                    intro hU hUp
                    have hU2 : ∀ s ∈ [.row v0 29 (Rep.sz S_api_TelemetryMsg) l1873.length xs1872], s ∈ Rest := hU
                    refine W_indexO (hU2 _ (List.mem_cons_self ..)) rfl rfl Proofs.Try.runUnderlying27 Proofs.Try.sizeOf29 rfl rfl h2024 (List.getElem?_eq_some_iff.1 he2025).1 ?_
                    exact o0 ⟨rfl, rfl⟩
                  · intro HX hX X Rest hR
                    rintro _ _ ⟨rfl, rfl⟩
                    intro hU hUp
                    have hU2 : ∀ s ∈ [.row v0 29 (Rep.sz S_api_TelemetryMsg) l1873.length xs1872], s ∈ Rest := hU
                    refine W_loadAgg (cs := [.string (y2023.Point), .int .i64 (y2023.Number), .int .i64 (y2023.Time), .int .i64 (y2023.Value)]) rfl rfl Proofs.Try.isAgg29 Proofs.Try.sizeOf29 rfl (row_cells (hU2 _ (List.mem_cons_self ..)) hg2026) rfl ?_
                    exact o0 ⟨rfl, rfl⟩
                  · intro HX hX X Rest hR
                    rintro _ _ ⟨rfl, rfl⟩
                    rintro _ _ ⟨rfl, rfl⟩
                    intro hU hUp
                    have hU2 : ∀ s ∈ [.row v0 29 (Rep.sz S_api_TelemetryMsg) l1873.length xs1872], s ∈ Rest := hU
                    refine W_indexO (hU2 _ (List.mem_cons_self ..)) rfl rfl Proofs.Try.runUnderlying27 Proofs.Try.sizeOf29 rfl rfl h2028 (List.getElem?_eq_some_iff.1 he2029).1 ?_
                    exact o0 ⟨rfl, rfl⟩
                  · intro HX hX X Rest hR
                    rintro _ _ ⟨rfl, rfl⟩
                    intro hU hUp
                    have hU2 : ∀ s ∈ [.row v0 29 (Rep.sz S_api_TelemetryMsg) l1873.length xs1872], s ∈ Rest := hU
                    refine W_loadAgg (cs := [.string (y2027.Point), .int .i64 (y2027.Number), .int .i64 (y2027.Time), .int .i64 (y2027.Value)]) rfl rfl Proofs.Try.isAgg29 Proofs.Try.sizeOf29 rfl (row_cells (hU2 _ (List.mem_cons_self ..)) hg2030) rfl ?_
                    exact o0 ⟨rfl, rfl⟩
                  · intro HX hX X Rest hR
                    rintro _ _ ⟨rfl, rfl⟩
                    rintro _ _ ⟨rfl, rfl⟩
                    rintro _ _ ⟨rfl, rfl⟩
                    rintro _ _ ⟨rfl, rfl⟩
                    rintro _ _ ⟨rfl, rfl⟩
                    rintro _ _ ⟨rfl, rfl⟩
                    rintro _ _ ⟨rfl, rfl⟩
                    rintro _ _ ⟨rfl, rfl⟩
                    rintro _ _ ⟨rfl, rfl⟩
                    intro hU hUp
                    have hU2 : ∀ s ∈ [.row v0 29 (Rep.sz S_api_TelemetryMsg) l1873.length xs1872], s ∈ Rest := hU
                    refine W_indexO (hU2 _ (List.mem_cons_self ..)) rfl rfl Proofs.Try.runUnderlying27 Proofs.Try.sizeOf29 rfl rfl h2032 (List.getElem?_eq_some_iff.1 he2033).1 ?_
                    exact o0 ⟨rfl, rfl⟩
                  · intro HX hX X Rest hR
                    rintro _ _ ⟨rfl, rfl⟩
                    rintro _ _ ⟨rfl, rfl⟩
                    rintro _ _ ⟨rfl, rfl⟩
                    rintro _ _ ⟨rfl, rfl⟩
                    rintro _ _ ⟨rfl, rfl⟩
                    rintro _ _ ⟨rfl, rfl⟩
                    rintro _ _ ⟨rfl, rfl⟩
                    rintro _ _ ⟨rfl, rfl⟩
                    rintro _ _ ⟨rfl, rfl⟩
                    intro hU hUp
                    refine Wp [0] ?_
                    obtain ⟨hr2039, he2040, hg2041⟩ := Rw.put (cs := [.string (y2023.Point), .int .i64 (y2023.Number), .int .i64 (y2023.Time), .int .i64 (y2023.Value)]) (o := 0) (c := [.string (y2031.Point), .int .i64 (y2031.Number), .int .i64 (y2031.Time), .int .i64 (y2031.Value)]) (out := [.string (y2023.Point), .int .i64 (y2023.Number), .int .i64 (y2023.Time), .int .i64 (y2023.Value)]) (e2 := y2023) (((hr1874.mono hle1953).mono hle2020).mono hX) he2033 rfl hg2034 rfl rfl rfl
                    refine W_storeO2 (i := (n1951 : Int).toNat * Rep.sz S_api_TelemetryMsg + 0) (cs := [.string (y2023.Point), .int .i64 (y2023.Number), .int .i64 (y2023.Time), .int .i64 (y2023.Value)]) rfl Proofs.Try.sizeOf29 rfl (row_ad0 _ _) rfl rfl rfl (Rw.room (((hr1874.mono hle1953).mono hle2020).mono hX) he2033 rfl) rfl (all_cons rfl (all_cons rfl (all_cons rfl (all_cons rfl all_nil)))) (n' := (l1873.set ((n1951 : Int).toNat) y2023).length) List.length_set ?_
                    generalize over xs1872 ((n1951 : Int).toNat * Rep.sz S_api_TelemetryMsg + 0) [.string (y2023.Point), .int .i64 (y2023.Number), .int .i64 (y2023.Time), .int .i64 (y2023.Value)] = xs2042 at hr2039 hg2041 ⊢
                    exact W_end (OneT_endL rfl [.row v0 29 (Rep.sz S_api_TelemetryMsg) (l1873.set ((n1951 : Int).toNat) y2023).length xs2042] (Hp.le_refl _) ⟨xs2042, rfl, rfl, (hr2039)⟩)
                  intro H2043 hle2044
                  rintro _ _ ⟨rfl, rfl⟩
                  rintro _ _ ⟨rfl, rfl⟩
                  rintro _ _ ⟨rfl, rfl⟩
                  rintro _ _ ⟨rfl, rfl⟩
                  rintro _ _ ⟨rfl, rfl⟩
                  rintro _ _ ⟨rfl, rfl⟩
                  rintro _ _ ⟨rfl, rfl⟩
                  rintro _ _ ⟨rfl, rfl⟩
                  rintro _ _ ⟨rfl, rfl⟩
                  rintro _ _ ⟨rfl, rfl⟩
                  rintro _ _ ⟨rfl, rfl⟩
                  rintro _ _ ⟨rfl, rfl⟩
                  rintro _ _ ⟨rfl, rfl⟩
                  rintro _ _ _ ⟨xs2042, rfl, _, hr2039⟩
                  refine isW ?_
                  refine Wp [0] ?_
                  obtain ⟨y2045, h2046, he2047, hm⟩ := idx_some hm
                  refine W_indexO (List.mem_cons_self ..) rfl rfl Proofs.Try.runUnderlying27 Proofs.Try.sizeOf29 rfl rfl h2046 (List.getElem?_eq_some_iff.1 he2047).1 ?_
                  obtain ⟨_, rfl, hg2048⟩ := (hr2039).elem he2047
                  obtain ⟨hr2049, he2050, hg2051⟩ := Rw.put (cs := [.string (y2027.Point), .int .i64 (y2027.Number), .int .i64 (y2027.Time), .int .i64 (y2027.Value)]) (o := 0) (c := [.string (y2045.Point), .int .i64 (y2045.Number), .int .i64 (y2045.Time), .int .i64 (y2045.Value)]) (out := [.string (y2027.Point), .int .i64 (y2027.Number), .int .i64 (y2027.Time), .int .i64 (y2027.Value)]) (e2 := y2027) hr2039 he2047 rfl hg2048 rfl rfl rfl
                  refine W_storeO2 (i := (n2018 : Int).toNat * Rep.sz S_api_TelemetryMsg + 0) (cs := [.string (y2027.Point), .int .i64 (y2027.Number), .int .i64 (y2027.Time), .int .i64 (y2027.Value)]) rfl Proofs.Try.sizeOf29 rfl (row_ad0 _ _) rfl rfl rfl (Rw.room hr2039 he2047 rfl) rfl (all_cons rfl (all_cons rfl (all_cons rfl (all_cons rfl all_nil)))) (n' := ((l1873.set ((n1951 : Int).toNat) y2023).set ((n2018 : Int).toNat) y2027).length) List.length_set ?_
                  generalize over xs2042 ((n2018 : Int).toNat * Rep.sz S_api_TelemetryMsg + 0) [.string (y2027.Point), .int .i64 (y2027.Number), .int .i64 (y2027.Time), .int .i64 (y2027.Value)] = xs2052 at hr2049 hg2051 ⊢
                  refine W_end ?_
                  refine E_then ?_
                  refine C_seq ?_
                  refine C_region ?_
                  refine W_move rfl rfl rfl ?_
                  refine W_bin rfl rfl rfl rfl rfl ?_
                  refine W_assign rfl rfl rfl ?_
                  refine W_end ?_
                  refine E_then ?_
                  refine C_region ?_
                  refine W_move rfl rfl rfl ?_
                  refine W_bin rfl rfl rfl rfl rfl ?_
                  refine W_assign rfl rfl rfl ?_
                  refine W_end ?_
                  refine E_normal_block ?_
                  exact kj (E_back (Nat.lt_succ_self _) ⟨_, _, _, _, ((congrFun hn1881 _).trans hm), hr2049, (Hp.le_trans (Hp.le_trans (Hp.le_trans hle1878 hle1953) hle2020) hle2044), rfl, rfl⟩)
              · refine C_block ?_
                obtain ⟨J2113, hm2114, hm2115, hm⟩ := loopF_nm hm
                refine cl [(0, _), (1, _), (4, _), (12, _)] [] 0 [] 0 (fun u m n H' M' L' => ∃ n2087 : Int, J2113 n n2087 = some r ∧ H1952.le H' ∧ m = M' ∧ (13, .int .i64 (n2087)) :: u = L') FUEL rfl ⟨_, hm, (Hp.le_refl _), rfl, rfl⟩ ?_
                rintro n2093 H2088 _ _ ⟨n2087, hm, hle2089, rfl, rfl⟩
                cases n2093 with
                | zero => exact nomatch (hm2115 _).symm.trans hm
                | succ n2093 =>
                  have hm := (hm2114 _ _).symm.trans hm
                  generalize hn2092 : J2113 n2093 = nx2091 at hm
                  unfold m_slices_partitionCmpFunc_api_TelemetryMsg__telemetry_Points_List_1_b39 at hm
                  refine C_seq ?_
                  refine C_seq ?_
                  cases hb2099 : (decide (n1951 ≤ n2087))
                  · have hm := ite_f' hb2099 hm
                    refine rgp fm 13 [ph _, ph _, ph (.bool (false)), ph _, ph _, ph _, ph _, ph _, ph _, ph _, ph _, ph _, ph _] ⟨om, om, omb hb2099, om, om, om, om, om, om, om, om, om, om, trivial⟩ ?_
                    intro H2100 hle2101
                    rintro _ _ ⟨rfl, rfl⟩
                    rintro _ _ ⟨rfl, rfl⟩
                    rintro _ _ ⟨rfl, rfl⟩
                    rintro _ _ ⟨rfl, rfl⟩
                    rintro _ _ ⟨rfl, rfl⟩
                    rintro _ _ ⟨rfl, rfl⟩
                    rintro _ _ ⟨rfl, rfl⟩
                    rintro _ _ ⟨rfl, rfl⟩
                    rintro _ _ ⟨rfl, rfl⟩
                    rintro _ _ ⟨rfl, rfl⟩
                    rintro _ _ ⟨rfl, rfl⟩
                    rintro _ _ ⟨rfl, rfl⟩
                    rintro _ _ ⟨rfl, rfl⟩
                    refine isW ?_
                    refine W_no rfl rfl rfl ?_
                    refine W_no rfl rfl rfl ?_
                    refine W_no rfl rfl rfl ?_
                    refine W_pick rfl rfl rfl rfl ?_
                    refine W_end ?_
                    refine E_then ?_
                    refine cF rfl ?_
                    refine C_exit ?_
                    refine E_exit_then ?_
                    refine E_exit_then ?_
                    refine E_exit_hit ?_
                    exact kj (J2021 _ _ _ ⟨_, hm, (Hp.le_trans hle2089 hle2101), rfl, rfl⟩)
                  · have hm := ite_t' hb2099 hm
                    obtain ⟨y2102, h2103, he2104, hm⟩ := idx_some hm
                    obtain ⟨_, rfl, hg2105⟩ := (hr1874).elem he2104
                    obtain ⟨y2106, h2107, he2108, hm⟩ := idx_some hm
                    obtain ⟨_, rfl, hg2109⟩ := (hr1874).elem he2108
                    refine rgp fm 13 [ph _, ph _, ph (.bool (true)), ph _, ph _, ph _, ph _, ph (.pointer (some ((Value.base (v0)).add ((n2087 : Int).toNat * Rep.sz S_api_TelemetryMsg)))), ph (.agg [.string (y2102.Point), .int .i64 (y2102.Number), .int .i64 (y2102.Time), .int .i64 (y2102.Value)].toArray), ph _, ph _, ph (.pointer (some ((Value.base (v0)).add ((p1_a : Int).toNat * Rep.sz S_api_TelemetryMsg)))), ph (.agg [.string (y2106.Point), .int .i64 (y2106.Number), .int .i64 (y2106.Time), .int .i64 (y2106.Value)].toArray)] ⟨om, om, omb hb2099, om, om, om, om, ?_, ?_, om, om, ?_, ?_, trivial⟩ ?_
                    · intro HX hX X Rest hR
                      rintro _ _ ⟨rfl, rfl⟩
                      rintro _ _ ⟨rfl, rfl⟩
                      rintro _ _ ⟨rfl, rfl⟩
                      intro hU hUp
                      refine W_indexO (hR _ (List.mem_cons_self ..)) rfl rfl Proofs.Try.runUnderlying27 Proofs.Try.sizeOf29 rfl rfl h2103 (List.getElem?_eq_some_iff.1 he2104).1 ?_
                      exact o0 ⟨rfl, rfl⟩
                    · intro HX hX X Rest hR
                      rintro _ _ ⟨rfl, rfl⟩
                      rintro _ _ ⟨rfl, rfl⟩
                      intro hU hUp
                      refine W_loadAgg (cs := [.string (y2102.Point), .int .i64 (y2102.Number), .int .i64 (y2102.Time), .int .i64 (y2102.Value)]) rfl rfl Proofs.Try.isAgg29 Proofs.Try.sizeOf29 rfl (row_cells (hR _ (List.mem_cons_self ..)) hg2105) rfl ?_
                      exact o0 ⟨rfl, rfl⟩
                    · intro HX hX X Rest hR
                      rintro _ _ ⟨rfl, rfl⟩
                      rintro _ _ ⟨rfl, rfl⟩
                      rintro _ _ ⟨rfl, rfl⟩
                      intro hU hUp
                      refine W_indexO (hR _ (List.mem_cons_self ..)) rfl rfl Proofs.Try.runUnderlying27 Proofs.Try.sizeOf29 rfl rfl h2107 (List.getElem?_eq_some_iff.1 he2108).1 ?_
                      exact o0 ⟨rfl, rfl⟩
                    · intro HX hX X Rest hR
                      rintro _ _ ⟨rfl, rfl⟩
                      rintro _ _ ⟨rfl, rfl⟩
                      intro hU hUp
                      refine W_loadAgg (cs := [.string (y2106.Point), .int .i64 (y2106.Number), .int .i64 (y2106.Time), .int .i64 (y2106.Value)]) rfl rfl Proofs.Try.isAgg29 Proofs.Try.sizeOf29 rfl (row_cells (hR _ (List.mem_cons_self ..)) hg2109) rfl ?_
                      exact o0 ⟨rfl, rfl⟩
                    intro H2110 hle2111
                    rintro _ _ ⟨rfl, rfl⟩
                    rintro _ _ ⟨rfl, rfl⟩
                    rintro _ _ ⟨rfl, rfl⟩
                    rintro _ _ ⟨rfl, rfl⟩
                    rintro _ _ ⟨rfl, rfl⟩
                    rintro _ _ ⟨rfl, rfl⟩
                    rintro _ _ ⟨rfl, rfl⟩
                    rintro _ _ ⟨rfl, rfl⟩
                    rintro _ _ ⟨rfl, rfl⟩
                    rintro _ _ ⟨rfl, rfl⟩
                    rintro _ _ ⟨rfl, rfl⟩
                    rintro _ _ ⟨rfl, rfl⟩
                    rintro _ _ ⟨rfl, rfl⟩
                    refine isW ?_
                    refine W_callv Proofs.Try.call20 rfl rfl rfl rfl (fun w ht => by have h := m_telemetry_Points_List_1_c (hm := (rfl : m_telemetry_Points_List_1 y2102 y2106 = _))  ht; exact h) ?_
                    rintro _ _ _ ⟨rfl, rfl, rfl⟩
                    refine W_bin rfl rfl rfl rfl rfl ?_
                    refine W_un rfl rfl rfl rfl ?_
                    refine W_pick rfl rfl rfl rfl ?_
                    refine W_end ?_
                    refine E_then ?_
                    refine cd hm rfl (fun hb2112 hm => ?_) (fun hb2112 hm => ?_)
                    · refine C_skip ?_
                      refine E_then ?_
                      refine C_block ?_
                      refine C_region ?_
                      refine W_move rfl rfl rfl ?_
                      refine W_bin rfl rfl rfl rfl rfl ?_
                      refine W_assign rfl rfl rfl ?_
                      refine W_end ?_
                      refine E_normal_block ?_
                      exact kj (E_back (Nat.lt_succ_self _) ⟨_, ((congrFun hn2092 _).trans hm), (Hp.le_trans hle2089 hle2111), rfl, rfl⟩)
                    · refine C_exit ?_
                      refine E_exit_then ?_
                      refine E_exit_then ?_
                      refine E_exit_hit ?_
                      exact kj (J2021 _ _ _ ⟨_, hm, (Hp.le_trans hle2089 hle2111), rfl, rfl⟩)
            · refine C_block ?_
              obtain ⟨J2176, hm2177, hm2178, hm⟩ := loopF_nm hm
              refine cl [(0, _), (1, _), (4, _), (13, _)] [] 0 [] 0 (fun u m n H' M' L' => ∃ n2150 : Int, J2176 n n2150 = some r ∧ H1877.le H' ∧ m = M' ∧ (12, .int .i64 (n2150)) :: u = L') FUEL rfl ⟨_, hm, (Hp.le_refl _), rfl, rfl⟩ ?_
              rintro n2156 H2151 _ _ ⟨n2150, hm, hle2152, rfl, rfl⟩
              cases n2156 with
              | zero => exact nomatch (hm2178 _).symm.trans hm
              | succ n2156 =>
                have hm := (hm2177 _ _).symm.trans hm
                generalize hn2155 : J2176 n2156 = nx2154 at hm
                unfold m_slices_partitionCmpFunc_api_TelemetryMsg__telemetry_Points_List_1_b41 at hm
                refine C_seq ?_
                refine C_seq ?_
                cases hb2162 : (decide (n2150 ≤ n1876))
                · have hm := ite_f' hb2162 hm
                  refine rgp fm 13 [ph _, ph _, ph (.bool (false)), ph _, ph _, ph _, ph _, ph _, ph _, ph _, ph _, ph _, ph _] ⟨om, om, omb hb2162, om, om, om, om, om, om, om, om, om, om, trivial⟩ ?_
                  intro H2163 hle2164
                  rintro _ _ ⟨rfl, rfl⟩
                  rintro _ _ ⟨rfl, rfl⟩
                  rintro _ _ ⟨rfl, rfl⟩
                  rintro _ _ ⟨rfl, rfl⟩
                  rintro _ _ ⟨rfl, rfl⟩
                  rintro _ _ ⟨rfl, rfl⟩
                  rintro _ _ ⟨rfl, rfl⟩
                  rintro _ _ ⟨rfl, rfl⟩
                  rintro _ _ ⟨rfl, rfl⟩
                  rintro _ _ ⟨rfl, rfl⟩
                  rintro _ _ ⟨rfl, rfl⟩
                  rintro _ _ ⟨rfl, rfl⟩
                  rintro _ _ ⟨rfl, rfl⟩
                  refine isW ?_
                  refine W_no rfl rfl rfl ?_
                  refine W_no rfl rfl rfl ?_
                  refine W_pick rfl rfl rfl rfl ?_
                  refine W_end ?_
                  refine E_then ?_
                  refine cF rfl ?_
                  refine C_exit ?_
                  refine E_exit_then ?_
                  refine E_exit_then ?_
                  refine E_exit_hit ?_
                  exact kj (J1954 _ _ _ ⟨_, hm, (Hp.le_trans hle2152 hle2164), rfl, rfl⟩)
                · have hm := ite_t' hb2162 hm
                  obtain ⟨y2165, h2166, he2167, hm⟩ := idx_some hm
                  obtain ⟨_, rfl, hg2168⟩ := (hr1874).elem he2167
                  obtain ⟨y2169, h2170, he2171, hm⟩ := idx_some hm
                  obtain ⟨_, rfl, hg2172⟩ := (hr1874).elem he2171
                  refine rgp fm 13 [ph _, ph _, ph (.bool (true)), ph _, ph _, ph _, ph _, ph (.pointer (some ((Value.base (v0)).add ((n2150 : Int).toNat * Rep.sz S_api_TelemetryMsg)))), ph (.agg [.string (y2165.Point), .int .i64 (y2165.Number), .int .i64 (y2165.Time), .int .i64 (y2165.Value)].toArray), ph _, ph _, ph (.pointer (some ((Value.base (v0)).add ((p1_a : Int).toNat * Rep.sz S_api_TelemetryMsg)))), ph (.agg [.string (y2169.Point), .int .i64 (y2169.Number), .int .i64 (y2169.Time), .int .i64 (y2169.Value)].toArray)] ⟨om, om, omb hb2162, om, om, om, om, ?_, ?_, om, om, ?_, ?_, trivial⟩ ?_
                  · intro HX hX X Rest hR
                    rintro _ _ ⟨rfl, rfl⟩
                    rintro _ _ ⟨rfl, rfl⟩
                    rintro _ _ ⟨rfl, rfl⟩
                    intro hU hUp
                    refine W_indexO (hR _ (List.mem_cons_self ..)) rfl rfl Proofs.Try.runUnderlying27 Proofs.Try.sizeOf29 rfl rfl h2166 (List.getElem?_eq_some_iff.1 he2167).1 ?_
                    exact o0 ⟨rfl, rfl⟩
                  · intro HX hX X Rest hR
                    rintro _ _ ⟨rfl, rfl⟩
                    rintro _ _ ⟨rfl, rfl⟩
                    intro hU hUp
                    refine W_loadAgg (cs := [.string (y2165.Point), .int .i64 (y2165.Number), .int .i64 (y2165.Time), .int .i64 (y2165.Value)]) rfl rfl Proofs.Try.isAgg29 Proofs.Try.sizeOf29 rfl (row_cells (hR _ (List.mem_cons_self ..)) hg2168) rfl ?_
                    exact o0 ⟨rfl, rfl⟩
                  · intro HX hX X Rest hR
                    rintro _ _ ⟨rfl, rfl⟩
                    rintro _ _ ⟨rfl, rfl⟩
                    rintro _ _ ⟨rfl, rfl⟩
                    intro hU hUp
                    refine W_indexO (hR _ (List.mem_cons_self ..)) rfl rfl Proofs.Try.runUnderlying27 Proofs.Try.sizeOf29 rfl rfl h2170 (List.getElem?_eq_some_iff.1 he2171).1 ?_
                    exact o0 ⟨rfl, rfl⟩
                  · intro HX hX X Rest hR
                    rintro _ _ ⟨rfl, rfl⟩
                    rintro _ _ ⟨rfl, rfl⟩
                    intro hU hUp
                    refine W_loadAgg (cs := [.string (y2169.Point), .int .i64 (y2169.Number), .int .i64 (y2169.Time), .int .i64 (y2169.Value)]) rfl rfl Proofs.Try.isAgg29 Proofs.Try.sizeOf29 rfl (row_cells (hR _ (List.mem_cons_self ..)) hg2172) rfl ?_
                    exact o0 ⟨rfl, rfl⟩
                  intro H2173 hle2174
                  rintro _ _ ⟨rfl, rfl⟩
                  rintro _ _ ⟨rfl, rfl⟩
                  rintro _ _ ⟨rfl, rfl⟩
                  rintro _ _ ⟨rfl, rfl⟩
                  rintro _ _ ⟨rfl, rfl⟩
                  rintro _ _ ⟨rfl, rfl⟩
                  rintro _ _ ⟨rfl, rfl⟩
                  rintro _ _ ⟨rfl, rfl⟩
                  rintro _ _ ⟨rfl, rfl⟩
                  rintro _ _ ⟨rfl, rfl⟩
                  rintro _ _ ⟨rfl, rfl⟩
                  rintro _ _ ⟨rfl, rfl⟩
                  rintro _ _ ⟨rfl, rfl⟩
                  refine isW ?_
                  refine W_callv Proofs.Try.call20 rfl rfl rfl rfl (fun w ht => by have h := m_telemetry_Points_List_1_c (hm := (rfl : m_telemetry_Points_List_1 y2165 y2169 = _))  ht; exact h) ?_
                  rintro _ _ _ ⟨rfl, rfl, rfl⟩
                  refine W_bin rfl rfl rfl rfl rfl ?_
                  refine W_pick rfl rfl rfl rfl ?_
                  refine W_end ?_
                  refine E_then ?_
                  refine cd hm rfl (fun hb2175 hm => ?_) (fun hb2175 hm => ?_)
                  · refine C_skip ?_
                    refine E_then ?_
                    refine C_block ?_
                    refine C_region ?_
                    refine W_move rfl rfl rfl ?_
                    refine W_bin rfl rfl rfl rfl rfl ?_
                    refine W_assign rfl rfl rfl ?_
                    refine W_end ?_
                    refine E_normal_block ?_
                    exact kj (E_back (Nat.lt_succ_self _) ⟨_, ((congrFun hn2155 _).trans hm), (Hp.le_trans hle2152 hle2174), rfl, rfl⟩)
                  · refine C_exit ?_
                    refine E_exit_then ?_
                    refine E_exit_then ?_
                    refine E_exit_hit ?_
                    exact kj (J1954 _ _ _ ⟨_, hm, (Hp.le_trans hle2152 hle2174), rfl, rfl⟩)
    · refine C_block ?_
      obtain ⟨J2242, hm2243, hm2244, hm⟩ := loopF_nm hm
      refine cl [(0, _), (1, _), (4, _), (12, _)] [] 0 [] 0 (fun u m n H' M' L' => ∃ n2216 : Int, J2242 n n2216 = some r ∧ H195.le H' ∧ m = M' ∧ (13, .int .i64 (n2216)) :: u = L') FUEL rfl ⟨_, hm, (Hp.le_refl _), rfl, rfl⟩ ?_
      rintro n2222 H2217 _ _ ⟨n2216, hm, hle2218, rfl, rfl⟩
      cases n2222 with
      | zero => exact nomatch (hm2244 _).symm.trans hm
      | succ n2222 =>
        have hm := (hm2243 _ _).symm.trans hm
        generalize hn2221 : J2242 n2222 = nx2220 at hm
        unfold m_slices_partitionCmpFunc_api_TelemetryMsg__telemetry_Points_List_1_b43 at hm
        refine C_seq ?_
        refine C_seq ?_
        cases hb2228 : (decide (n194 ≤ n2216))
        · have hm := ite_f' hb2228 hm
          refine rgp fm 13 [ph _, ph _, ph (.bool (false)), ph _, ph _, ph _, ph _, ph _, ph _, ph _, ph _, ph _, ph _] ⟨om, om, omb hb2228, om, om, om, om, om, om, om, om, om, om, trivial⟩ ?_
          intro H2229 hle2230
          rintro _ _ ⟨rfl, rfl⟩
          rintro _ _ ⟨rfl, rfl⟩
          rintro _ _ ⟨rfl, rfl⟩
          rintro _ _ ⟨rfl, rfl⟩
          rintro _ _ ⟨rfl, rfl⟩
          rintro _ _ ⟨rfl, rfl⟩
          rintro _ _ ⟨rfl, rfl⟩
          rintro _ _ ⟨rfl, rfl⟩
          rintro _ _ ⟨rfl, rfl⟩
          rintro _ _ ⟨rfl, rfl⟩
          rintro _ _ ⟨rfl, rfl⟩
          rintro _ _ ⟨rfl, rfl⟩
          rintro _ _ ⟨rfl, rfl⟩
          refine isW ?_
          refine W_no rfl rfl rfl ?_
          refine W_no rfl rfl rfl ?_
          refine W_no rfl rfl rfl ?_
          refine W_pick rfl rfl rfl rfl ?_
          refine W_end ?_
          refine E_then ?_
          refine cF rfl ?_
          refine C_exit ?_
          refine E_exit_then ?_
          refine E_exit_then ?_
          refine E_exit_hit ?_
          exact kj (J264 _ _ _ ⟨_, hm, (Hp.le_trans hle2218 hle2230), rfl, rfl⟩)
        · have hm := ite_t' hb2228 hm
          obtain ⟨y2231, h2232, he2233, hm⟩ := idx_some hm
          obtain ⟨_, rfl, hg2234⟩ := (hr127).elem he2233
          obtain ⟨y2235, h2236, he2237, hm⟩ := idx_some hm
          obtain ⟨_, rfl, hg2238⟩ := (hr127).elem he2237
          refine rgp fm 13 [ph _, ph _, ph (.bool (true)), ph _, ph _, ph _, ph _, ph (.pointer (some ((Value.base (v0)).add ((n2216 : Int).toNat * Rep.sz S_api_TelemetryMsg)))), ph (.agg [.string (y2231.Point), .int .i64 (y2231.Number), .int .i64 (y2231.Time), .int .i64 (y2231.Value)].toArray), ph _, ph _, ph (.pointer (some ((Value.base (v0)).add ((p1_a : Int).toNat * Rep.sz S_api_TelemetryMsg)))), ph (.agg [.string (y2235.Point), .int .i64 (y2235.Number), .int .i64 (y2235.Time), .int .i64 (y2235.Value)].toArray)] ⟨om, om, omb hb2228, om, om, om, om, ?_, ?_, om, om, ?_, ?_, trivial⟩ ?_
          · intro HX hX X Rest hR
            rintro _ _ ⟨rfl, rfl⟩
            rintro _ _ ⟨rfl, rfl⟩
            rintro _ _ ⟨rfl, rfl⟩
            intro hU hUp
            refine W_indexO (hR _ (List.mem_cons_self ..)) rfl rfl Proofs.Try.runUnderlying27 Proofs.Try.sizeOf29 rfl rfl h2232 (List.getElem?_eq_some_iff.1 he2233).1 ?_
            exact o0 ⟨rfl, rfl⟩
          · intro HX hX X Rest hR
            rintro _ _ ⟨rfl, rfl⟩
            rintro _ _ ⟨rfl, rfl⟩
            intro hU hUp
            refine W_loadAgg (cs := [.string (y2231.Point), .int .i64 (y2231.Number), .int .i64 (y2231.Time), .int .i64 (y2231.Value)]) rfl rfl Proofs.Try.isAgg29 Proofs.Try.sizeOf29 rfl (row_cells (hR _ (List.mem_cons_self ..)) hg2234) rfl ?_
            exact o0 ⟨rfl, rfl⟩
          · intro HX hX X Rest hR
            rintro _ _ ⟨rfl, rfl⟩
            rintro _ _ ⟨rfl, rfl⟩
            rintro _ _ ⟨rfl, rfl⟩
            intro hU hUp
            refine W_indexO (hR _ (List.mem_cons_self ..)) rfl rfl Proofs.Try.runUnderlying27 Proofs.Try.sizeOf29 rfl rfl h2236 (List.getElem?_eq_some_iff.1 he2237).1 ?_
            exact o0 ⟨rfl, rfl⟩
          · intro HX hX X Rest hR
            rintro _ _ ⟨rfl, rfl⟩
            rintro _ _ ⟨rfl, rfl⟩
            intro hU hUp
            refine W_loadAgg (cs := [.string (y2235.Point), .int .i64 (y2235.Number), .int .i64 (y2235.Time), .int .i64 (y2235.Value)]) rfl rfl Proofs.Try.isAgg29 Proofs.Try.sizeOf29 rfl (row_cells (hR _ (List.mem_cons_self ..)) hg2238) rfl ?_
            exact o0 ⟨rfl, rfl⟩
          intro H2239 hle2240
          rintro _ _ ⟨rfl, rfl⟩
          rintro _ _ ⟨rfl, rfl⟩
          rintro _ _ ⟨rfl, rfl⟩
          rintro _ _ ⟨rfl, rfl⟩
          rintro _ _ ⟨rfl, rfl⟩
          rintro _ _ ⟨rfl, rfl⟩
          rintro _ _ ⟨rfl, rfl⟩
          rintro _ _ ⟨rfl, rfl⟩
          rintro _ _ ⟨rfl, rfl⟩
          rintro _ _ ⟨rfl, rfl⟩
          rintro _ _ ⟨rfl, rfl⟩
          rintro _ _ ⟨rfl, rfl⟩
          rintro _ _ ⟨rfl, rfl⟩
          refine isW ?_
          refine W_callv Proofs.Try.call20 rfl rfl rfl rfl (fun w ht => by have h := m_telemetry_Points_List_1_c (hm := (rfl : m_telemetry_Points_List_1 y2231 y2235 = _))  ht; exact h) ?_
          rintro _ _ _ ⟨rfl, rfl, rfl⟩
          refine W_bin rfl rfl rfl rfl rfl ?_
          refine W_un rfl rfl rfl rfl ?_
          refine W_pick rfl rfl rfl rfl ?_
          refine W_end ?_
          refine E_then ?_
          refine cd hm rfl (fun hb2241 hm => ?_) (fun hb2241 hm => ?_)
          · refine C_skip ?_
            refine E_then ?_
            refine C_block ?_
            refine C_region ?_
            refine W_move rfl rfl rfl ?_
            refine W_bin rfl rfl rfl rfl rfl ?_
            refine W_assign rfl rfl rfl ?_
            refine W_end ?_
            refine E_normal_block ?_
            exact kj (E_back (Nat.lt_succ_self _) ⟨_, ((congrFun hn2221 _).trans hm), (Hp.le_trans hle2218 hle2240), rfl, rfl⟩)
          · refine C_exit ?_
            refine E_exit_then ?_
            refine E_exit_then ?_
            refine E_exit_hit ?_
            exact kj (J264 _ _ _ ⟨_, hm, (Hp.le_trans hle2218 hle2240), rfl, rfl⟩)
  · refine C_block ?_
    obtain ⟨J2305, hm2306, hm2307, hm⟩ := loopF_nm hm
    refine cl [(0, _), (1, _), (4, _), (13, _)] [] 0 [] 0 (fun u m n H' M' L' => ∃ n2279 : Int, J2305 n n2279 = some r ∧ H121.le H' ∧ m = M' ∧ (12, .int .i64 (n2279)) :: u = L') FUEL rfl ⟨_, hm, (Hp.le_refl _), rfl, rfl⟩ ?_
    rintro n2285 H2280 _ _ ⟨n2279, hm, hle2281, rfl, rfl⟩
    cases n2285 with
    | zero => exact nomatch (hm2307 _).symm.trans hm
    | succ n2285 =>
      have hm := (hm2306 _ _).symm.trans hm
      generalize hn2284 : J2305 n2285 = nx2283 at hm
      unfold m_slices_partitionCmpFunc_api_TelemetryMsg__telemetry_Points_List_1_b45 at hm
      refine C_seq ?_
      refine C_seq ?_
      cases hb2291 : (decide (n2279 ≤ (IntKind.i64.wrap (p2_b - 1))))
      · have hm := ite_f' hb2291 hm
        refine rgp fm 13 [ph _, ph _, ph (.bool (false)), ph _, ph _, ph _, ph _, ph _, ph _, ph _, ph _, ph _, ph _] ⟨om, om, omb hb2291, om, om, om, om, om, om, om, om, om, om, trivial⟩ ?_
        intro H2292 hle2293
        rintro _ _ ⟨rfl, rfl⟩
        rintro _ _ ⟨rfl, rfl⟩
        rintro _ _ ⟨rfl, rfl⟩
        rintro _ _ ⟨rfl, rfl⟩
        rintro _ _ ⟨rfl, rfl⟩
        rintro _ _ ⟨rfl, rfl⟩
        rintro _ _ ⟨rfl, rfl⟩
        rintro _ _ ⟨rfl, rfl⟩
        rintro _ _ ⟨rfl, rfl⟩
        rintro _ _ ⟨rfl, rfl⟩
        rintro _ _ ⟨rfl, rfl⟩
        rintro _ _ ⟨rfl, rfl⟩
        rintro _ _ ⟨rfl, rfl⟩
        refine isW ?_
        refine W_no rfl rfl rfl ?_
        refine W_no rfl rfl rfl ?_
        refine W_pick rfl rfl rfl rfl ?_
        refine W_end ?_
        refine E_then ?_
        refine cF rfl ?_
        refine C_exit ?_
        refine E_exit_then ?_
        refine E_exit_then ?_
        refine E_exit_hit ?_
        exact kj (J197 _ _ _ ⟨_, hm, (Hp.le_trans hle2281 hle2293), rfl, rfl⟩)
      · have hm := ite_t' hb2291 hm
        obtain ⟨y2294, h2295, he2296, hm⟩ := idx_some hm
        obtain ⟨_, rfl, hg2297⟩ := (hr127).elem he2296
        obtain ⟨y2298, h2299, he2300, hm⟩ := idx_some hm
        obtain ⟨_, rfl, hg2301⟩ := (hr127).elem he2300
        refine rgp fm 13 [ph _, ph _, ph (.bool (true)), ph _, ph _, ph _, ph _, ph (.pointer (some ((Value.base (v0)).add ((n2279 : Int).toNat * Rep.sz S_api_TelemetryMsg)))), ph (.agg [.string (y2294.Point), .int .i64 (y2294.Number), .int .i64 (y2294.Time), .int .i64 (y2294.Value)].toArray), ph _, ph _, ph (.pointer (some ((Value.base (v0)).add ((p1_a : Int).toNat * Rep.sz S_api_TelemetryMsg)))), ph (.agg [.string (y2298.Point), .int .i64 (y2298.Number), .int .i64 (y2298.Time), .int .i64 (y2298.Value)].toArray)] ⟨om, om, omb hb2291, om, om, om, om, ?_, ?_, om, om, ?_, ?_, trivial⟩ ?_
        · intro HX hX X Rest hR
          rintro _ _ ⟨rfl, rfl⟩
          rintro _ _ ⟨rfl, rfl⟩
          rintro _ _ ⟨rfl, rfl⟩
          intro hU hUp
          refine W_indexO (hR _ (List.mem_cons_self ..)) rfl rfl Proofs.Try.runUnderlying27 Proofs.Try.sizeOf29 rfl rfl h2295 (List.getElem?_eq_some_iff.1 he2296).1 ?_
          exact o0 ⟨rfl, rfl⟩
        · intro HX hX X Rest hR
          rintro _ _ ⟨rfl, rfl⟩
          rintro _ _ ⟨rfl, rfl⟩
          intro hU hUp
          refine W_loadAgg (cs := [.string (y2294.Point), .int .i64 (y2294.Number), .int .i64 (y2294.Time), .int .i64 (y2294.Value)]) rfl rfl Proofs.Try.isAgg29 Proofs.Try.sizeOf29 rfl (row_cells (hR _ (List.mem_cons_self ..)) hg2297) rfl ?_
          exact o0 ⟨rfl, rfl⟩
        · intro HX hX X Rest hR
          rintro _ _ ⟨rfl, rfl⟩
          rintro _ _ ⟨rfl, rfl⟩
          rintro _ _ ⟨rfl, rfl⟩
          intro hU hUp
          refine W_indexO (hR _ (List.mem_cons_self ..)) rfl rfl Proofs.Try.runUnderlying27 Proofs.Try.sizeOf29 rfl rfl h2299 (List.getElem?_eq_some_iff.1 he2300).1 ?_
          exact o0 ⟨rfl, rfl⟩
        · intro HX hX X Rest hR
          rintro _ _ ⟨rfl, rfl⟩
          rintro _ _ ⟨rfl, rfl⟩
          intro hU hUp
          refine W_loadAgg (cs := [.string (y2298.Point), .int .i64 (y2298.Number), .int .i64 (y2298.Time), .int .i64 (y2298.Value)]) rfl rfl Proofs.Try.isAgg29 Proofs.Try.sizeOf29 rfl (row_cells (hR _ (List.mem_cons_self ..)) hg2301) rfl ?_
          exact o0 ⟨rfl, rfl⟩
        intro H2302 hle2303
        rintro _ _ ⟨rfl, rfl⟩
        rintro _ _ ⟨rfl, rfl⟩
        rintro _ _ ⟨rfl, rfl⟩
        rintro _ _ ⟨rfl, rfl⟩
        rintro _ _ ⟨rfl, rfl⟩
        rintro _ _ ⟨rfl, rfl⟩
        rintro _ _ ⟨rfl, rfl⟩
        rintro _ _ ⟨rfl, rfl⟩
        rintro _ _ ⟨rfl, rfl⟩
        rintro _ _ ⟨rfl, rfl⟩
        rintro _ _ ⟨rfl, rfl⟩
        rintro _ _ ⟨rfl, rfl⟩
        rintro _ _ ⟨rfl, rfl⟩
        refine isW ?_
        refine W_callv Proofs.Try.call20 rfl rfl rfl rfl (fun w ht => by have h := m_telemetry_Points_List_1_c (hm := (rfl : m_telemetry_Points_List_1 y2294 y2298 = _))  ht; exact h) ?_
        rintro _ _ _ ⟨rfl, rfl, rfl⟩
        refine W_bin rfl rfl rfl rfl rfl ?_
        refine W_pick rfl rfl rfl rfl ?_
        refine W_end ?_
        refine E_then ?_
        refine cd hm rfl (fun hb2304 hm => ?_) (fun hb2304 hm => ?_)
        · refine C_skip ?_
          refine E_then ?_
          refine C_block ?_
          refine C_region ?_
          refine W_move rfl rfl rfl ?_
          refine W_bin rfl rfl rfl rfl rfl ?_
          refine W_assign rfl rfl rfl ?_
          refine W_end ?_
          refine E_normal_block ?_
          exact kj (E_back (Nat.lt_succ_self _) ⟨_, ((congrFun hn2284 _).trans hm), (Hp.le_trans hle2281 hle2303), rfl, rfl⟩)
        · refine C_exit ?_
          refine E_exit_then ?_
          refine E_exit_then ?_
          refine E_exit_hit ?_
          exact kj (J197 _ _ _ ⟨_, hm, (Hp.le_trans hle2281 hle2303), rfl, rfl⟩)

theorem m_slices_partitionEqualCmpFunc_api_TelemetryMsg__telemetry_Points_List_1_c {B : Nat} {w0 : Bs Proofs.Try.prog} {w : World} {H : Hp} {M : List Res} {data : (List S_api_TelemetryMsg)} {p1_a : Int} {p2_b : Int} {pivot : Int} {v0 : Value} {xs0 : List Value} {r : Int × (List S_api_TelemetryMsg)} (hm : m_slices_partitionEqualCmpFunc_api_TelemetryMsg__telemetry_Points_List_1 data p1_a p2_b pivot = some r) (h0 : Rw H v0 xs0 data) (ht : St B w0 H (.row v0 29 (Rep.sz S_api_TelemetryMsg) data.length xs0 :: M) w) :
    Calls Proofs.Try.prog 58 [v0, .int .i64 (p1_a), .int .i64 (p2_b), .int .i64 (pivot), .func (.func 20) [].toArray [].toArray].toArray w (Ret B w0 fun H' M' v => H = H' ∧ ∃ qxs0 : List Value, .row v0 29 (Rep.sz S_api_TelemetryMsg) r.2.length qxs0 :: M = M' ∧ .int .i64 (r.1) = v ∧ RwF v0 qxs0 r.2) := by
  unfold m_slices_partitionEqualCmpFunc_api_TelemetryMsg__telemetry_Points_List_1 at hm
  refine enter Proofs.Try.func58 rfl rfl rfl ht ?_
  refine C_seq ?_
  refine C_region ?_
  refine W_assign rfl rfl rfl ?_
  refine W_end ?_
  refine E_then ?_
  refine C_seq ?_
  obtain ⟨y101, h102, he103, hm⟩ := idx_some hm
  obtain ⟨_, rfl, hg104⟩ := (h0).elem he103
  obtain ⟨y105, h106, he107, hm⟩ := idx_some hm
  obtain ⟨_, rfl, hg108⟩ := (h0).elem he107
  obtain ⟨y109, h110, he111, hm⟩ := idx_some hm
  obtain ⟨_, rfl, hg112⟩ := (h0).elem he111
  refine rgx fm 14 [ph _, ph _, ph _, ph _, ph _, ph _, ph (.pointer (some ((Value.base (v0)).add ((pivot : Int).toNat * Rep.sz S_api_TelemetryMsg)))), ph (.agg [.string (y101.Point), .int .i64 (y101.Number), .int .i64 (y101.Time), .int .i64 (y101.Value)].toArray), ph _, ph _, ph (.pointer (some ((Value.base (v0)).add ((p1_a : Int).toNat * Rep.sz S_api_TelemetryMsg)))), ph (.agg [.string (y105.Point), .int .i64 (y105.Number), .int .i64 (y105.Time), .int .i64 (y105.Value)].toArray), ph (.pointer (some ((Value.base (v0)).add ((p1_a : Int).toNat * Rep.sz S_api_TelemetryMsg)))), (fun H rs v => ∃ xs120 : List Value, [.row v0 29 (Rep.sz S_api_TelemetryMsg) (data.set ((p1_a : Int).toNat) y101).length xs120] = rs ∧ .pointer (some ((Value.base (v0)).add ((p1_a : Int).toNat * Rep.sz S_api_TelemetryMsg))) = v ∧ Rw H v0 xs120 (data.set ((p1_a : Int).toNat) y101))] (sp 14 [(13, [14])]) [[], [], [], [], [], [], [14], [14], [], [], [14], [14], [14], []] [0] [0, 1, 2, 3, 4, 5, 6, 7, 8, 9, 10, 11, 12, 13] rfl ⟨om, om, om, om, om, om, ?_, ?_, om, om, ?_, ?_, ?_, ?_, trivial⟩ ?_
  · intro HX hX X Rest hR
    rintro _ _ ⟨rfl, rfl⟩
    rintro _ _ ⟨rfl, rfl⟩
    intro hU hUp
    have hU2 : ∀ s ∈ [.row v0 29 (Rep.sz S_api_TelemetryMsg) data.length xs0], s ∈ Rest := hU
    refine W_indexO (hU2 _ (List.mem_cons_self ..)) rfl rfl Proofs.Try.runUnderlying27 Proofs.Try.sizeOf29 rfl rfl h102 (List.getElem?_eq_some_iff.1 he103).1 ?_
    exact o0 ⟨rfl, rfl⟩
  · intro HX hX X Rest hR
    rintro _ _ ⟨rfl, rfl⟩
    intro hU hUp
    have hU2 : ∀ s ∈ [.row v0 29 (Rep.sz S_api_TelemetryMsg) data.length xs0], s ∈ Rest := hU
    refine W_loadAgg (cs := [.string (y101.Point), .int .i64 (y101.Number), .int .i64 (y101.Time), .int .i64 (y101.Value)]) rfl rfl Proofs.Try.isAgg29 Proofs.Try.sizeOf29 rfl (row_cells (hU2 _ (List.mem_cons_self ..)) hg104) rfl ?_
    exact o0 ⟨rfl, rfl⟩
  · intro HX hX X Rest hR
    rintro _ _ ⟨rfl, rfl⟩
    rintro _ _ ⟨rfl, rfl⟩
    intro hU hUp
    have hU2 : ∀ s ∈ [.row v0 29 (Rep.sz S_api_TelemetryMsg) data.length xs0], s ∈ Rest := hU
    refine W_indexO (hU2 _ (List.mem_cons_self ..)) rfl rfl Proofs.Try.runUnderlying27 Proofs.Try.sizeOf29 rfl rfl h106 (List.getElem?_eq_some_iff.1 he107).1 ?_
    exact o0 ⟨rfl, rfl⟩
  · intro HX hX X Rest hR
    rintro _ _ ⟨rfl, rfl⟩
    intro hU hUp
    have hU2 : ∀ s ∈ [.row v0 29 (Rep.sz S_api_TelemetryMsg) data.length xs0], s ∈ Rest := hU
    refine W_loadAgg (cs := [.string (y105.Point), .int .i64 (y105.Number), .int .i64 (y105.Time), .int .i64 (y105.Value)]) rfl rfl Proofs.Try.isAgg29 Proofs.Try.sizeOf29 rfl (row_cells (hU2 _ (List.mem_cons_self ..)) hg108) rfl ?_
    exact o0 ⟨rfl, rfl⟩
  · intro HX hX X Rest hR
    rintro _ _ ⟨rfl, rfl⟩
    rintro _ _ ⟨rfl, rfl⟩
    rintro _ _ ⟨rfl, rfl⟩
    rintro _ _ ⟨rfl, rfl⟩
    rintro _ _ ⟨rfl, rfl⟩
    rintro _ _ ⟨rfl, rfl⟩
    rintro _ _ ⟨rfl, rfl⟩
    rintro _ _ ⟨rfl, rfl⟩
    rintro _ _ ⟨rfl, rfl⟩
    intro hU hUp
    have hU2 : ∀ s ∈ [.row v0 29 (Rep.sz S_api_TelemetryMsg) data.length xs0], s ∈ Rest := hU
    refine W_indexO (hU2 _ (List.mem_cons_self ..)) rfl rfl Proofs.Try.runUnderlying27 Proofs.Try.sizeOf29 rfl rfl h110 (List.getElem?_eq_some_iff.1 he111).1 ?_
    exact o0 ⟨rfl, rfl⟩
  · intro HX hX X Rest hR
    rintro _ _ ⟨rfl, rfl⟩
    rintro _ _ ⟨rfl, rfl⟩
    rintro _ _ ⟨rfl, rfl⟩
    rintro _ _ ⟨rfl, rfl⟩
    rintro _ _ ⟨rfl, rfl⟩
    rintro _ _ ⟨rfl, rfl⟩
    rintro _ _ ⟨rfl, rfl⟩
    rintro _ _ ⟨rfl, rfl⟩
    rintro _ _ ⟨rfl, rfl⟩
    intro hU hUp
    refine Wp [0] ?_
    obtain ⟨hr117, he118, hg119⟩ := Rw.put (cs := [.string (y101.Point), .int .i64 (y101.Number), .int .i64 (y101.Time), .int .i64 (y101.Value)]) (o := 0) (c := [.string (y109.Point), .int .i64 (y109.Number), .int .i64 (y109.Time), .int .i64 (y109.Value)]) (out := [.string (y101.Point), .int .i64 (y101.Number), .int .i64 (y101.Time), .int .i64 (y101.Value)]) (e2 := y101) (h0.mono hX) he111 rfl hg112 rfl rfl rfl
    refine W_storeO2 (i := (p1_a : Int).toNat * Rep.sz S_api_TelemetryMsg + 0) (cs := [.string (y101.Point), .int .i64 (y101.Number), .int .i64 (y101.Time), .int .i64 (y101.Value)]) rfl Proofs.Try.sizeOf29 rfl (row_ad0 _ _) rfl rfl rfl (Rw.room (h0.mono hX) he111 rfl) rfl (all_cons rfl (all_cons rfl (all_cons rfl (all_cons rfl all_nil)))) (n' := (data.set ((p1_a : Int).toNat) y101).length) List.length_set ?_
    generalize over xs0 ((p1_a : Int).toNat * Rep.sz S_api_TelemetryMsg + 0) [.string (y101.Point), .int .i64 (y101.Number), .int .i64 (y101.Time), .int .i64 (y101.Value)] = xs120 at hr117 hg119 ⊢
    exact W_end (OneT_endL rfl [.row v0 29 (Rep.sz S_api_TelemetryMsg) (data.set ((p1_a : Int).toNat) y101).length xs120] (Hp.le_refl _) ⟨xs120, rfl, rfl, (hr117)⟩)
  intro H121 hle122
  rintro _ _ ⟨rfl, rfl⟩
  rintro _ _ ⟨rfl, rfl⟩
  rintro _ _ ⟨rfl, rfl⟩
  rintro _ _ ⟨rfl, rfl⟩
  rintro _ _ ⟨rfl, rfl⟩
  rintro _ _ ⟨rfl, rfl⟩
  rintro _ _ ⟨rfl, rfl⟩
  rintro _ _ ⟨rfl, rfl⟩
  rintro _ _ ⟨rfl, rfl⟩
  rintro _ _ ⟨rfl, rfl⟩
  rintro _ _ ⟨rfl, rfl⟩
  rintro _ _ ⟨rfl, rfl⟩
  rintro _ _ ⟨rfl, rfl⟩
  rintro _ _ _ ⟨xs120, rfl, _, hr117⟩
  refine isW ?_
  refine Wp [0] ?_
  obtain ⟨y123, h124, he125, hm⟩ := idx_some hm
  refine W_indexO (List.mem_cons_self ..) rfl rfl Proofs.Try.runUnderlying27 Proofs.Try.sizeOf29 rfl rfl h124 (List.getElem?_eq_some_iff.1 he125).1 ?_
  obtain ⟨_, rfl, hg126⟩ := (hr117).elem he125
  obtain ⟨hr127, he128, hg129⟩ := Rw.put (cs := [.string (y105.Point), .int .i64 (y105.Number), .int .i64 (y105.Time), .int .i64 (y105.Value)]) (o := 0) (c := [.string (y123.Point), .int .i64 (y123.Number), .int .i64 (y123.Time), .int .i64 (y123.Value)]) (out := [.string (y105.Point), .int .i64 (y105.Number), .int .i64 (y105.Time), .int .i64 (y105.Value)]) (e2 := y105) hr117 he125 rfl hg126 rfl rfl rfl
  refine W_storeO2 (i := (pivot : Int).toNat * Rep.sz S_api_TelemetryMsg + 0) (cs := [.string (y105.Point), .int .i64 (y105.Number), .int .i64 (y105.Time), .int .i64 (y105.Value)]) rfl Proofs.Try.sizeOf29 rfl (row_ad0 _ _) rfl rfl rfl (Rw.room hr117 he125 rfl) rfl (all_cons rfl (all_cons rfl (all_cons rfl (all_cons rfl all_nil)))) (n' := ((data.set ((p1_a : Int).toNat) y101).set ((pivot : Int).toNat) y105).length) List.length_set ?_
  generalize over xs120 ((pivot : Int).toNat * Rep.sz S_api_TelemetryMsg + 0) [.string (y105.Point), .int .i64 (y105.Number), .int .i64 (y105.Time), .int .i64 (y105.Value)] = xs130 at hr127 hg129 ⊢
  refine W_end ?_
  refine E_then ?_
  refine C_seq ?_
  refine C_region ?_
  refine W_move rfl rfl rfl ?_
  refine W_bin rfl rfl rfl rfl rfl ?_
  refine W_move rfl rfl rfl ?_
  refine W_bin rfl rfl rfl rfl rfl ?_
  refine W_assign rfl rfl rfl ?_
  refine W_assign rfl rfl rfl ?_
  refine W_end ?_
  refine E_then ?_
  refine cj [] [] 1 (fun u m H' M' L' => ∃ n1040 : Int, ∃ l1043 : List S_api_TelemetryMsg, ∃ xs1042 : List Value, m_slices_partitionEqualCmpFunc_api_TelemetryMsg__telemetry_Points_List_1_b20 n1040 l1043 = some r ∧ Rw H' v0 xs1042 l1043 ∧ H121.le H' ∧ .row v0 29 (Rep.sz S_api_TelemetryMsg) l1043.length xs1042 :: m = M' ∧ (11, .int .i64 (n1040)) :: u = L') ?_ (fun J1047 => ?_)
  · rintro H1045 _ _ ⟨n1040, l1043, xs1042, hm, hr1044, hle1046, rfl, rfl⟩
    unfold m_slices_partitionEqualCmpFunc_api_TelemetryMsg__telemetry_Points_List_1_b20 at hm
    refine C_seq ?_
    refine C_region ?_
    refine W_move rfl rfl rfl ?_
    refine W_assign rfl rfl rfl ?_
    refine W_end ?_
    refine E_then ?_
    refine C_ret ?_
    obtain rfl := Option.some.inj hm
    refine E_weak (Hp.le_trans hle122 hle1046) ?_
    exact end1 rfl rfl ⟨rfl, xs1042, rfl, rfl, (hr1044).toF⟩
  · refine C_block ?_
    obtain ⟨J1954, hm1955, hm1956, hm⟩ := loopF_nm hm
    refine cl [(0, _), (1, _), (4, _)] [] 1 [] 0 (fun u m n H' M' L' => ∃ l1648 : List S_api_TelemetryMsg, ∃ n1650 : Int, ∃ n1651 : Int, ∃ xs1647 : List Value, J1954 n (l1648, n1650, n1651) = some r ∧ Rw H' v0 xs1647 l1648 ∧ H121.le H' ∧ .row v0 29 (Rep.sz S_api_TelemetryMsg) l1648.length xs1647 :: m = M' ∧ (11, .int .i64 (n1650)) :: (12, .int .i64 (n1651)) :: u = L') FUEL rfl ⟨_, _, _, _, hm, hr127, (Hp.le_refl _), rfl, rfl⟩ ?_
    rintro n1657 H1652 _ _ ⟨l1648, n1650, n1651, xs1647, hm, hr1649, hle1653, rfl, rfl⟩
    cases n1657 with
    | zero => exact nomatch (hm1956 _).symm.trans hm
    | succ n1657 =>
      have hm := (hm1955 _ _).symm.trans hm
      generalize hn1656 : J1954 n1657 = nx1655 at hm
      try dsimp only at hm
      unfold m_slices_partitionEqualCmpFunc_api_TelemetryMsg__telemetry_Points_List_1_b33 at hm
      refine C_block ?_
      refine cj [(0, _), (1, _), (4, _), (12, _)] [] 0 (fun u m H' M' L' => ∃ n1726 : Int, m_slices_partitionEqualCmpFunc_api_TelemetryMsg__telemetry_Points_List_1_b38 p1_a l1648 n1651 nx1655 n1726 = some r ∧ H1652.le H' ∧ m = M' ∧ (11, .int .i64 (n1726)) :: u = L') ?_ (fun J1729 => ?_)
      · rintro H1727 _ _ ⟨n1726, hm, hle1728, rfl, rfl⟩
        unfold m_slices_partitionEqualCmpFunc_api_TelemetryMsg__telemetry_Points_List_1_b38 at hm
        refine cj [(0, _), (1, _), (4, _), (11, _)] [] 0 (fun u m H' M' L' => ∃ n1793 : Int, m_slices_partitionEqualCmpFunc_api_TelemetryMsg__telemetry_Points_List_1_b36 l1648 nx1655 n1726 n1793 = some r ∧ H1727.le H' ∧ m = M' ∧ (12, .int .i64 (n1793)) :: u = L') ?_ (fun J1796 => ?_)
        · rintro H1794 _ _ ⟨n1793, hm, hle1795, rfl, rfl⟩
          unfold m_slices_partitionEqualCmpFunc_api_TelemetryMsg__telemetry_Points_List_1_b36 at hm
          refine C_seq ?_
          refine C_seq ?_
          refine C_region ?_
          refine W_move rfl rfl rfl ?_
          refine W_move rfl rfl rfl ?_
          refine W_bin rfl rfl rfl rfl rfl ?_
          refine W_end ?_
          refine E_then ?_
          refine cd hm rfl (fun hb1797 hm => ?_) (fun hb1797 hm => ?_)
          · refine C_exit ?_
            refine E_exit_then ?_
            refine E_exit_miss rfl ?_
            refine E_exit_then ?_
            refine E_exit_hit ?_
            exact kj (J1047 _ _ _ ⟨_, _, _, hm, ((hr1649.mono hle1728).mono hle1795), (Hp.le_trans (Hp.le_trans hle1653 hle1728) hle1795), rfl, rfl⟩)
          · refine C_skip ?_
            refine E_then ?_
            refine C_seq ?_
            obtain ⟨y1798, h1799, he1800, hm⟩ := idx_some hm
            obtain ⟨_, rfl, hg1801⟩ := (hr1649).elem he1800
            obtain ⟨y1802, h1803, he1804, hm⟩ := idx_some hm
            obtain ⟨_, rfl, hg1805⟩ := (hr1649).elem he1804
            obtain ⟨y1806, h1807, he1808, hm⟩ := idx_some hm
            obtain ⟨_, rfl, hg1809⟩ := (hr1649).elem he1808
            refine rgx fm 14 [ph _, ph _, ph _, ph _, ph _, ph _, ph (.pointer (some ((Value.base (v0)).add ((n1793 : Int).toNat * Rep.sz S_api_TelemetryMsg)))), ph (.agg [.string (y1798.Point), .int .i64 (y1798.Number), .int .i64 (y1798.Time), .int .i64 (y1798.Value)].toArray), ph _, ph _, ph (.pointer (some ((Value.base (v0)).add ((n1726 : Int).toNat * Rep.sz S_api_TelemetryMsg)))), ph (.agg [.string (y1802.Point), .int .i64 (y1802.Number), .int .i64 (y1802.Time), .int .i64 (y1802.Value)].toArray), ph (.pointer (some ((Value.base (v0)).add ((n1726 : Int).toNat * Rep.sz S_api_TelemetryMsg)))), (fun H rs v => ∃ xs1817 : List Value, [.row v0 29 (Rep.sz S_api_TelemetryMsg) (l1648.set ((n1726 : Int).toNat) y1798).length xs1817] = rs ∧ .pointer (some ((Value.base (v0)).add ((n1726 : Int).toNat * Rep.sz S_api_TelemetryMsg))) = v ∧ Rw H v0 xs1817 (l1648.set ((n1726 : Int).toNat) y1798))] (sp 14 [(13, [14])]) [[], [], [], [], [], [], [14], [14], [], [], [14], [14], [14], []] [0] [0, 1, 2, 3, 4, 5, 6, 7, 8, 9, 10, 11, 12, 13] rfl ⟨om, om, om, om, om, om, ?_, ?_, om, om, ?_, ?_, ?_, ?_, trivial⟩ ?_
            · intro HX hX X Rest hR
              rintro _ _ ⟨rfl, rfl⟩
              rintro _ _ ⟨rfl, rfl⟩
              intro hU hUp
              have hU2 : ∀ s ∈ [.row v0 29 (Rep.sz S_api_TelemetryMsg) l1648.length xs1647], s ∈ Rest := hU
              refine W_indexO (hU2 _ (List.mem_cons_self ..)) rfl rfl Proofs.Try.runUnderlying27 Proofs.Try.sizeOf29 rfl rfl h1799 (List.getElem?_eq_some_iff.1 he1800).1 ?_
              exact o0 ⟨rfl, rfl⟩
            · intro HX hX X Rest hR
              rintro _ _ ⟨rfl, rfl⟩
              intro hU hUp
              have hU2 : ∀ s ∈ [.row v0 29 (Rep.sz S_api_TelemetryMsg) l1648.length xs1647], s ∈ Rest := hU
              refine W_loadAgg (cs := [.string (y1798.Point), .int .i64 (y1798.Number), .int .i64 (y1798.Time), .int .i64 (y1798.Value)]) rfl rfl Proofs.Try.isAgg29 Proofs.Try.sizeOf29 rfl (row_cells (hU2 _ (List.mem_cons_self ..)) hg1801) rfl ?_
              exact o0 ⟨rfl, rfl⟩
            · intro HX hX X Rest hR
              rintro _ _ ⟨rfl, rfl⟩
              rintro _ _ ⟨rfl, rfl⟩
              intro hU hUp
              have hU2 : ∀ s ∈ [.row v0 29 (Rep.sz S_api_TelemetryMsg) l1648.length xs1647], s ∈ Rest := hU
              refine W_indexO (hU2 _ (List.mem_cons_self ..)) rfl rfl Proofs.Try.runUnderlying27 Proofs.Try.sizeOf29 rfl rfl h1803 (List.getElem?_eq_some_iff.1 he1804).1 ?_
              exact o0 ⟨rfl, rfl⟩
            · intro HX hX X Rest hR
              rintro _ _ ⟨rfl, rfl⟩
              intro hU hUp
              have hU2 : ∀ s ∈ [.row v0 29 (Rep.sz S_api_TelemetryMsg) l1648.length xs1647], s ∈ Rest := hU
              refine W_loadAgg (cs := [.string (y1802.Point), .int .i64 (y1802.Number), .int .i64 (y1802.Time), .int .i64 (y1802.Value)]) rfl rfl Proofs.Try.isAgg29 Proofs.Try.sizeOf29 rfl (row_cells (hU2 _ (List.mem_cons_self ..)) hg1805) rfl ?_
              exact o0 ⟨rfl, rfl⟩
            · intro HX hX X Rest hR
              rintro _ _ ⟨rfl, rfl⟩
              rintro _ _ ⟨rfl, rfl⟩
              rintro _ _ ⟨rfl, rfl⟩
              rintro _ _ ⟨rfl, rfl⟩
              rintro _ _ ⟨rfl, rfl⟩
              rintro _ _ ⟨rfl, rfl⟩
              rintro _ _ ⟨rfl, rfl⟩
              rintro _ _ ⟨rfl, rfl⟩
              rintro _ _ ⟨rfl, rfl⟩
              intro hU hUp
              have hU2 : ∀ s ∈ [.row v0 29 (Rep.sz S_api_TelemetryMsg) l1648.length xs1647], s ∈ Rest := hU
              refine W_indexO (hU2 _ (List.mem_cons_self ..)) rfl rfl Proofs.Try.runUnderlying27 Proofs.Try.sizeOf29 rfl rfl h1807 (List.getElem?_eq_some_iff.1 he1808).1 ?_
              exact o0 ⟨rfl, rfl⟩
            · intro HX hX X Rest hR
              rintro _ _ ⟨rfl, rfl⟩
              rintro _ _ ⟨rfl, rfl⟩
              rintro _ _ ⟨rfl, rfl⟩
              rintro _ _ ⟨rfl, rfl⟩
              rintro _ _ ⟨rfl, rfl⟩
              rintro _ _ ⟨rfl, rfl⟩
              rintro _ _ ⟨rfl, rfl⟩
              rintro _ _ ⟨rfl, rfl⟩
              rintro _ _ ⟨rfl, rfl⟩
              intro hU hUp
              refine Wp [0] ?_
              obtain ⟨hr1814, he1815, hg1816⟩ := Rw.put (cs := [.string (y1798.Point), .int .i64 (y1798.Number), .int .i64 (y1798.Time), .int .i64 (y1798.Value)]) (o := 0) (c := [.string (y1806.Point), .int .i64 (y1806.Number), .int .i64 (y1806.Time), .int .i64 (y1806.Value)]) (out := [.string (y1798.Point), .int .i64 (y1798.Number), .int .i64 (y1798.Time), .int .i64 (y1798.Value)]) (e2 := y1798) (((hr1649.mono hle1728).mono hle1795).mono hX) he1808 rfl hg1809 rfl rfl rfl
              refine W_storeO2 (i := (n1726 : Int).toNat * Rep.sz S_api_TelemetryMsg + 0) (cs := [.string (y1798.Point), .int .i64 (y1798.Number), .int .i64 (y1798.Time), .int .i64 (y1798.Value)]) rfl Proofs.Try.sizeOf29 rfl (row_ad0 _ _) rfl rfl rfl (Rw.room (((hr1649.mono hle1728).mono hle1795).mono hX) he1808 rfl) rfl (all_cons rfl (all_cons rfl (all_cons rfl (all_cons rfl all_nil)))) (n' := (l1648.set ((n1726 : Int).toNat) y1798).length) List.length_set ?_
              generalize over xs1647 ((n1726 : Int).toNat * Rep.sz S_api_TelemetryMsg + 0) [.string (y1798.Point), .int .i64 (y1798.Number), .int .i64 (y1798.Time), .int .i64 (y1798.Value)] = xs1817 at hr1814 hg1816 ⊢
              exact W_end (OneT_endL rfl [.row v0 29 (Rep.sz S_api_TelemetryMsg) (l1648.set ((n1726 : Int).toNat) y1798).length xs1817] (Hp.le_refl _) ⟨xs1817, rfl, rfl, (hr1814)⟩)
            intro H1818 hle1819
            rintro _ _ ⟨rfl, rfl⟩
            rintro _ _ ⟨rfl, rfl⟩
            rintro _ _ ⟨rfl, rfl⟩
            rintro _ _ ⟨rfl, rfl⟩
            rintro _ _ ⟨rfl, rfl⟩
            rintro _ _ ⟨rfl, rfl⟩
            rintro _ _ ⟨rfl, rfl⟩
            rintro _ _ ⟨rfl, rfl⟩
            rintro _ _ ⟨rfl, rfl⟩
            rintro _ _ ⟨rfl, rfl⟩
            rintro _ _ ⟨rfl, rfl⟩
            rintro _ _ ⟨rfl, rfl⟩
            rintro _ _ ⟨rfl, rfl⟩
            rintro _ _ _ ⟨xs1817, rfl, _, hr1814⟩
            refine isW ?_
            refine Wp [0] ?_
            obtain ⟨y1820, h1821, he1822, hm⟩ := idx_some hm
            refine W_indexO (List.mem_cons_self ..) rfl rfl Proofs.Try.runUnderlying27 Proofs.Try.sizeOf29 rfl rfl h1821 (List.getElem?_eq_some_iff.1 he1822).1 ?_
            obtain ⟨_, rfl, hg1823⟩ := (hr1814).elem he1822
            obtain ⟨hr1824, he1825, hg1826⟩ := Rw.put (cs := [.string (y1802.Point), .int .i64 (y1802.Number), .int .i64 (y1802.Time), .int .i64 (y1802.Value)]) (o := 0) (c := [.string (y1820.Point), .int .i64 (y1820.Number), .int .i64 (y1820.Time), .int .i64 (y1820.Value)]) (out := [.string (y1802.Point), .int .i64 (y1802.Number), .int .i64 (y1802.Time), .int .i64 (y1802.Value)]) (e2 := y1802) hr1814 he1822 rfl hg1823 rfl rfl rfl
            refine W_storeO2 (i := (n1793 : Int).toNat * Rep.sz S_api_TelemetryMsg + 0) (cs := [.string (y1802.Point), .int .i64 (y1802.Number), .int .i64 (y1802.Time), .int .i64 (y1802.Value)]) rfl Proofs.Try.sizeOf29 rfl (row_ad0 _ _) rfl rfl rfl (Rw.room hr1814 he1822 rfl) rfl (all_cons rfl (all_cons rfl (all_cons rfl (all_cons rfl all_nil)))) (n' := ((l1648.set ((n1726 : Int).toNat) y1798).set ((n1793 : Int).toNat) y1802).length) List.length_set ?_
            generalize over xs1817 ((n1793 : Int).toNat * Rep.sz S_api_TelemetryMsg + 0) [.string (y1802.Point), .int .i64 (y1802.Number), .int .i64 (y1802.Time), .int .i64 (y1802.Value)] = xs1827 at hr1824 hg1826 ⊢
            refine W_end ?_
            refine E_then ?_
            refine C_seq ?_
            refine C_region ?_
            refine W_move rfl rfl rfl ?_
            refine W_bin rfl rfl rfl rfl rfl ?_
            refine W_assign rfl rfl rfl ?_
            refine W_end ?_
            refine E_then ?_
            refine C_region ?_
            refine W_move rfl rfl rfl ?_
            refine W_bin rfl rfl rfl rfl rfl ?_
            refine W_assign rfl rfl rfl ?_
            refine W_end ?_
            refine E_normal_block ?_
            exact kj (E_back (Nat.lt_succ_self _) ⟨_, _, _, _, ((congrFun hn1656 _).trans hm), hr1824, (Hp.le_trans (Hp.le_trans (Hp.le_trans hle1653 hle1728) hle1795) hle1819), rfl, rfl⟩)
        · refine C_block ?_
          obtain ⟨J1888, hm1889, hm1890, hm⟩ := loopF_nm hm
          refine cl [(0, _), (1, _), (4, _), (11, _)] [] 0 [] 0 (fun u m n H' M' L' => ∃ n1862 : Int, J1888 n n1862 = some r ∧ H1727.le H' ∧ m = M' ∧ (12, .int .i64 (n1862)) :: u = L') FUEL rfl ⟨_, hm, (Hp.le_refl _), rfl, rfl⟩ ?_
          rintro n1868 H1863 _ _ ⟨n1862, hm, hle1864, rfl, rfl⟩
          cases n1868 with
          | zero => exact nomatch (hm1890 _).symm.trans hm
          | succ n1868 =>
            have hm := (hm1889 _ _).symm.trans hm
            generalize hn1867 : J1888 n1868 = nx1866 at hm
            unfold m_slices_partitionEqualCmpFunc_api_TelemetryMsg__telemetry_Points_List_1_b37 at hm
            refine C_seq ?_
            refine C_seq ?_
            cases hb1874 : (decide (n1726 ≤ n1862))
            · have hm := ite_f' hb1874 hm
              refine rgp fm 13 [ph _, ph _, ph (.bool (false)), ph _, ph _, ph _, ph _, ph _, ph _, ph _, ph _, ph _, ph _] ⟨om, om, omb hb1874, om, om, om, om, om, om, om, om, om, om, trivial⟩ ?_
              intro H1875 hle1876
              rintro _ _ ⟨rfl, rfl⟩
              rintro _ _ ⟨rfl, rfl⟩
              rintro _ _ ⟨rfl, rfl⟩
              rintro _ _ ⟨rfl, rfl⟩
              rintro _ _ ⟨rfl, rfl⟩
              rintro _ _ ⟨rfl, rfl⟩
              rintro _ _ ⟨rfl, rfl⟩
              rintro _ _ ⟨rfl, rfl⟩
              rintro _ _ ⟨rfl, rfl⟩
              rintro _ _ ⟨rfl, rfl⟩
              rintro _ _ ⟨rfl, rfl⟩
              rintro _ _ ⟨rfl, rfl⟩
              rintro _ _ ⟨rfl, rfl⟩
              refine isW ?_
              refine W_no rfl rfl rfl ?_
              refine W_no rfl rfl rfl ?_
              refine W_pick rfl rfl rfl rfl ?_
              refine W_end ?_
              refine E_then ?_
              refine cF rfl ?_
              refine C_exit ?_
              refine E_exit_then ?_
              refine E_exit_then ?_
              refine E_exit_hit ?_
              exact kj (J1796 _ _ _ ⟨_, hm, (Hp.le_trans hle1864 hle1876), rfl, rfl⟩)
            · have hm := ite_t' hb1874 hm
              obtain ⟨y1877, h1878, he1879, hm⟩ := idx_some hm
              obtain ⟨_, rfl, hg1880⟩ := (hr1649).elem he1879
              obtain ⟨y1881, h1882, he1883, hm⟩ := idx_some hm
              obtain ⟨_, rfl, hg1884⟩ := (hr1649).elem he1883
              refine rgp fm 13 [ph _, ph _, ph (.bool (true)), ph _, ph _, ph _, ph _, ph (.pointer (some ((Value.base (v0)).add ((p1_a : Int).toNat * Rep.sz S_api_TelemetryMsg)))), ph (.agg [.string (y1877.Point), .int .i64 (y1877.Number), .int .i64 (y1877.Time), .int .i64 (y1877.Value)].toArray), ph _, ph _, ph (.pointer (some ((Value.base (v0)).add ((n1862 : Int).toNat * Rep.sz S_api_TelemetryMsg)))), ph (.agg [.string (y1881.Point), .int .i64 (y1881.Number), .int .i64 (y1881.Time), .int .i64 (y1881.Value)].toArray)] ⟨om, om, omb hb1874, om, om, om, om, ?_, ?_, om, om, ?_, ?_, trivial⟩ ?_
              · intro HX hX X Rest hR
                rintro _ _ ⟨rfl, rfl⟩
                rintro _ _ ⟨rfl, rfl⟩
                rintro _ _ ⟨rfl, rfl⟩
                intro hU hUp
                refine W_indexO (hR _ (List.mem_cons_self ..)) rfl rfl Proofs.Try.runUnderlying27 Proofs.Try.sizeOf29 rfl rfl h1878 (List.getElem?_eq_some_iff.1 he1879).1 ?_
                exact o0 ⟨rfl, rfl⟩
              · intro HX hX X Rest hR
                rintro _ _ ⟨rfl, rfl⟩
                rintro _ _ ⟨rfl, rfl⟩
                intro hU hUp
                refine W_loadAgg (cs := [.string (y1877.Point), .int .i64 (y1877.Number), .int .i64 (y1877.Time), .int .i64 (y1877.Value)]) rfl rfl Proofs.Try.isAgg29 Proofs.Try.sizeOf29 rfl (row_cells (hR _ (List.mem_cons_self ..)) hg1880) rfl ?_
                exact o0 ⟨rfl, rfl⟩
              · intro HX hX X Rest hR
                rintro _ _ ⟨rfl, rfl⟩
                rintro _ _ ⟨rfl, rfl⟩
                rintro _ _ ⟨rfl, rfl⟩
                intro hU hUp
                refine W_indexO (hR _ (List.mem_cons_self ..)) rfl rfl Proofs.Try.runUnderlying27 Proofs.Try.sizeOf29 rfl rfl h1882 (List.getElem?_eq_some_iff.1 he1883).1 ?_
                exact o0 ⟨rfl, rfl⟩
              · intro HX hX X Rest hR
                rintro _ _ ⟨rfl, rfl⟩
                rintro _ _ ⟨rfl, rfl⟩
                intro hU hUp
                refine W_loadAgg (cs := [.string (y1881.Point), .int .i64 (y1881.Number), .int .i64 (y1881.Time), .int .i64 (y1881.Value)]) rfl rfl Proofs.Try.isAgg29 Proofs.Try.sizeOf29 rfl (row_cells (hR _ (List.mem_cons_self ..)) hg1884) rfl ?_
                exact o0 ⟨rfl, rfl⟩
              intro H1885 hle1886
              rintro _ _ ⟨rfl, rfl⟩
              rintro _ _ ⟨rfl, rfl⟩
              rintro _ _ ⟨rfl, rfl⟩
              rintro _ _ ⟨rfl, rfl⟩
              rintro _ _ ⟨rfl, rfl⟩
              rintro _ _ ⟨rfl, rfl⟩
              rintro _ _ ⟨rfl, rfl⟩
              rintro _ _ ⟨rfl, rfl⟩
              rintro _ _ ⟨rfl, rfl⟩
              rintro _ _ ⟨rfl, rfl⟩
              rintro _ _ ⟨rfl, rfl⟩
              rintro _ _ ⟨rfl, rfl⟩
              rintro _ _ ⟨rfl, rfl⟩
              refine isW ?_
              refine W_callv Proofs.Try.call20 rfl rfl rfl rfl (fun w ht => by have h := m_telemetry_Points_List_1_c (hm := (rfl : m_telemetry_Points_List_1 y1877 y1881 = _))  ht; exact h) ?_
              rintro _ _ _ ⟨rfl, rfl, rfl⟩
              refine W_bin rfl rfl rfl rfl rfl ?_
              refine W_pick rfl rfl rfl rfl ?_
              refine W_end ?_
              refine E_then ?_
              refine cd hm rfl (fun hb1887 hm => ?_) (fun hb1887 hm => ?_)
              · refine C_skip ?_
                refine E_then ?_
                refine C_block ?_
                refine C_region ?_
                refine W_move rfl rfl rfl ?_
                refine W_bin rfl rfl rfl rfl rfl ?_
                refine W_assign rfl rfl rfl ?_
                refine W_end ?_
                refine E_normal_block ?_
                exact kj (E_back (Nat.lt_succ_self _) ⟨_, ((congrFun hn1867 _).trans hm), (Hp.le_trans hle1864 hle1886), rfl, rfl⟩)
              · refine C_exit ?_
                refine E_exit_then ?_
                refine E_exit_then ?_
                refine E_exit_hit ?_
                exact kj (J1796 _ _ _ ⟨_, hm, (Hp.le_trans hle1864 hle1886), rfl, rfl⟩)
      · refine C_block ?_
        obtain ⟨J1951, hm1952, hm1953, hm⟩ := loopF_nm hm
        refine cl [(0, _), (1, _), (4, _), (12, _)] [] 0 [] 0 (fun u m n H' M' L' => ∃ n1925 : Int, J1951 n n1925 = some r ∧ H1652.le H' ∧ m = M' ∧ (11, .int .i64 (n1925)) :: u = L') FUEL rfl ⟨_, hm, (Hp.le_refl _), rfl, rfl⟩ ?_
        rintro n1931 H1926 _ _ ⟨n1925, hm, hle1927, rfl, rfl⟩
        cases n1931 with
        | zero => exact nomatch (hm1953 _).symm.trans hm
        | succ n1931 =>
          have hm := (hm1952 _ _).symm.trans hm
          generalize hn1930 : J1951 n1931 = nx1929 at hm
          unfold m_slices_partitionEqualCmpFunc_api_TelemetryMsg__telemetry_Points_List_1_b39 at hm
          refine C_seq ?_
          refine C_seq ?_
          cases hb1937 : (decide (n1925 ≤ n1651))
          · have hm := ite_f' hb1937 hm
            refine rgp fm 13 [ph _, ph _, ph (.bool (false)), ph _, ph _, ph _, ph _, ph _, ph _, ph _, ph _, ph _, ph _] ⟨om, om, omb hb1937, om, om, om, om, om, om, om, om, om, om, trivial⟩ ?_
            intro H1938 hle1939
            rintro _ _ ⟨rfl, rfl⟩
            rintro _ _ ⟨rfl, rfl⟩
            rintro _ _ ⟨rfl, rfl⟩
            rintro _ _ ⟨rfl, rfl⟩
            rintro _ _ ⟨rfl, rfl⟩
            rintro _ _ ⟨rfl, rfl⟩
            rintro _ _ ⟨rfl, rfl⟩
            rintro _ _ ⟨rfl, rfl⟩
            rintro _ _ ⟨rfl, rfl⟩
            rintro _ _ ⟨rfl, rfl⟩
            rintro _ _ ⟨rfl, rfl⟩
            rintro _ _ ⟨rfl, rfl⟩
            rintro _ _ ⟨rfl, rfl⟩
            refine isW ?_
            refine W_no rfl rfl rfl ?_
            refine W_no rfl rfl rfl ?_
            refine W_no rfl rfl rfl ?_
            refine W_pick rfl rfl rfl rfl ?_
            refine W_end ?_
            refine E_then ?_
            refine cF rfl ?_
            refine C_exit ?_
            refine E_exit_then ?_
            refine E_exit_then ?_
            refine E_exit_hit ?_
            exact kj (J1729 _ _ _ ⟨_, hm, (Hp.le_trans hle1927 hle1939), rfl, rfl⟩)
          · have hm := ite_t' hb1937 hm
            obtain ⟨y1940, h1941, he1942, hm⟩ := idx_some hm
            obtain ⟨_, rfl, hg1943⟩ := (hr1649).elem he1942
            obtain ⟨y1944, h1945, he1946, hm⟩ := idx_some hm
            obtain ⟨_, rfl, hg1947⟩ := (hr1649).elem he1946
            refine rgp fm 13 [ph _, ph _, ph (.bool (true)), ph _, ph _, ph _, ph _, ph (.pointer (some ((Value.base (v0)).add ((p1_a : Int).toNat * Rep.sz S_api_TelemetryMsg)))), ph (.agg [.string (y1940.Point), .int .i64 (y1940.Number), .int .i64 (y1940.Time), .int .i64 (y1940.Value)].toArray), ph _, ph _, ph (.pointer (some ((Value.base (v0)).add ((n1925 : Int).toNat * Rep.sz S_api_TelemetryMsg)))), ph (.agg [.string (y1944.Point), .int .i64 (y1944.Number), .int .i64 (y1944.Time), .int .i64 (y1944.Value)].toArray)] ⟨om, om, omb hb1937, om, om, om, om, ?_, ?_, om, om, ?_, ?_, trivial⟩ ?_
            · intro HX hX X Rest hR
              rintro _ _ ⟨rfl, rfl⟩
              rintro _ _ ⟨rfl, rfl⟩
              rintro _ _ ⟨rfl, rfl⟩
              intro hU hUp
              refine W_indexO (hR _ (List.mem_cons_self ..)) rfl rfl Proofs.Try.runUnderlying27 Proofs.Try.sizeOf29 rfl rfl h1941 (List.getElem?_eq_some_iff.1 he1942).1 ?_
              exact o0 ⟨rfl, rfl⟩
            · intro HX hX X Rest hR
              rintro _ _ ⟨rfl, rfl⟩
              rintro _ _ ⟨rfl, rfl⟩
              intro hU hUp
              refine W_loadAgg (cs := [.string (y1940.Point), .int .i64 (y1940.Number), .int .i64 (y1940.Time), .int .i64 (y1940.Value)]) rfl rfl Proofs.Try.isAgg29 Proofs.Try.sizeOf29 rfl (row_cells (hR _ (List.mem_cons_self ..)) hg1943) rfl ?_
              exact o0 ⟨rfl, rfl⟩
            · intro HX hX X Rest hR
              rintro _ _ ⟨rfl, rfl⟩
              rintro _ _ ⟨rfl, rfl⟩
              rintro _ _ ⟨rfl, rfl⟩
              intro hU hUp
              refine W_indexO (hR _ (List.mem_cons_self ..)) rfl rfl Proofs.Try.runUnderlying27 Proofs.Try.sizeOf29 rfl rfl h1945 (List.getElem?_eq_some_iff.1 he1946).1 ?_
              exact o0 ⟨rfl, rfl⟩
            · intro HX hX X Rest hR
              rintro _ _ ⟨rfl, rfl⟩
              rintro _ _ ⟨rfl, rfl⟩
              intro hU hUp
              refine W_loadAgg (cs := [.string (y1944.Point), .int .i64 (y1944.Number), .int .i64 (y1944.Time), .int .i64 (y1944.Value)]) rfl rfl Proofs.Try.isAgg29 Proofs.Try.sizeOf29 rfl (row_cells (hR _ (List.mem_cons_self ..)) hg1947) rfl ?_
              exact o0 ⟨rfl, rfl⟩
            intro H1948 hle1949
            rintro _ _ ⟨rfl, rfl⟩
            rintro _ _ ⟨rfl, rfl⟩
            rintro _ _ ⟨rfl, rfl⟩
            rintro _ _ ⟨rfl, rfl⟩
            rintro _ _ ⟨rfl, rfl⟩
            rintro _ _ ⟨rfl, rfl⟩
            rintro _ _ ⟨rfl, rfl⟩
            rintro _ _ ⟨rfl, rfl⟩
            rintro _ _ ⟨rfl, rfl⟩
            rintro _ _ ⟨rfl, rfl⟩
            rintro _ _ ⟨rfl, rfl⟩
            rintro _ _ ⟨rfl, rfl⟩
            rintro _ _ ⟨rfl, rfl⟩
            refine isW ?_
            refine W_callv Proofs.Try.call20 rfl rfl rfl rfl (fun w ht => by have h := m_telemetry_Points_List_1_c (hm := (rfl : m_telemetry_Points_List_1 y1940 y1944 = _))  ht; exact h) ?_
            rintro _ _ _ ⟨rfl, rfl, rfl⟩
            refine W_bin rfl rfl rfl rfl rfl ?_
            refine W_un rfl rfl rfl rfl ?_
            refine W_pick rfl rfl rfl rfl ?_
            refine W_end ?_
            refine E_then ?_
            refine cd hm rfl (fun hb1950 hm => ?_) (fun hb1950 hm => ?_)
            · refine C_skip ?_
              refine E_then ?_
              refine C_block ?_
              refine C_region ?_
              refine W_move rfl rfl rfl ?_
              refine W_bin rfl rfl rfl rfl rfl ?_
              refine W_assign rfl rfl rfl ?_
              refine W_end ?_
              refine E_normal_block ?_
              exact kj (E_back (Nat.lt_succ_self _) ⟨_, ((congrFun hn1930 _).trans hm), (Hp.le_trans hle1927 hle1949), rfl, rfl⟩)
            · refine C_exit ?_
              refine E_exit_then ?_
              refine E_exit_then ?_
              refine E_exit_hit ?_
              exact kj (J1729 _ _ _ ⟨_, hm, (Hp.le_trans hle1927 hle1949), rfl, rfl⟩)

theorem m_slices_nextPowerOfTwo_c {B : Nat} {w0 : Bs Proofs.Try.prog} {w : World} {H : Hp} {M : List Res} {length : Int} {r : Int} (hm : m_slices_nextPowerOfTwo length = some r) (ht : St B w0 H (M) w) :
    Calls Proofs.Try.prog 64 [.int .i64 (length)].toArray w (Ret B w0 fun H' M' v => H = H' ∧ M = M' ∧ .int .u64 (r) = v) := by
  unfold m_slices_nextPowerOfTwo at hm
  refine enter Proofs.Try.func64 rfl rfl rfl ht ?_
  refine C_seq ?_
  refine C_region ?_
  refine W_assign rfl rfl rfl ?_
  refine W_end ?_
  refine E_then ?_
  refine C_seq ?_
  refine C_region ?_
  refine W_move rfl rfl rfl ?_
  refine W_convInt rfl rfl Proofs.Try.runUnderlying3 Proofs.Try.runUnderlying74 rfl ?_
  obtain ⟨r101, hc102, hm⟩ := bind_some hm
  refine W_call Proofs.Try.call45 rfl rfl rfl (fun w ht => by have h := m_math_bits_Len_c (hm := hc102)  ht; exact h) ?_
  rintro _ _ _ ⟨rfl, rfl, rfl⟩
  obtain ⟨hq103, hm⟩ := need_some hm
  refine W_shl rfl rfl rfl rfl hq103 ?_
  refine W_assign rfl rfl rfl ?_
  refine W_end ?_
  refine E_then ?_
  refine C_ret ?_
  obtain rfl := Option.some.inj hm
  refine E_weak (Hp.le_refl _) ?_
  exact end1 rfl rfl ⟨rfl, rfl, rfl⟩

theorem m_slices_xorshift_Next_c {B : Nat} {w0 : Bs Proofs.Try.prog} {w : World} {H : Hp} {M : List Res} {p0_r : U64} {b0 : Nat} {r : Int × U64} (hm : m_slices_xorshift_Next p0_r = r) (ht : St B w0 H (.obj b0 (.cells ([.int .u64 (p0_r.n)] : List Value).toArray 103 (0, 0)) :: M) w) :
    Calls Proofs.Try.prog 65 [.pointer (some ⟨b0, 0, none⟩)].toArray w (Ret B w0 fun H' M' v => H = H' ∧ .obj b0 (.cells ([.int .u64 (r.2.n)] : List Value).toArray 103 (0, 0)) :: M = M' ∧ .int .u64 (r.1) = v) := by
  unfold m_slices_xorshift_Next at hm
  refine enter Proofs.Try.func65 rfl rfl rfl ht ?_
  refine C_seq ?_
  refine C_region ?_
  refine W_assign rfl rfl rfl ?_
  refine W_end ?_
  refine E_then ?_
  refine C_seq ?_
  refine rgp fm 7 [ph _, ph _, ph _, ph _, ph _, ph _, ph (.int .u64 (shlV .u64 p0_r.n 13))] ⟨om, om, om, om, om, om, ?_, trivial⟩ ?_
  · intro HX hX X Rest hR
    rintro _ _ ⟨rfl, rfl⟩
    intro hU hUp
    refine W_shl rfl rfl rfl rfl (by decide) ?_
    exact o0 ⟨rfl, rfl⟩
  intro H101 hle102
  rintro _ _ ⟨rfl, rfl⟩
  rintro _ _ ⟨rfl, rfl⟩
  rintro _ _ ⟨rfl, rfl⟩
  rintro _ _ ⟨rfl, rfl⟩
  rintro _ _ ⟨rfl, rfl⟩
  rintro _ _ ⟨rfl, rfl⟩
  rintro _ _ ⟨rfl, rfl⟩
  refine isW ?_
  refine W_bin rfl rfl rfl rfl rfl ?_
  refine W_nilCheck rfl rfl rfl ?_
  refine W_store (cs := [.int .u64 (IntKind.u64.wrap ((BitVec.ofInt (IntKind.u64).bits p0_r.n ^^^ BitVec.ofInt (IntKind.u64).bits (shlV .u64 p0_r.n 13)).toNat))]) (out := [.int .u64 (IntKind.u64.wrap ((BitVec.ofInt (IntKind.u64).bits p0_r.n ^^^ BitVec.ofInt (IntKind.u64).bits (shlV .u64 p0_r.n 13)).toNat))]) rfl Proofs.Try.sizeOf103 rfl rfl rfl rfl rfl (all_cons rfl all_nil) (over_all rfl) ?_
  refine W_end ?_
  refine E_then ?_
  refine C_seq ?_
  refine rgp fm 7 [ph _, ph _, ph _, ph _, ph _, ph _, ph (.int .u64 (shrV .u64 (IntKind.u64.wrap ((BitVec.ofInt (IntKind.u64).bits p0_r.n ^^^ BitVec.ofInt (IntKind.u64).bits (shlV .u64 p0_r.n 13)).toNat)) 7))] ⟨om, om, om, om, om, om, ?_, trivial⟩ ?_
  · intro HX hX X Rest hR
    rintro _ _ ⟨rfl, rfl⟩
    intro hU hUp
    refine W_shr rfl rfl rfl rfl (by decide) ?_
    exact o0 ⟨rfl, rfl⟩
  intro H103 hle104
  rintro _ _ ⟨rfl, rfl⟩
  rintro _ _ ⟨rfl, rfl⟩
  rintro _ _ ⟨rfl, rfl⟩
  rintro _ _ ⟨rfl, rfl⟩
  rintro _ _ ⟨rfl, rfl⟩
  rintro _ _ ⟨rfl, rfl⟩
  rintro _ _ ⟨rfl, rfl⟩
  refine isW ?_
  refine W_bin rfl rfl rfl rfl rfl ?_
  refine W_nilCheck rfl rfl rfl ?_
  refine W_store (cs := [.int .u64 (IntKind.u64.wrap ((BitVec.ofInt (IntKind.u64).bits (IntKind.u64.wrap ((BitVec.ofInt (IntKind.u64).bits p0_r.n ^^^ BitVec.ofInt (IntKind.u64).bits (shlV .u64 p0_r.n 13)).toNat)) ^^^ BitVec.ofInt (IntKind.u64).bits (shrV .u64 (IntKind.u64.wrap ((BitVec.ofInt (IntKind.u64).bits p0_r.n ^^^ BitVec.ofInt (IntKind.u64).bits (shlV .u64 p0_r.n 13)).toNat)) 7)).toNat))]) (out := [.int .u64 (IntKind.u64.wrap ((BitVec.ofInt (IntKind.u64).bits (IntKind.u64.wrap ((BitVec.ofInt (IntKind.u64).bits p0_r.n ^^^ BitVec.ofInt (IntKind.u64).bits (shlV .u64 p0_r.n 13)).toNat)) ^^^ BitVec.ofInt (IntKind.u64).bits (shrV .u64 (IntKind.u64.wrap ((BitVec.ofInt (IntKind.u64).bits p0_r.n ^^^ BitVec.ofInt (IntKind.u64).bits (shlV .u64 p0_r.n 13)).toNat)) 7)).toNat))]) rfl Proofs.Try.sizeOf103 rfl rfl rfl rfl rfl (all_cons rfl all_nil) (over_all rfl) ?_
  refine W_end ?_
  refine E_then ?_
  refine C_seq ?_
  refine rgp fm 7 [ph _, ph _, ph _, ph _, ph _, ph _, ph (.int .u64 (shlV .u64 (IntKind.u64.wrap ((BitVec.ofInt (IntKind.u64).bits (IntKind.u64.wrap ((BitVec.ofInt (IntKind.u64).bits p0_r.n ^^^ BitVec.ofInt (IntKind.u64).bits (shlV .u64 p0_r.n 13)).toNat)) ^^^ BitVec.ofInt (IntKind.u64).bits (shrV .u64 (IntKind.u64.wrap ((BitVec.ofInt (IntKind.u64).bits p0_r.n ^^^ BitVec.ofInt (IntKind.u64).bits (shlV .u64 p0_r.n 13)).toNat)) 7)).toNat)) 17))] ⟨om, om, om, om, om, om, ?_, trivial⟩ ?_
  · intro HX hX X Rest hR
    rintro _ _ ⟨rfl, rfl⟩
    intro hU hUp
    refine W_shl rfl rfl rfl rfl (by decide) ?_
    exact o0 ⟨rfl, rfl⟩
  intro H105 hle106
  rintro _ _ ⟨rfl, rfl⟩
  rintro _ _ ⟨rfl, rfl⟩
  rintro _ _ ⟨rfl, rfl⟩
  rintro _ _ ⟨rfl, rfl⟩
  rintro _ _ ⟨rfl, rfl⟩
  rintro _ _ ⟨rfl, rfl⟩
  rintro _ _ ⟨rfl, rfl⟩
  refine isW ?_
  refine W_bin rfl rfl rfl rfl rfl ?_
  refine W_nilCheck rfl rfl rfl ?_
  refine W_store (cs := [.int .u64 (IntKind.u64.wrap ((BitVec.ofInt (IntKind.u64).bits (IntKind.u64.wrap ((BitVec.ofInt (IntKind.u64).bits (IntKind.u64.wrap ((BitVec.ofInt (IntKind.u64).bits p0_r.n ^^^ BitVec.ofInt (IntKind.u64).bits (shlV .u64 p0_r.n 13)).toNat)) ^^^ BitVec.ofInt (IntKind.u64).bits (shrV .u64 (IntKind.u64.wrap ((BitVec.ofInt (IntKind.u64).bits p0_r.n ^^^ BitVec.ofInt (IntKind.u64).bits (shlV .u64 p0_r.n 13)).toNat)) 7)).toNat)) ^^^ BitVec.ofInt (IntKind.u64).bits (shlV .u64 (IntKind.u64.wrap ((BitVec.ofInt (IntKind.u64).bits (IntKind.u64.wrap ((BitVec.ofInt (IntKind.u64).bits p0_r.n ^^^ BitVec.ofInt (IntKind.u64).bits (shlV .u64 p0_r.n 13)).toNat)) ^^^ BitVec.ofInt (IntKind.u64).bits (shrV .u64 (IntKind.u64.wrap ((BitVec.ofInt (IntKind.u64).bits p0_r.n ^^^ BitVec.ofInt (IntKind.u64).bits (shlV .u64 p0_r.n 13)).toNat)) 7)).toNat)) 17)).toNat))]) (out := [.int .u64 (IntKind.u64.wrap ((BitVec.ofInt (IntKind.u64).bits (IntKind.u64.wrap ((BitVec.ofInt (IntKind.u64).bits (IntKind.u64.wrap ((BitVec.ofInt (IntKind.u64).bits p0_r.n ^^^ BitVec.ofInt (IntKind.u64).bits (shlV .u64 p0_r.n 13)).toNat)) ^^^ BitVec.ofInt (IntKind.u64).bits (shrV .u64 (IntKind.u64.wrap ((BitVec.ofInt (IntKind.u64).bits p0_r.n ^^^ BitVec.ofInt (IntKind.u64).bits (shlV .u64 p0_r.n 13)).toNat)) 7)).toNat)) ^^^ BitVec.ofInt (IntKind.u64).bits (shlV .u64 (IntKind.u64.wrap ((BitVec.ofInt (IntKind.u64).bits (IntKind.u64.wrap ((BitVec.ofInt (IntKind.u64).bits p0_r.n ^^^ BitVec.ofInt (IntKind.u64).bits (shlV .u64 p0_r.n 13)).toNat)) ^^^ BitVec.ofInt (IntKind.u64).bits (shrV .u64 (IntKind.u64.wrap ((BitVec.ofInt (IntKind.u64).bits p0_r.n ^^^ BitVec.ofInt (IntKind.u64).bits (shlV .u64 p0_r.n 13)).toNat)) 7)).toNat)) 17)).toNat))]) rfl Proofs.Try.sizeOf103 rfl rfl rfl rfl rfl (all_cons rfl all_nil) (over_all rfl) ?_
  refine W_end ?_
  refine E_then ?_
  refine C_seq ?_
  refine C_region ?_
  refine W_move rfl rfl rfl ?_
  refine W_nilCheck rfl rfl rfl ?_
  refine W_load rfl rfl Proofs.Try.isAgg103 rfl (own_at (List.mem_cons_self ..) rfl) ?_
  refine W_assign rfl rfl rfl ?_
  refine W_end ?_
  refine E_then ?_
  refine C_ret ?_
  obtain rfl := hm
  refine E_weak (Hp.le_trans (Hp.le_trans hle102 hle104) hle106) ?_
  exact end1 rfl rfl ⟨rfl, rfl, rfl⟩
end Go.Sim
