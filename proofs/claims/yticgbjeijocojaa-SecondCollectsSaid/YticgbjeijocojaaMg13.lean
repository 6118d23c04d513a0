/-
  Printed by a program: each Go function computes its model, in company.
-/
import Derived.Test.YticgbjeijocojaaMg12
set_option linter.unusedVariables false
set_option linter.unusedSimpArgs false
namespace Go.Sim
open Go Go.Proofs.Try
set_option linter.unusedVariables false
set_option linter.unusedSimpArgs false
set_option maxRecDepth 100000
set_option maxHeartbeats 4000000
theorem m_slices_breakPatternsCmpFunc_api_TelemetryMsg__telemetry_Points_List_1_c {B : Nat} {w0 : Bs Proofs.Try.prog} {w : World} {H : Hp} {M : List Res} {data : (List S_api_TelemetryMsg)} {p1_a : Int} {p2_b : Int} {v0 : Value} {xs0 : List Value} {r : (List S_api_TelemetryMsg)} (hm : m_slices_breakPatternsCmpFunc_api_TelemetryMsg__telemetry_Points_List_1 data p1_a p2_b = some r) (h0 : Rw H v0 xs0 data) (ht : St B w0 H (.row v0 29 (Rep.sz S_api_TelemetryMsg) data.length xs0 :: M) w) :
    Calls Proofs.Try.prog 54 [v0, .int .i64 (p1_a), .int .i64 (p2_b), .func (.func 20) [].toArray [].toArray].toArray w (Ret B w0 fun H' M' v => H = H' ∧ ∃ qxs0 : List Value, .row v0 29 (Rep.sz S_api_TelemetryMsg) r.length qxs0 :: M = M' ∧ .tuple #[] = v ∧ RwF v0 qxs0 r) := by
  unfold m_slices_breakPatternsCmpFunc_api_TelemetryMsg__telemetry_Points_List_1 at hm
  refine enter Proofs.Try.func54 rfl rfl rfl ht ?_
  refine C_seq ?_
  refine C_region ?_
  refine W_move rfl rfl rfl ?_
  refine W_move rfl rfl rfl ?_
  refine W_bin rfl rfl rfl rfl rfl ?_
  refine W_assign rfl rfl rfl ?_
  refine W_end ?_
  refine E_then ?_
  refine C_seq ?_
  refine C_region ?_
  refine W_move rfl rfl rfl ?_
  refine W_bin rfl rfl rfl rfl rfl ?_
  refine W_end ?_
  refine E_then ?_
  refine cd hm rfl (fun hb101 hm => ?_) (fun hb101 hm => ?_)
  · refine C_seq ?_
    refine C_region ?_
    refine W_move rfl rfl rfl ?_
    refine W_convInt rfl rfl Proofs.Try.runUnderlying3 Proofs.Try.runUnderlying103 rfl ?_
    refine W_alloc (cs := [.int .u64 (0)]) rfl rfl Proofs.Try.zeroValue103 rfl (fun b102 => ?_)
    refine W_store (cs := [.int .u64 (IntKind.u64.wrap (IntKind.i64.wrap (p2_b - p1_a)))]) (out := [.int .u64 (IntKind.u64.wrap (IntKind.i64.wrap (p2_b - p1_a)))]) rfl Proofs.Try.sizeOf103 rfl rfl rfl rfl rfl (all_cons rfl all_nil) (over_all rfl) ?_
    refine W_end ?_
    refine E_then ?_
    refine C_seq ?_
    refine C_region ?_
    refine W_move rfl rfl rfl ?_
    obtain ⟨r103, hc104, hm⟩ := bind_some hm
    refine W_call Proofs.Try.call64 rfl rfl rfl (fun w ht => by have h := m_slices_nextPowerOfTwo_c (hm := hc104)  ht; exact h) ?_
    rintro _ _ _ ⟨rfl, rfl, rfl⟩
    refine W_assign rfl rfl rfl ?_
    refine W_end ?_
    refine E_then ?_
    refine C_seq ?_
    refine C_region ?_
    refine W_move rfl rfl rfl ?_
    refine W_move rfl rfl rfl ?_
    refine W_quo rfl rfl rfl rfl (by decide) ?_
    refine W_bin rfl rfl rfl rfl rfl ?_
    refine W_bin rfl rfl rfl rfl rfl ?_
    refine W_bin rfl rfl rfl rfl rfl ?_
    refine W_assign rfl rfl rfl ?_
    refine W_end ?_
    refine E_then ?_
    refine C_block ?_
    obtain ⟨J246, hm247, hm248, hm⟩ := loopF_nm hm
    refine cl [(0, _), (1, _), (8, _), (9, _), (10, _)] [] 2 [1] 0 (fun u m n H' M' L' => ∃ l195 : List S_api_TelemetryMsg, ∃ n197 : Int, ∃ n198 : Int, ∃ xs194 : List Value, J246 n (l195, n197, n198) = some r ∧ Rw H' v0 xs194 l195 ∧ H.le H' ∧ .row v0 29 (Rep.sz S_api_TelemetryMsg) l195.length xs194 :: .obj b102 (.cells ([.int .u64 (n198)] : List Value).toArray 103 (0, 0)) :: m = M' ∧ (11, .int .i64 (n197)) :: u = L') FUEL rfl ⟨_, _, _, _, hm, h0, (Hp.le_refl _), rfl, rfl⟩ ?_
    rintro n204 H199 _ _ ⟨l195, n197, n198, xs194, hm, hr196, hle200, rfl, rfl⟩
    cases n204 with
    | zero => exact nomatch (hm248 _).symm.trans hm
    | succ n204 =>
      have hm := (hm247 _ _).symm.trans hm
      generalize hn203 : J246 n204 = nx202 at hm
      try dsimp only at hm
      unfold m_slices_breakPatternsCmpFunc_api_TelemetryMsg__telemetry_Points_List_1_b3 at hm
      refine C_seq ?_
      refine C_seq ?_
      refine C_region ?_
      refine W_move rfl rfl rfl ?_
      refine W_move rfl rfl rfl ?_
      refine W_move rfl rfl rfl ?_
      refine W_quo rfl rfl rfl rfl (by decide) ?_
      refine W_bin rfl rfl rfl rfl rfl ?_
      refine W_bin rfl rfl rfl rfl rfl ?_
      refine W_bin rfl rfl rfl rfl rfl ?_
      refine W_bin rfl rfl rfl rfl rfl ?_
      refine W_end ?_
      refine E_then ?_
      refine cd hm rfl (fun hb210 hm => ?_) (fun hb210 hm => ?_)
      · refine C_skip ?_
        refine E_then ?_
        refine C_seq ?_
        refine C_block ?_
        refine C_seq ?_
        refine C_region ?_
        refine Wp [1] ?_
        refine W_call Proofs.Try.call65 rfl rfl rfl (fun w ht => by have h := m_slices_xorshift_Next_c (hm := (rfl : m_slices_xorshift_Next ⟨n198⟩ = _))  ht; exact h) ?_
        rintro _ _ _ ⟨rfl, rfl, rfl⟩
        refine W_move rfl rfl rfl ?_
        refine W_bin rfl rfl rfl rfl rfl ?_
        refine W_bin rfl rfl rfl rfl rfl ?_
        refine W_convInt rfl rfl Proofs.Try.runUnderlying74 Proofs.Try.runUnderlying3 rfl ?_
        refine W_assign rfl rfl rfl ?_
        refine W_end ?_
        refine E_then ?_
        refine cj [(0, _), (1, _), (8, _), (9, _), (10, _), (11, _)] [] 0 (fun u m H' M' L' => ∃ n213 : Int, m_slices_breakPatternsCmpFunc_api_TelemetryMsg__telemetry_Points_List_1_b4 p1_a l195 n197 n198 nx202 n213 = some r ∧ H199 = H' ∧ m = M' ∧ (12, .int .i64 (n213)) :: u = L') ?_ (fun J214 => ?_)
        · rintro _ _ _ ⟨n213, hm, rfl, rfl, rfl⟩
          unfold m_slices_breakPatternsCmpFunc_api_TelemetryMsg__telemetry_Points_List_1_b4 at hm
          obtain ⟨y215, h216, he217, hm⟩ := idx_some hm
          obtain ⟨_, rfl, hg218⟩ := (hr196).elem he217
          obtain ⟨y219, h220, he221, hm⟩ := idx_some hm
          obtain ⟨_, rfl, hg222⟩ := (hr196).elem he221
          obtain ⟨y223, h224, he225, hm⟩ := idx_some hm
          obtain ⟨_, rfl, hg226⟩ := (hr196).elem he225
          refine rgx fm 18 [ph _, ph _, ph _, ph _, ph _, ph _, ph _, ph _, ph _, ph _, ph (.pointer (some ((Value.base (v0)).add ((IntKind.i64.wrap (p1_a + n213) : Int).toNat * Rep.sz S_api_TelemetryMsg)))), ph (.agg [.string (y215.Point), .int .i64 (y215.Number), .int .i64 (y215.Time), .int .i64 (y215.Value)].toArray), ph _, ph _, ph (.pointer (some ((Value.base (v0)).add ((n197 : Int).toNat * Rep.sz S_api_TelemetryMsg)))), ph (.agg [.string (y219.Point), .int .i64 (y219.Number), .int .i64 (y219.Time), .int .i64 (y219.Value)].toArray), ph (.pointer (some ((Value.base (v0)).add ((n197 : Int).toNat * Rep.sz S_api_TelemetryMsg)))), (fun H rs v => ∃ xs234 : List Value, [.row v0 29 (Rep.sz S_api_TelemetryMsg) (l195.set ((n197 : Int).toNat) y215).length xs234] = rs ∧ .pointer (some ((Value.base (v0)).add ((n197 : Int).toNat * Rep.sz S_api_TelemetryMsg))) = v ∧ Rw H v0 xs234 (l195.set ((n197 : Int).toNat) y215))] (sp 18 [(17, [18])]) (sp 18 [(10, [18]), (11, [18]), (14, [18]), (15, [18]), (16, [18])]) [1] [0, 1, 2, 3, 4, 5, 6, 7, 8, 9, 10, 11, 12, 13, 14, 15, 16, 17] rfl ⟨om, om, om, om, om, om, om, om, om, om, ?_, ?_, om, om, ?_, ?_, ?_, ?_, trivial⟩ ?_
          · intro HX hX X Rest hR
            rintro _ _ ⟨rfl, rfl⟩
            rintro _ _ ⟨rfl, rfl⟩
            intro hU hUp
            have hU2 : ∀ s ∈ [.row v0 29 (Rep.sz S_api_TelemetryMsg) l195.length xs194], s ∈ Rest := hU
            refine W_indexO (hU2 _ (List.mem_cons_self ..)) rfl rfl Proofs.Try.runUnderlying27 Proofs.Try.sizeOf29 rfl rfl h216 (List.getElem?_eq_some_iff.1 he217).1 ?_
            exact o0 ⟨rfl, rfl⟩
          · intro HX hX X Rest hR
            rintro _ _ ⟨rfl, rfl⟩
            intro hU hUp
            have hU2 : ∀ s ∈ [.row v0 29 (Rep.sz S_api_TelemetryMsg) l195.length xs194], s ∈ Rest := hU
            refine W_loadAgg (cs := [.string (y215.Point), .int .i64 (y215.Number), .int .i64 (y215.Time), .int .i64 (y215.Value)]) rfl rfl Proofs.Try.isAgg29 Proofs.Try.sizeOf29 rfl (row_cells (hU2 _ (List.mem_cons_self ..)) hg218) rfl ?_
            exact o0 ⟨rfl, rfl⟩
          · intro HX hX X Rest hR
            rintro _ _ ⟨rfl, rfl⟩
            rintro _ _ ⟨rfl, rfl⟩
            intro hU hUp
            have hU2 : ∀ s ∈ [.row v0 29 (Rep.sz S_api_TelemetryMsg) l195.length xs194], s ∈ Rest := hU
            refine W_indexO (hU2 _ (List.mem_cons_self ..)) rfl rfl Proofs.Try.runUnderlying27 Proofs.Try.sizeOf29 rfl rfl h220 (List.getElem?_eq_some_iff.1 he221).1 ?_
            exact o0 ⟨rfl, rfl⟩
          · intro HX hX X Rest hR
            rintro _ _ ⟨rfl, rfl⟩
            intro hU hUp
            have hU2 : ∀ s ∈ [.row v0 29 (Rep.sz S_api_TelemetryMsg) l195.length xs194], s ∈ Rest := hU
            refine W_loadAgg (cs := [.string (y219.Point), .int .i64 (y219.Number), .int .i64 (y219.Time), .int .i64 (y219.Value)]) rfl rfl Proofs.Try.isAgg29 Proofs.Try.sizeOf29 rfl (row_cells (hU2 _ (List.mem_cons_self ..)) hg222) rfl ?_
            exact o0 ⟨rfl, rfl⟩
          · intro HX hX X Rest hR
            rintro _ _ ⟨rfl, rfl⟩
            rintro _ _ ⟨rfl, rfl⟩
            rintro _ _ ⟨rfl, rfl⟩
            rintro _ _ ⟨rfl, rfl⟩
            rintro _ _ ⟨rfl, rfl⟩
            rintro _ _ ⟨rfl, rfl⟩
            rintro _ _ ⟨rfl, rfl⟩
            rintro _ _ ⟨rfl, rfl⟩
            rintro _ _ ⟨rfl, rfl⟩
            rintro _ _ ⟨rfl, rfl⟩
            rintro _ _ ⟨rfl, rfl⟩
            intro hU hUp
            have hU2 : ∀ s ∈ [.row v0 29 (Rep.sz S_api_TelemetryMsg) l195.length xs194], s ∈ Rest := hU
            refine W_indexO (hU2 _ (List.mem_cons_self ..)) rfl rfl Proofs.Try.runUnderlying27 Proofs.Try.sizeOf29 rfl rfl h224 (List.getElem?_eq_some_iff.1 he225).1 ?_
            exact o0 ⟨rfl, rfl⟩
          · intro HX hX X Rest hR
            rintro _ _ ⟨rfl, rfl⟩
            rintro _ _ ⟨rfl, rfl⟩
            rintro _ _ ⟨rfl, rfl⟩
            rintro _ _ ⟨rfl, rfl⟩
            rintro _ _ ⟨rfl, rfl⟩
            rintro _ _ ⟨rfl, rfl⟩
            rintro _ _ ⟨rfl, rfl⟩
            rintro _ _ ⟨rfl, rfl⟩
            rintro _ _ ⟨rfl, rfl⟩
            rintro _ _ ⟨rfl, rfl⟩
            rintro _ _ ⟨rfl, rfl⟩
            intro hU hUp
            refine Wp [0] ?_
            obtain ⟨hr231, he232, hg233⟩ := Rw.put (cs := [.string (y215.Point), .int .i64 (y215.Number), .int .i64 (y215.Time), .int .i64 (y215.Value)]) (o := 0) (c := [.string (y223.Point), .int .i64 (y223.Number), .int .i64 (y223.Time), .int .i64 (y223.Value)]) (out := [.string (y215.Point), .int .i64 (y215.Number), .int .i64 (y215.Time), .int .i64 (y215.Value)]) (e2 := y215) (hr196.mono hX) he225 rfl hg226 rfl rfl rfl
            refine W_storeO2 (i := (n197 : Int).toNat * Rep.sz S_api_TelemetryMsg + 0) (cs := [.string (y215.Point), .int .i64 (y215.Number), .int .i64 (y215.Time), .int .i64 (y215.Value)]) rfl Proofs.Try.sizeOf29 rfl (row_ad0 _ _) rfl rfl rfl (Rw.room (hr196.mono hX) he225 rfl) rfl (all_cons rfl (all_cons rfl (all_cons rfl (all_cons rfl all_nil)))) (n' := (l195.set ((n197 : Int).toNat) y215).length) List.length_set ?_
            generalize over xs194 ((n197 : Int).toNat * Rep.sz S_api_TelemetryMsg + 0) [.string (y215.Point), .int .i64 (y215.Number), .int .i64 (y215.Time), .int .i64 (y215.Value)] = xs234 at hr231 hg233 ⊢
            exact W_end (OneT_endL rfl [.row v0 29 (Rep.sz S_api_TelemetryMsg) (l195.set ((n197 : Int).toNat) y215).length xs234] (Hp.le_refl _) ⟨xs234, rfl, rfl, (hr231)⟩)
          intro H235 hle236
          rintro _ _ ⟨rfl, rfl⟩
          rintro _ _ ⟨rfl, rfl⟩
          rintro _ _ ⟨rfl, rfl⟩
          rintro _ _ ⟨rfl, rfl⟩
          rintro _ _ ⟨rfl, rfl⟩
          rintro _ _ ⟨rfl, rfl⟩
          rintro _ _ ⟨rfl, rfl⟩
          rintro _ _ ⟨rfl, rfl⟩
          rintro _ _ ⟨rfl, rfl⟩
          rintro _ _ ⟨rfl, rfl⟩
          rintro _ _ ⟨rfl, rfl⟩
          rintro _ _ ⟨rfl, rfl⟩
          rintro _ _ ⟨rfl, rfl⟩
          rintro _ _ ⟨rfl, rfl⟩
          rintro _ _ ⟨rfl, rfl⟩
          rintro _ _ ⟨rfl, rfl⟩
          rintro _ _ ⟨rfl, rfl⟩
          rintro _ _ _ ⟨xs234, rfl, _, hr231⟩
          refine isW ?_
          refine Wp [0, 0] ?_
          obtain ⟨y237, h238, he239, hm⟩ := idx_some hm
          refine W_indexO (List.mem_cons_self ..) rfl rfl Proofs.Try.runUnderlying27 Proofs.Try.sizeOf29 rfl rfl h238 (List.getElem?_eq_some_iff.1 he239).1 ?_
          obtain ⟨_, rfl, hg240⟩ := (hr231).elem he239
          obtain ⟨hr241, he242, hg243⟩ := Rw.put (cs := [.string (y219.Point), .int .i64 (y219.Number), .int .i64 (y219.Time), .int .i64 (y219.Value)]) (o := 0) (c := [.string (y237.Point), .int .i64 (y237.Number), .int .i64 (y237.Time), .int .i64 (y237.Value)]) (out := [.string (y219.Point), .int .i64 (y219.Number), .int .i64 (y219.Time), .int .i64 (y219.Value)]) (e2 := y219) hr231 he239 rfl hg240 rfl rfl rfl
          refine W_storeO2 (i := (IntKind.i64.wrap (p1_a + n213) : Int).toNat * Rep.sz S_api_TelemetryMsg + 0) (cs := [.string (y219.Point), .int .i64 (y219.Number), .int .i64 (y219.Time), .int .i64 (y219.Value)]) rfl Proofs.Try.sizeOf29 rfl (row_ad0 _ _) rfl rfl rfl (Rw.room hr231 he239 rfl) rfl (all_cons rfl (all_cons rfl (all_cons rfl (all_cons rfl all_nil)))) (n' := ((l195.set ((n197 : Int).toNat) y215).set ((IntKind.i64.wrap (p1_a + n213) : Int).toNat) y219).length) List.length_set ?_
          generalize over xs234 ((IntKind.i64.wrap (p1_a + n213) : Int).toNat * Rep.sz S_api_TelemetryMsg + 0) [.string (y219.Point), .int .i64 (y219.Number), .int .i64 (y219.Time), .int .i64 (y219.Value)] = xs244 at hr241 hg243 ⊢
          refine W_end ?_
          refine E_normal_block ?_
          refine E_then ?_
          refine C_region ?_
          refine W_move rfl rfl rfl ?_
          refine W_bin rfl rfl rfl rfl rfl ?_
          refine W_assign rfl rfl rfl ?_
          refine W_end ?_
          exact kj (E_back (Nat.lt_succ_self _) ⟨_, _, _, _, ((congrFun hn203 _).trans hm), hr241, (Hp.le_trans hle200 hle236), rfl, rfl⟩)
        · refine C_seq ?_
          refine C_region ?_
          refine W_move rfl rfl rfl ?_
          refine W_move rfl rfl rfl ?_
          refine W_bin rfl rfl rfl rfl rfl ?_
          refine W_end ?_
          refine E_then ?_
          refine cd hm rfl (fun hb245 hm => ?_) (fun hb245 hm => ?_)
          · refine C_region ?_
            refine W_move rfl rfl rfl ?_
            refine W_move rfl rfl rfl ?_
            refine W_bin rfl rfl rfl rfl rfl ?_
            refine W_assign rfl rfl rfl ?_
            refine W_end ?_
            exact kj (J214 _ _ _ ⟨_, hm, rfl, rfl, rfl⟩)
          · refine C_skip ?_
            exact kj (J214 _ _ _ ⟨_, hm, rfl, rfl, rfl⟩)
      · refine C_exit ?_
        refine E_exit_then ?_
        refine E_exit_then ?_
        refine E_exit_hit ?_
        refine E_off ?_
        obtain rfl := Option.some.inj hm
        refine Ek [0] 1 ?_
        refine E_weak hle200 ?_
        exact end0 rfl ⟨rfl, xs194, rfl, rfl, (hr196).toF⟩
  · refine C_skip ?_
    refine E_off ?_
    obtain rfl := Option.some.inj hm
    refine E_weak (Hp.le_refl _) ?_
    exact end0 rfl ⟨rfl, xs0, rfl, rfl, (h0).toF⟩

theorem m_slices_pdqsortCmpFunc_api_TelemetryMsg__telemetry_Points_List_1_step_c {self : (List S_api_TelemetryMsg) → Int → Int → Int → Option ((List S_api_TelemetryMsg))} (ih : ∀ {B : Nat} {w0 : Bs Proofs.Try.prog} {w : World} {H : Hp} {M : List Res} {data : (List S_api_TelemetryMsg)} {p1_a : Int} {p2_b : Int} {limit : Int} {v0 : Value} {xs0 : List Value} {r : (List S_api_TelemetryMsg)} (hm : self data p1_a p2_b limit = some r) (h0 : Rw H v0 xs0 data) (ht : St B w0 H (.row v0 29 (Rep.sz S_api_TelemetryMsg) data.length xs0 :: M) w),
    Calls Proofs.Try.prog 44 [v0, .int .i64 (p1_a), .int .i64 (p2_b), .int .i64 (limit), .func (.func 20) [].toArray [].toArray].toArray w (Ret B w0 fun H' M' v => H = H' ∧ ∃ qxs0 : List Value, .row v0 29 (Rep.sz S_api_TelemetryMsg) r.length qxs0 :: M = M' ∧ .tuple #[] = v ∧ RwF v0 qxs0 r)) {B : Nat} {w0 : Bs Proofs.Try.prog} {w : World} {H : Hp} {M : List Res} {data : (List S_api_TelemetryMsg)} {p1_a : Int} {p2_b : Int} {limit : Int} {v0 : Value} {xs0 : List Value} {r : (List S_api_TelemetryMsg)} (hm : m_slices_pdqsortCmpFunc_api_TelemetryMsg__telemetry_Points_List_1_step self data p1_a p2_b limit = some r) (h0 : Rw H v0 xs0 data) (ht : St B w0 H (.row v0 29 (Rep.sz S_api_TelemetryMsg) data.length xs0 :: M) w) :
    Calls Proofs.Try.prog 44 [v0, .int .i64 (p1_a), .int .i64 (p2_b), .int .i64 (limit), .func (.func 20) [].toArray [].toArray].toArray w (Ret B w0 fun H' M' v => H = H' ∧ ∃ qxs0 : List Value, .row v0 29 (Rep.sz S_api_TelemetryMsg) r.length qxs0 :: M = M' ∧ .tuple #[] = v ∧ RwF v0 qxs0 r) := by
  unfold m_slices_pdqsortCmpFunc_api_TelemetryMsg__telemetry_Points_List_1_step at hm
  refine enter Proofs.Try.func44 rfl rfl rfl ht ?_
  refine C_seq ?_
  refine C_region ?_
  refine W_assign rfl rfl rfl ?_
  refine W_end ?_
  refine E_then ?_
  refine C_seq ?_
  refine C_region ?_
  refine W_assign rfl rfl rfl ?_
  refine W_end ?_
  refine E_then ?_
  refine C_block ?_
  obtain ⟨J652, hm653, hm654, hm⟩ := loopF_nm hm
  refine cl [(0, _), (4, _)] [] 1 [] 0 (fun u m n H' M' L' => ∃ l503 : List S_api_TelemetryMsg, ∃ n505 : Int, ∃ n506 : Int, ∃ n507 : Int, ∃ c508 : Bool, ∃ c509 : Bool, ∃ xs502 : List Value, J652 n (l503, n505, n506, n507, c508, c509) = some r ∧ Rw H' v0 xs502 l503 ∧ H.le H' ∧ .row v0 29 (Rep.sz S_api_TelemetryMsg) l503.length xs502 :: m = M' ∧ (1, .int .i64 (n505)) :: (2, .int .i64 (n506)) :: (3, .int .i64 (n507)) :: (10, .bool (c508)) :: (11, .bool (c509)) :: u = L') FUEL rfl ⟨_, _, _, _, _, _, _, hm, h0, (Hp.le_refl _), rfl, rfl⟩ ?_
  rintro n515 H510 _ _ ⟨l503, n505, n506, n507, c508, c509, xs502, hm, hr504, hle511, rfl, rfl⟩
  cases n515 with
  | zero => exact nomatch (hm654 _).symm.trans hm
  | succ n515 =>
    have hm := (hm653 _ _).symm.trans hm
    generalize hn514 : J652 n515 = nx513 at hm
    try dsimp only at hm
    unfold m_slices_pdqsortCmpFunc_api_TelemetryMsg__telemetry_Points_List_1_b10 at hm
    refine C_block ?_
    refine C_seq ?_
    refine C_region ?_
    refine W_move rfl rfl rfl ?_
    refine W_move rfl rfl rfl ?_
    refine W_bin rfl rfl rfl rfl rfl ?_
    refine W_assign rfl rfl rfl ?_
    refine W_end ?_
    refine E_then ?_
    refine C_seq ?_
    refine C_seq ?_
    refine C_region ?_
    refine W_move rfl rfl rfl ?_
    refine W_bin rfl rfl rfl rfl rfl ?_
    refine W_end ?_
    refine E_then ?_
    refine cd hm rfl (fun hb521 hm => ?_) (fun hb521 hm => ?_)
    · refine C_seq ?_
      refine C_region ?_
      refine W_move rfl rfl rfl ?_
      refine W_move rfl rfl rfl ?_
      refine W_move rfl rfl rfl ?_
      refine W_move rfl rfl rfl ?_
      obtain ⟨r522, hc523, hm⟩ := bind_some hm
      refine W_call Proofs.Try.call52 rfl rfl rfl (fun w ht => by have h := m_slices_insertionSortCmpFunc_api_TelemetryMsg__telemetry_Points_List_1_c (hm := hc523) hr504 ht; exact h) ?_
      rintro _ _ _ ⟨rfl, xs525, rfl, rfl, h526⟩
      have h526 := h526 H510
      refine W_end ?_
      refine E_then ?_
      refine C_ret ?_
      refine E_ret_then ?_
      refine E_ret_block ?_
      refine E_ret_then ?_
      refine E_ret_block ?_
      obtain rfl := Option.some.inj hm
      refine E_weak hle511 ?_
      exact end0 rfl ⟨rfl, xs525, rfl, rfl, (h526).toF⟩
    · refine C_skip ?_
      refine E_then ?_
      refine C_seq ?_
      refine C_seq ?_
      refine C_region ?_
      refine W_move rfl rfl rfl ?_
      refine W_bin rfl rfl rfl rfl rfl ?_
      refine W_end ?_
      refine E_then ?_
      refine cd hm rfl (fun hb527 hm => ?_) (fun hb527 hm => ?_)
      · refine C_seq ?_
        refine C_region ?_
        refine W_move rfl rfl rfl ?_
        refine W_move rfl rfl rfl ?_
        refine W_move rfl rfl rfl ?_
        refine W_move rfl rfl rfl ?_
        obtain ⟨r528, hc529, hm⟩ := bind_some hm
        refine W_call Proofs.Try.call53 rfl rfl rfl (fun w ht => by have h := m_slices_heapSortCmpFunc_api_TelemetryMsg__telemetry_Points_List_1_c (hm := hc529) hr504 ht; exact h) ?_
        rintro _ _ _ ⟨rfl, xs531, rfl, rfl, h532⟩
        have h532 := h532 H510
        refine W_end ?_
        refine E_then ?_
        refine C_ret ?_
        refine E_ret_then ?_
        refine E_ret_block ?_
        refine E_ret_then ?_
        refine E_ret_block ?_
        obtain rfl := Option.some.inj hm
        refine E_weak hle511 ?_
        exact end0 rfl ⟨rfl, xs531, rfl, rfl, (h532).toF⟩
      · refine C_skip ?_
        refine E_then ?_
        refine cj [(0, _), (1, _), (2, _), (4, _), (10, _), (11, _), (12, _)] [] 1 (fun u m H' M' L' => ∃ l541 : List S_api_TelemetryMsg, ∃ n543 : Int, ∃ xs540 : List Value, m_slices_pdqsortCmpFunc_api_TelemetryMsg__telemetry_Points_List_1_b13 self n505 n506 c508 c509 nx513 l541 n543 = some r ∧ Rw H' v0 xs540 l541 ∧ H510 = H' ∧ .row v0 29 (Rep.sz S_api_TelemetryMsg) l541.length xs540 :: m = M' ∧ (3, .int .i64 (n543)) :: u = L') ?_ (fun J544 => ?_)
        · rintro _ _ _ ⟨l541, n543, xs540, hm, hr542, rfl, rfl, rfl⟩
          unfold m_slices_pdqsortCmpFunc_api_TelemetryMsg__telemetry_Points_List_1_b13 at hm
          refine C_seq ?_
          refine C_region ?_
          refine W_move rfl rfl rfl ?_
          refine W_move rfl rfl rfl ?_
          refine W_move rfl rfl rfl ?_
          refine W_move rfl rfl rfl ?_
          obtain ⟨r545, hc546, hm⟩ := bind_some hm
          refine W_call Proofs.Try.call55 rfl rfl rfl (fun w ht => by have h := m_slices_choosePivotCmpFunc_api_TelemetryMsg__telemetry_Points_List_1_c (hm := hc546) hr542 ht; exact h) ?_
          rintro _ _ _ ⟨rfl, rfl, rfl⟩
          refine W_move rfl rfl rfl ?_
          refine W_extract rfl rfl rfl rfl ?_
          refine W_extract rfl rfl rfl rfl ?_
          refine W_assign rfl rfl rfl ?_
          refine W_assign rfl rfl rfl ?_
          refine W_end ?_
          refine E_then ?_
          refine cj [(0, _), (1, _), (2, _), (3, _), (4, _), (10, _), (11, _), (12, _)] [] 1 (fun u m H' M' L' => ∃ l555 : List S_api_TelemetryMsg, ∃ n557 : Int, ∃ n558 : Int, ∃ xs554 : List Value, m_slices_pdqsortCmpFunc_api_TelemetryMsg__telemetry_Points_List_1_b12 self n505 n506 c508 c509 nx513 n543 l555 n557 n558 = some r ∧ Rw H' v0 xs554 l555 ∧ H510 = H' ∧ .row v0 29 (Rep.sz S_api_TelemetryMsg) l555.length xs554 :: m = M' ∧ (13, .int .i64 (n557)) :: (14, .int .i64 (n558)) :: u = L') ?_ (fun J559 => ?_)
          · rintro _ _ _ ⟨l555, n557, n558, xs554, hm, hr556, rfl, rfl, rfl⟩
            unfold m_slices_pdqsortCmpFunc_api_TelemetryMsg__telemetry_Points_List_1_b12 at hm
            refine cj [(0, _), (1, _), (2, _), (3, _), (4, _), (10, _), (11, _), (12, _), (13, _)] [] 1 (fun u m H' M' L' => ∃ l574 : List S_api_TelemetryMsg, ∃ xs573 : List Value, m_slices_pdqsortCmpFunc_api_TelemetryMsg__telemetry_Points_List_1_b11 self n505 n506 c508 c509 nx513 n543 n557 l574 = some r ∧ Rw H' v0 xs573 l574 ∧ H510 = H' ∧ .row v0 29 (Rep.sz S_api_TelemetryMsg) l574.length xs573 :: m = M' ∧ u = L') ?_ (fun J576 => ?_)
            · rintro _ _ _ ⟨l574, xs573, hm, hr575, rfl, rfl, rfl⟩
              unfold m_slices_pdqsortCmpFunc_api_TelemetryMsg__telemetry_Points_List_1_b11 at hm
              refine C_seq ?_
              refine C_seq ?_
              cases hb577 : (decide (0 < n505))
              · have hm := ite_f' hb577 hm
                refine rgp fm 13 [ph _, ph (.bool (false)), ph _, ph _, ph _, ph _, ph _, ph _, ph _, ph _, ph _, ph _, ph _] ⟨om, omb hb577, om, om, om, om, om, om, om, om, om, om, om, trivial⟩ ?_
                intro H578 hle579
                rintro _ _ ⟨rfl, rfl⟩
                rintro _ _ ⟨rfl, rfl⟩
                rintro _ _ ⟨rfl, rfl⟩
                rintro _ _ ⟨rfl, rfl⟩
                rintro _ _ ⟨rfl, rfl⟩
                rintro _ _ ⟨rfl, rfl⟩
                rintro _ _ ⟨rfl, rfl⟩
                rintro _ _ ⟨rfl, rfl⟩
                rintro _ _ ⟨rfl, rfl⟩
                rintro _ _ ⟨rfl, rfl⟩
                rintro _ _ ⟨rfl, rfl⟩
                rintro _ _ ⟨rfl, rfl⟩
                rintro _ _ ⟨rfl, rfl⟩
                refine isW ?_
                refine W_no rfl rfl rfl ?_
                refine W_no rfl rfl rfl ?_
                refine W_no rfl rfl rfl ?_
                refine W_pick rfl rfl rfl rfl ?_
                refine W_end ?_
                refine E_then ?_
                refine cF rfl ?_
                refine C_skip ?_
                refine E_then ?_
                refine C_seq ?_
                refine C_region ?_
                refine W_move rfl rfl rfl ?_
                refine W_move rfl rfl rfl ?_
                refine W_move rfl rfl rfl ?_
                refine W_move rfl rfl rfl ?_
                refine W_move rfl rfl rfl ?_
                obtain ⟨r580, hc581, hm⟩ := bind_some hm
                refine W_call Proofs.Try.call59 rfl rfl rfl (fun w ht => by have h := m_slices_partitionCmpFunc_api_TelemetryMsg__telemetry_Points_List_1_c (hm := hc581) (hr575.mono hle579) ht; exact h) ?_
                rintro _ _ _ ⟨rfl, xs583, rfl, rfl, h584⟩
                have h584 := h584 H578
                refine W_move rfl rfl rfl ?_
                refine W_extract rfl rfl rfl rfl ?_
                refine W_extract rfl rfl rfl rfl ?_
                refine W_assign rfl rfl rfl ?_
                refine W_assign rfl rfl rfl ?_
                refine W_end ?_
                refine E_then ?_
                refine C_seq ?_
                refine C_region ?_
                refine W_move rfl rfl rfl ?_
                refine W_assign rfl rfl rfl ?_
                refine W_end ?_
                refine E_then ?_
                refine C_seq ?_
                refine C_region ?_
                refine W_move rfl rfl rfl ?_
                refine W_move rfl rfl rfl ?_
                refine W_bin rfl rfl rfl rfl rfl ?_
                refine W_move rfl rfl rfl ?_
                refine W_move rfl rfl rfl ?_
                refine W_bin rfl rfl rfl rfl rfl ?_
                refine W_assign rfl rfl rfl ?_
                refine W_assign rfl rfl rfl ?_
                refine W_end ?_
                refine E_then ?_
                refine C_seq ?_
                refine C_region ?_
                refine W_move rfl rfl rfl ?_
                refine W_quo rfl rfl rfl rfl (by decide) ?_
                refine W_assign rfl rfl rfl ?_
                refine W_end ?_
                refine E_then ?_
                refine C_seq ?_
                refine C_region ?_
                refine W_move rfl rfl rfl ?_
                refine W_move rfl rfl rfl ?_
                refine W_bin rfl rfl rfl rfl rfl ?_
                refine W_end ?_
                refine E_then ?_
                refine cd hm rfl (fun hb585 hm => ?_) (fun hb585 hm => ?_)
                · refine C_seq ?_
                  refine C_region ?_
                  refine W_move rfl rfl rfl ?_
                  refine W_move rfl rfl rfl ?_
                  refine W_bin rfl rfl rfl rfl rfl ?_
                  refine W_assign rfl rfl rfl ?_
                  refine W_end ?_
                  refine E_then ?_
                  refine C_seq ?_
                  refine C_region ?_
                  refine W_move rfl rfl rfl ?_
                  refine W_move rfl rfl rfl ?_
                  refine W_move rfl rfl rfl ?_
                  refine W_move rfl rfl rfl ?_
                  refine W_move rfl rfl rfl ?_
                  obtain ⟨r586, hc587, hm⟩ := bind_some hm
                  refine W_call Proofs.Try.call44 rfl rfl rfl (fun w ht => by have h := ih (hm := hc587) h584 ht; exact h) ?_
                  rintro _ _ _ ⟨rfl, xs589, rfl, rfl, h590⟩
                  have h590 := h590 H578
                  refine W_end ?_
                  refine E_then ?_
                  refine C_region ?_
                  refine W_move rfl rfl rfl ?_
                  refine W_bin rfl rfl rfl rfl rfl ?_
                  refine W_assign rfl rfl rfl ?_
                  refine W_end ?_
                  refine E_normal_block ?_
                  exact kj (E_back (Nat.lt_succ_self _) ⟨_, _, _, _, _, _, _, ((congrFun hn514 _).trans hm), h590, (Hp.le_trans hle511 hle579), rfl, rfl⟩)
                · refine C_seq ?_
                  refine C_region ?_
                  refine W_move rfl rfl rfl ?_
                  refine W_move rfl rfl rfl ?_
                  refine W_bin rfl rfl rfl rfl rfl ?_
                  refine W_assign rfl rfl rfl ?_
                  refine W_end ?_
                  refine E_then ?_
                  refine C_seq ?_
                  refine C_region ?_
                  refine W_move rfl rfl rfl ?_
                  refine W_move rfl rfl rfl ?_
                  refine W_bin rfl rfl rfl rfl rfl ?_
                  refine W_move rfl rfl rfl ?_
                  refine W_move rfl rfl rfl ?_
                  refine W_move rfl rfl rfl ?_
                  obtain ⟨r591, hc592, hm⟩ := bind_some hm
                  refine W_call Proofs.Try.call44 rfl rfl rfl (fun w ht => by have h := ih (hm := hc592) h584 ht; exact h) ?_
                  rintro _ _ _ ⟨rfl, xs594, rfl, rfl, h595⟩
                  have h595 := h595 H578
                  refine W_end ?_
                  refine E_then ?_
                  refine C_region ?_
                  refine W_move rfl rfl rfl ?_
                  refine W_assign rfl rfl rfl ?_
                  refine W_end ?_
                  refine E_normal_block ?_
                  exact kj (E_back (Nat.lt_succ_self _) ⟨_, _, _, _, _, _, _, ((congrFun hn514 _).trans hm), h595, (Hp.le_trans hle511 hle579), rfl, rfl⟩)
              · have hm := ite_t' hb577 hm
                obtain ⟨y596, h597, he598, hm⟩ := idx_some hm
                obtain ⟨_, rfl, hg599⟩ := (hr575).elem he598
                obtain ⟨y600, h601, he602, hm⟩ := idx_some hm
                obtain ⟨_, rfl, hg603⟩ := (hr575).elem he602
                refine rgp fm 13 [ph _, ph (.bool (true)), ph _, ph _, ph _, ph _, ph _, ph (.pointer (some ((Value.base (v0)).add ((IntKind.i64.wrap (n505 - 1) : Int).toNat * Rep.sz S_api_TelemetryMsg)))), ph (.agg [.string (y596.Point), .int .i64 (y596.Number), .int .i64 (y596.Time), .int .i64 (y596.Value)].toArray), ph _, ph _, ph (.pointer (some ((Value.base (v0)).add ((n557 : Int).toNat * Rep.sz S_api_TelemetryMsg)))), ph (.agg [.string (y600.Point), .int .i64 (y600.Number), .int .i64 (y600.Time), .int .i64 (y600.Value)].toArray)] ⟨om, omb hb577, om, om, om, om, om, ?_, ?_, om, om, ?_, ?_, trivial⟩ ?_
                · intro HX hX X Rest hR
                  rintro _ _ ⟨rfl, rfl⟩
                  rintro _ _ ⟨rfl, rfl⟩
                  rintro _ _ ⟨rfl, rfl⟩
                  intro hU hUp
                  refine W_indexO (hR _ (List.mem_cons_self ..)) rfl rfl Proofs.Try.runUnderlying27 Proofs.Try.sizeOf29 rfl rfl h597 (List.getElem?_eq_some_iff.1 he598).1 ?_
                  exact o0 ⟨rfl, rfl⟩
                · intro HX hX X Rest hR
                  rintro _ _ ⟨rfl, rfl⟩
                  rintro _ _ ⟨rfl, rfl⟩
                  intro hU hUp
                  refine W_loadAgg (cs := [.string (y596.Point), .int .i64 (y596.Number), .int .i64 (y596.Time), .int .i64 (y596.Value)]) rfl rfl Proofs.Try.isAgg29 Proofs.Try.sizeOf29 rfl (row_cells (hR _ (List.mem_cons_self ..)) hg599) rfl ?_
                  exact o0 ⟨rfl, rfl⟩
                · intro HX hX X Rest hR
                  rintro _ _ ⟨rfl, rfl⟩
                  rintro _ _ ⟨rfl, rfl⟩
                  rintro _ _ ⟨rfl, rfl⟩
                  intro hU hUp
                  refine W_indexO (hR _ (List.mem_cons_self ..)) rfl rfl Proofs.Try.runUnderlying27 Proofs.Try.sizeOf29 rfl rfl h601 (List.getElem?_eq_some_iff.1 he602).1 ?_
                  exact o0 ⟨rfl, rfl⟩
                · intro HX hX X Rest hR
                  rintro _ _ ⟨rfl, rfl⟩
                  rintro _ _ ⟨rfl, rfl⟩
                  intro hU hUp
                  refine W_loadAgg (cs := [.string (y600.Point), .int .i64 (y600.Number), .int .i64 (y600.Time), .int .i64 (y600.Value)]) rfl rfl Proofs.Try.isAgg29 Proofs.Try.sizeOf29 rfl (row_cells (hR _ (List.mem_cons_self ..)) hg603) rfl ?_
                  exact o0 ⟨rfl, rfl⟩
                intro H604 hle605
                rintro _ _ ⟨rfl, rfl⟩
                rintro _ _ ⟨rfl, rfl⟩
                rintro _ _ ⟨rfl, rfl⟩
                rintro _ _ ⟨rfl, rfl⟩
                rintro _ _ ⟨rfl, rfl⟩
                rintro _ _ ⟨rfl, rfl⟩
                rintro _ _ ⟨rfl, rfl⟩
                rintro _ _ ⟨rfl, rfl⟩
                rintro _ _ ⟨rfl, rfl⟩
                rintro _ _ ⟨rfl, rfl⟩
                rintro _ _ ⟨rfl, rfl⟩
                rintro _ _ ⟨rfl, rfl⟩
                rintro _ _ ⟨rfl, rfl⟩
                refine isW ?_
                refine W_callv Proofs.Try.call20 rfl rfl rfl rfl (fun w ht => by have h := m_telemetry_Points_List_1_c (hm := (rfl : m_telemetry_Points_List_1 y596 y600 = _))  ht; exact h) ?_
                rintro _ _ _ ⟨rfl, rfl, rfl⟩
                refine W_bin rfl rfl rfl rfl rfl ?_
                refine W_un rfl rfl rfl rfl ?_
                refine W_pick rfl rfl rfl rfl ?_
                refine W_end ?_
                refine E_then ?_
                refine cd hm rfl (fun hb606 hm => ?_) (fun hb606 hm => ?_)
                · refine C_seq ?_
                  refine C_region ?_
                  refine W_move rfl rfl rfl ?_
                  refine W_move rfl rfl rfl ?_
                  refine W_move rfl rfl rfl ?_
                  refine W_move rfl rfl rfl ?_
                  refine W_move rfl rfl rfl ?_
                  obtain ⟨r607, hc608, hm⟩ := bind_some hm
                  refine W_call Proofs.Try.call58 rfl rfl rfl (fun w ht => by have h := m_slices_partitionEqualCmpFunc_api_TelemetryMsg__telemetry_Points_List_1_c (hm := hc608) (hr575.mono hle605) ht; exact h) ?_
                  rintro _ _ _ ⟨rfl, xs610, rfl, rfl, h611⟩
                  have h611 := h611 H604
                  refine W_assign rfl rfl rfl ?_
                  refine W_end ?_
                  refine E_then ?_
                  refine C_seq ?_
                  refine C_region ?_
                  refine W_move rfl rfl rfl ?_
                  refine W_assign rfl rfl rfl ?_
                  refine W_end ?_
                  refine E_then ?_
                  refine C_exit ?_
                  refine E_exit_then ?_
                  refine E_exit_hit ?_
                  exact kj (E_back (Nat.lt_succ_self _) ⟨_, _, _, _, _, _, _, ((congrFun hn514 _).trans hm), h611, (Hp.le_trans hle511 hle605), rfl, rfl⟩)
                · refine C_skip ?_
                  refine E_then ?_
                  refine C_seq ?_
                  refine C_region ?_
                  refine W_move rfl rfl rfl ?_
                  refine W_move rfl rfl rfl ?_
                  refine W_move rfl rfl rfl ?_
                  refine W_move rfl rfl rfl ?_
                  refine W_move rfl rfl rfl ?_
                  obtain ⟨r612, hc613, hm⟩ := bind_some hm
                  refine W_call Proofs.Try.call59 rfl rfl rfl (fun w ht => by have h := m_slices_partitionCmpFunc_api_TelemetryMsg__telemetry_Points_List_1_c (hm := hc613) (hr575.mono hle605) ht; exact h) ?_
                  rintro _ _ _ ⟨rfl, xs615, rfl, rfl, h616⟩
                  have h616 := h616 H604
                  refine W_move rfl rfl rfl ?_
                  refine W_extract rfl rfl rfl rfl ?_
                  refine W_extract rfl rfl rfl rfl ?_
                  refine W_assign rfl rfl rfl ?_
                  refine W_assign rfl rfl rfl ?_
                  refine W_end ?_
                  refine E_then ?_
                  refine C_seq ?_
                  refine C_region ?_
                  refine W_move rfl rfl rfl ?_
                  refine W_assign rfl rfl rfl ?_
                  refine W_end ?_
                  refine E_then ?_
                  refine C_seq ?_
                  refine C_region ?_
                  refine W_move rfl rfl rfl ?_
                  refine W_move rfl rfl rfl ?_
                  refine W_bin rfl rfl rfl rfl rfl ?_
                  refine W_move rfl rfl rfl ?_
                  refine W_move rfl rfl rfl ?_
                  refine W_bin rfl rfl rfl rfl rfl ?_
                  refine W_assign rfl rfl rfl ?_
                  refine W_assign rfl rfl rfl ?_
                  refine W_end ?_
                  refine E_then ?_
                  refine C_seq ?_
                  refine C_region ?_
                  refine W_move rfl rfl rfl ?_
                  refine W_quo rfl rfl rfl rfl (by decide) ?_
                  refine W_assign rfl rfl rfl ?_
                  refine W_end ?_
                  refine E_then ?_
                  refine C_seq ?_
                  refine C_region ?_
                  refine W_move rfl rfl rfl ?_
                  refine W_move rfl rfl rfl ?_
                  refine W_bin rfl rfl rfl rfl rfl ?_
                  refine W_end ?_
                  refine E_then ?_
                  refine cd hm rfl (fun hb617 hm => ?_) (fun hb617 hm => ?_)
                  · refine C_seq ?_
                    refine C_region ?_
                    refine W_move rfl rfl rfl ?_
                    refine W_move rfl rfl rfl ?_
                    refine W_bin rfl rfl rfl rfl rfl ?_
                    refine W_assign rfl rfl rfl ?_
                    refine W_end ?_
                    refine E_then ?_
                    refine C_seq ?_
                    refine C_region ?_
                    refine W_move rfl rfl rfl ?_
                    refine W_move rfl rfl rfl ?_
                    refine W_move rfl rfl rfl ?_
                    refine W_move rfl rfl rfl ?_
                    refine W_move rfl rfl rfl ?_
                    obtain ⟨r618, hc619, hm⟩ := bind_some hm
                    refine W_call Proofs.Try.call44 rfl rfl rfl (fun w ht => by have h := ih (hm := hc619) h616 ht; exact h) ?_
                    rintro _ _ _ ⟨rfl, xs621, rfl, rfl, h622⟩
                    have h622 := h622 H604
                    refine W_end ?_
                    refine E_then ?_
                    refine C_region ?_
                    refine W_move rfl rfl rfl ?_
                    refine W_bin rfl rfl rfl rfl rfl ?_
                    refine W_assign rfl rfl rfl ?_
                    refine W_end ?_
                    refine E_normal_block ?_
                    exact kj (E_back (Nat.lt_succ_self _) ⟨_, _, _, _, _, _, _, ((congrFun hn514 _).trans hm), h622, (Hp.le_trans hle511 hle605), rfl, rfl⟩)
                  · refine C_seq ?_
                    refine C_region ?_
                    refine W_move rfl rfl rfl ?_
                    refine W_move rfl rfl rfl ?_
                    refine W_bin rfl rfl rfl rfl rfl ?_
                    refine W_assign rfl rfl rfl ?_
                    refine W_end ?_
                    refine E_then ?_
                    refine C_seq ?_
                    refine C_region ?_
                    refine W_move rfl rfl rfl ?_
                    refine W_move rfl rfl rfl ?_
                    refine W_bin rfl rfl rfl rfl rfl ?_
                    refine W_move rfl rfl rfl ?_
                    refine W_move rfl rfl rfl ?_
                    refine W_move rfl rfl rfl ?_
                    obtain ⟨r623, hc624, hm⟩ := bind_some hm
                    refine W_call Proofs.Try.call44 rfl rfl rfl (fun w ht => by have h := ih (hm := hc624) h616 ht; exact h) ?_
                    rintro _ _ _ ⟨rfl, xs626, rfl, rfl, h627⟩
                    have h627 := h627 H604
                    refine W_end ?_
                    refine E_then ?_
                    refine C_region ?_
                    refine W_move rfl rfl rfl ?_
                    refine W_assign rfl rfl rfl ?_
                    refine W_end ?_
                    refine E_normal_block ?_
                    exact kj (E_back (Nat.lt_succ_self _) ⟨_, _, _, _, _, _, _, ((congrFun hn514 _).trans hm), h627, (Hp.le_trans hle511 hle605), rfl, rfl⟩)
            · refine cj [(0, _), (1, _), (2, _), (3, _), (4, _), (10, _), (11, _), (12, _), (13, _)] [] 0 (fun u m H' M' L' => H510 = H' ∧ m = M' ∧ (75, .bool ((c508 && c509) && (decide (n558 = 1)))) :: u = L') ?_ (fun J630 => ?_)
              · rintro _ _ _ ⟨rfl, rfl, rfl⟩
                refine cd hm rfl (fun hb631 hm => ?_) (fun hb631 hm => ?_)
                · refine C_seq ?_
                  refine C_region ?_
                  refine W_move rfl rfl rfl ?_
                  refine W_move rfl rfl rfl ?_
                  refine W_move rfl rfl rfl ?_
                  refine W_move rfl rfl rfl ?_
                  obtain ⟨r632, hc633, hm⟩ := bind_some hm
                  refine W_call Proofs.Try.call57 rfl rfl rfl (fun w ht => by have h := m_slices_partialInsertionSortCmpFunc_api_TelemetryMsg__telemetry_Points_List_1_c (hm := hc633) hr556 ht; exact h) ?_
                  rintro _ _ _ ⟨rfl, xs635, rfl, rfl, h636⟩
                  have h636 := h636 H510
                  refine W_end ?_
                  refine E_then ?_
                  refine cd hm rfl (fun hb637 hm => ?_) (fun hb637 hm => ?_)
                  · refine C_ret ?_
                    refine E_ret_then ?_
                    refine E_ret_block ?_
                    refine E_ret_then ?_
                    refine E_ret_block ?_
                    obtain rfl := Option.some.inj hm
                    refine E_weak hle511 ?_
                    exact end0 rfl ⟨rfl, xs635, rfl, rfl, (h636).toF⟩
                  · refine C_skip ?_
                    exact kj (J576 _ _ _ ⟨_, _, hm, h636, rfl, rfl, rfl⟩)
                · refine C_skip ?_
                  exact kj (J576 _ _ _ ⟨_, _, hm, hr556, rfl, rfl, rfl⟩)
              · refine C_region ?_
                refine W_move rfl rfl rfl ?_
                refine W_move rfl rfl rfl ?_
                cases hb638 : (c508)
                · refine W_no rfl rfl rfl ?_
                  refine W_pick rfl rfl rfl rfl ?_
                  refine W_move rfl rfl rfl ?_
                  refine W_no rfl rfl rfl ?_
                  refine W_no rfl rfl rfl ?_
                  refine W_pick rfl rfl rfl rfl ?_
                  refine W_end ?_
                  exact kj (J630 _ _ _ ⟨rfl, rfl, rfl⟩) ⟨(by exact sb (by first | rfl | simp only [hb521, hb527, hb638, bl2])), rfl, rfl, rfl, rfl, rfl, (by exact sb (by first | rfl | simp only [hb521, hb527, hb638, bl2])), rfl, rfl, rfl, trivial⟩
                · refine W_move rfl rfl rfl ?_
                  refine W_pick rfl rfl rfl rfl ?_
                  refine W_move rfl rfl rfl ?_
                  cases hb639 : (c509)
                  · refine W_no rfl rfl rfl ?_
                    refine W_no rfl rfl rfl ?_
                    refine W_pick rfl rfl rfl rfl ?_
                    refine W_end ?_
                    exact kj (J630 _ _ _ ⟨rfl, rfl, rfl⟩) ⟨(by exact sb (by first | rfl | simp only [hb521, hb527, hb638, hb639, bl2])), rfl, rfl, rfl, rfl, rfl, (by exact sb (by first | rfl | simp only [hb521, hb527, hb638, hb639, bl2])), (by exact sb (by first | rfl | simp only [hb521, hb527, hb638, hb639, bl2])), rfl, rfl, trivial⟩
                  · refine W_move rfl rfl rfl ?_
                    refine W_bin rfl rfl rfl rfl rfl ?_
                    refine W_pick rfl rfl rfl rfl ?_
                    refine W_end ?_
                    exact kj (J630 _ _ _ ⟨rfl, rfl, rfl⟩) ⟨(by exact sb (by first | rfl | simp only [hb521, hb527, hb638, hb639, bl2])), rfl, rfl, rfl, rfl, rfl, (by exact sb (by first | rfl | simp only [hb521, hb527, hb638, hb639, bl2])), (by exact sb (by first | rfl | simp only [hb521, hb527, hb638, hb639, bl2])), rfl, rfl, trivial⟩
          · refine C_seq ?_
            refine C_region ?_
            refine W_move rfl rfl rfl ?_
            refine W_bin rfl rfl rfl rfl rfl ?_
            refine W_end ?_
            refine E_then ?_
            refine cd hm rfl (fun hb640 hm => ?_) (fun hb640 hm => ?_)
            · refine C_seq ?_
              refine C_region ?_
              refine W_move rfl rfl rfl ?_
              refine W_move rfl rfl rfl ?_
              refine W_move rfl rfl rfl ?_
              refine W_move rfl rfl rfl ?_
              obtain ⟨r641, hc642, hm⟩ := bind_some hm
              refine W_call Proofs.Try.call56 rfl rfl rfl (fun w ht => by have h := m_slices_reverseRangeCmpFunc_api_TelemetryMsg__telemetry_Points_List_1_c (hm := hc642) hr542 ht; exact h) ?_
              rintro _ _ _ ⟨rfl, xs644, rfl, rfl, h645⟩
              have h645 := h645 H510
              refine W_end ?_
              refine E_then ?_
              refine C_seq ?_
              refine C_region ?_
              refine W_move rfl rfl rfl ?_
              refine W_bin rfl rfl rfl rfl rfl ?_
              refine W_move rfl rfl rfl ?_
              refine W_move rfl rfl rfl ?_
              refine W_bin rfl rfl rfl rfl rfl ?_
              refine W_bin rfl rfl rfl rfl rfl ?_
              refine W_assign rfl rfl rfl ?_
              refine W_end ?_
              refine E_then ?_
              refine C_region ?_
              refine W_assign rfl rfl rfl ?_
              refine W_end ?_
              exact kj (J559 _ _ _ ⟨_, _, _, _, hm, h645, rfl, rfl, rfl⟩)
            · refine C_skip ?_
              exact kj (J559 _ _ _ ⟨_, _, _, _, hm, hr542, rfl, rfl, rfl⟩)
        · refine C_seq ?_
          refine C_region ?_
          refine W_move rfl rfl rfl ?_
          refine W_un rfl rfl rfl rfl ?_
          refine W_end ?_
          refine E_then ?_
          refine cd hm rfl (fun hb646 hm => ?_) (fun hb646 hm => ?_)
          · refine C_seq ?_
            refine C_region ?_
            refine W_move rfl rfl rfl ?_
            refine W_move rfl rfl rfl ?_
            refine W_move rfl rfl rfl ?_
            refine W_move rfl rfl rfl ?_
            obtain ⟨r647, hc648, hm⟩ := bind_some hm
            refine W_call Proofs.Try.call54 rfl rfl rfl (fun w ht => by have h := m_slices_breakPatternsCmpFunc_api_TelemetryMsg__telemetry_Points_List_1_c (hm := hc648) hr504 ht; exact h) ?_
            rintro _ _ _ ⟨rfl, xs650, rfl, rfl, h651⟩
            have h651 := h651 H510
            refine W_end ?_
            refine E_then ?_
            refine C_region ?_
            refine W_move rfl rfl rfl ?_
            refine W_bin rfl rfl rfl rfl rfl ?_
            refine W_assign rfl rfl rfl ?_
            refine W_end ?_
            exact kj (J544 _ _ _ ⟨_, _, _, hm, h651, rfl, rfl, rfl⟩)
          · refine C_skip ?_
            exact kj (J544 _ _ _ ⟨_, _, _, hm, hr504, rfl, rfl, rfl⟩)
theorem m_slices_pdqsortCmpFunc_api_TelemetryMsg__telemetry_Points_List_1_fuel_c : ∀ (n : Nat) {B : Nat} {w0 : Bs Proofs.Try.prog} {w : World} {H : Hp} {M : List Res} {data : (List S_api_TelemetryMsg)} {p1_a : Int} {p2_b : Int} {limit : Int} {v0 : Value} {xs0 : List Value} {r : (List S_api_TelemetryMsg)} (hm : m_slices_pdqsortCmpFunc_api_TelemetryMsg__telemetry_Points_List_1_fuel n data p1_a p2_b limit = some r) (h0 : Rw H v0 xs0 data) (ht : St B w0 H (.row v0 29 (Rep.sz S_api_TelemetryMsg) data.length xs0 :: M) w),
    Calls Proofs.Try.prog 44 [v0, .int .i64 (p1_a), .int .i64 (p2_b), .int .i64 (limit), .func (.func 20) [].toArray [].toArray].toArray w (Ret B w0 fun H' M' v => H = H' ∧ ∃ qxs0 : List Value, .row v0 29 (Rep.sz S_api_TelemetryMsg) r.length qxs0 :: M = M' ∧ .tuple #[] = v ∧ RwF v0 qxs0 r)
  | 0 => fun hm => nomatch hm
  | n + 1 => by
    intros; exact m_slices_pdqsortCmpFunc_api_TelemetryMsg__telemetry_Points_List_1_step_c (self := m_slices_pdqsortCmpFunc_api_TelemetryMsg__telemetry_Points_List_1_fuel n) (m_slices_pdqsortCmpFunc_api_TelemetryMsg__telemetry_Points_List_1_fuel_c n) ‹_› ‹_› ‹_›
theorem m_slices_pdqsortCmpFunc_api_TelemetryMsg__telemetry_Points_List_1_c {B : Nat} {w0 : Bs Proofs.Try.prog} {w : World} {H : Hp} {M : List Res} {data : (List S_api_TelemetryMsg)} {p1_a : Int} {p2_b : Int} {limit : Int} {v0 : Value} {xs0 : List Value} {r : (List S_api_TelemetryMsg)} (hm : m_slices_pdqsortCmpFunc_api_TelemetryMsg__telemetry_Points_List_1 data p1_a p2_b limit = some r) (h0 : Rw H v0 xs0 data) (ht : St B w0 H (.row v0 29 (Rep.sz S_api_TelemetryMsg) data.length xs0 :: M) w) :
    Calls Proofs.Try.prog 44 [v0, .int .i64 (p1_a), .int .i64 (p2_b), .int .i64 (limit), .func (.func 20) [].toArray [].toArray].toArray w (Ret B w0 fun H' M' v => H = H' ∧ ∃ qxs0 : List Value, .row v0 29 (Rep.sz S_api_TelemetryMsg) r.length qxs0 :: M = M' ∧ .tuple #[] = v ∧ RwF v0 qxs0 r) := m_slices_pdqsortCmpFunc_api_TelemetryMsg__telemetry_Points_List_1_fuel_c FUEL (hm := hm) h0 ht

theorem m_slices_SortFunc_api_TelemetryMsg_api_TelemetryMsg__telemetry_Points_List_1_c {B : Nat} {w0 : Bs Proofs.Try.prog} {w : World} {H : Hp} {M : List Res} {p0_x : (List S_api_TelemetryMsg)} {v0 : Value} {xs0 : List Value} {r : (List S_api_TelemetryMsg)} (hm : m_slices_SortFunc_api_TelemetryMsg_api_TelemetryMsg__telemetry_Points_List_1 p0_x = some r) (h0 : Rw H v0 xs0 p0_x) (ht : St B w0 H (.row v0 29 (Rep.sz S_api_TelemetryMsg) p0_x.length xs0 :: M) w) :
    Calls Proofs.Try.prog 19 [v0, .func (.func 20) [].toArray [].toArray].toArray w (Ret B w0 fun H' M' v => H = H' ∧ ∃ qxs0 : List Value, .row v0 29 (Rep.sz S_api_TelemetryMsg) r.length qxs0 :: M = M' ∧ .tuple #[] = v ∧ RwF v0 qxs0 r) := by
  unfold m_slices_SortFunc_api_TelemetryMsg_api_TelemetryMsg__telemetry_Points_List_1 at hm
  refine enter Proofs.Try.func19 rfl rfl rfl ht ?_
  refine C_seq ?_
  refine C_region ?_
  refine W_move rfl rfl rfl ?_
  refine W_lenO (List.mem_cons_self ..) rfl rfl Proofs.Try.runUnderlying27 rfl ?_
  refine W_assign rfl rfl rfl ?_
  refine W_end ?_
  refine E_then ?_
  refine C_region ?_
  refine W_move rfl rfl rfl ?_
  refine W_move rfl rfl rfl ?_
  refine W_move rfl rfl rfl ?_
  refine W_convInt rfl rfl Proofs.Try.runUnderlying3 Proofs.Try.runUnderlying74 rfl ?_
  obtain ⟨r101, hc102, hm⟩ := bind_some hm
  refine W_call Proofs.Try.call45 rfl rfl rfl (fun w ht => by have h := m_math_bits_Len_c (hm := hc102)  ht; exact h) ?_
  rintro _ _ _ ⟨rfl, rfl, rfl⟩
  refine W_move rfl rfl rfl ?_
  obtain ⟨r103, hc104, hm⟩ := bind_some hm
  refine W_call Proofs.Try.call44 rfl rfl rfl (fun w ht => by have h := m_slices_pdqsortCmpFunc_api_TelemetryMsg__telemetry_Points_List_1_c (hm := hc104) h0 ht; exact h) ?_
  rintro _ _ _ ⟨rfl, xs106, rfl, rfl, h107⟩
  have h107 := h107 H
  refine W_end ?_
  refine E_off ?_
  obtain rfl := Option.some.inj hm
  refine E_weak (Hp.le_refl _) ?_
  exact end0 rfl ⟨rfl, xs106, rfl, rfl, (h107).toF⟩

theorem m_telemetry_Points_List_c {B : Nat} {w0 : Bs Proofs.Try.prog} {w : World} {H : Hp} {M : List Res} {p0_p : S_telemetry_Points} {b0 : Nat} {v0 : Value} {xs0 : List Value} {r : (List S_api_TelemetryMsg)} (hm : m_telemetry_Points_List p0_p = some r) (h0 : Rw H v0 xs0 p0_p.all_) (ht : St B w0 H (.obj b0 (.cells [.int .i64 (p0_p.age), v0].toArray 42 (0, 0)) :: .row v0 46 (Rep.sz S_telemetry_point) p0_p.all_.length xs0 :: M) w) :
    Calls Proofs.Try.prog 10 [.pointer (some ⟨b0, 0, none⟩)].toArray w (Ret B w0 fun H' M' v => H = H' ∧ ∃ qv0 : Value, ∃ qxs0 : List Value, .row qv0 29 (Rep.sz S_api_TelemetryMsg) r.length qxs0 :: .obj b0 (.cells [.int .i64 (p0_p.age), v0].toArray 42 (0, 0)) :: .row v0 46 (Rep.sz S_telemetry_point) p0_p.all_.length xs0 :: M = M' ∧ qv0 = v ∧ RwF qv0 qxs0 r) := by
  unfold m_telemetry_Points_List at hm
  refine enter Proofs.Try.func10 rfl rfl rfl ht ?_
  refine C_seq ?_
  refine C_region ?_
  refine W_assign rfl rfl rfl ?_
  refine W_end ?_
  refine E_then ?_
  refine C_seq ?_
  refine C_region ?_
  refine W_assign rfl rfl rfl ?_
  refine W_end ?_
  refine E_then ?_
  refine C_seq ?_
  refine C_seq ?_
  refine C_region ?_
  refine W_move rfl rfl rfl ?_
  refine W_nilCheck rfl rfl rfl ?_
  refine W_field (o := 1) rfl rfl Proofs.Try.runUnderlying42 rfl Proofs.Try.sizeOf40 rfl rfl rfl ?_
  refine W_load rfl rfl Proofs.Try.isAgg40 rfl (own_at (List.mem_cons_self ..) rfl) ?_
  refine W_lenO (List.mem_cons_of_mem _ (List.mem_cons_self ..)) rfl rfl Proofs.Try.runUnderlying40 rfl ?_
  refine W_move rfl rfl rfl ?_
  refine W_end ?_
  refine E_then ?_
  refine C_block ?_
  refine C_rowMax (List.mem_cons_of_mem _ (List.mem_cons_self ..)) (fun hmx150 => ?_)
  refine C_nilRow 29 (Rep.sz S_api_TelemetryMsg) ?_
  obtain ⟨J175, hm176, hm177, hm⟩ := forI_nm hm
  refine cl [(9, _), (10, _)] [1, 1] 1 [] 0 (fun u m n H' M' L' => ∃ (k101 : Nat) (zs152' : List S_telemetry_point), ∃ l142 : List S_api_TelemetryMsg, ∃ v140 : Value, ∃ xs141 : List Value, (p0_p.all_).drop k101 = zs152' ∧ zs152'.length = n ∧ J175 k101 zs152' l142 = some r ∧ Rw H' v140 xs141 l142 ∧ H.le H' ∧ .row v140 29 (Rep.sz S_api_TelemetryMsg) l142.length xs141 :: m = M' ∧ (3, v140) :: (11, .int .i64 ((k101 : Int))) :: u = L') _ rfl ⟨0, _, _, _, _, rfl, rfl, hm, Rw.nil, (Hp.le_refl _), rfl, rfl⟩ ?_
  rintro _ H144 _ _ ⟨k101, zs152', l142, v140, xs141, hd154, rfl, hm, hr143, hle145, rfl, rfl⟩
  refine C_seq ?_
  refine C_region ?_
  refine W_bin rfl rfl rfl rfl rfl ?_
  refine W_end (E_then ?_)
  refine C_seq ?_
  refine C_cond rfl (fun hb156 => ?_) (fun hb156 => ?_)
  · obtain ⟨y151, zs152, rfl, hy153, hd155⟩ := rng_t hd154 hb156
    have hm := (hm176 _ _ _ _).symm.trans hm
    generalize hn148 : J175 (k101 + 1) zs152 = nx147 at hm
    unfold m_telemetry_Points_List_b1 at hm
    refine C_skip (E_then ?_)
    refine C_seq ?_
    refine C_block ?_
    refine C_seq ?_
    refine C_region ?_
    refine W_indexO (List.mem_cons_of_mem _ (List.mem_cons_of_mem _ (List.mem_cons_self ..))) rfl rfl Proofs.Try.runUnderlying40 Proofs.Try.sizeOf46 rfl rfl (Int.natCast_nonneg _) (List.getElem?_eq_some_iff.1 hy153).1 ?_
    obtain ⟨_, rfl, hg157⟩ := (h0).elem hy153
    refine W_loadAgg (cs := [.string (y151.TelemetryMsg.Point), .int .i64 (y151.TelemetryMsg.Number), .int .i64 (y151.TelemetryMsg.Time), .int .i64 (y151.TelemetryMsg.Value), .int .i64 (y151.many)]) rfl rfl Proofs.Try.isAgg46 Proofs.Try.sizeOf46 rfl (row_cells (List.mem_cons_of_mem _ (List.mem_cons_of_mem _ (List.mem_cons_self ..))) hg157) rfl ?_
    refine W_alloc (cs := [.string (⟨#[]⟩), .int .i64 (0), .int .i64 (0), .int .i64 (0), .int .i64 (0)]) rfl rfl Proofs.Try.zeroValue46 rfl (fun b158 => ?_)
    refine W_store (cs := [.string (y151.TelemetryMsg.Point), .int .i64 (y151.TelemetryMsg.Number), .int .i64 (y151.TelemetryMsg.Time), .int .i64 (y151.TelemetryMsg.Value), .int .i64 (y151.many)]) (out := [.string (y151.TelemetryMsg.Point), .int .i64 (y151.TelemetryMsg.Number), .int .i64 (y151.TelemetryMsg.Time), .int .i64 (y151.TelemetryMsg.Value), .int .i64 (y151.many)]) rfl Proofs.Try.sizeOf46 rfl rfl rfl rfl rfl (all_cons rfl (all_cons rfl (all_cons rfl (all_cons rfl (all_cons rfl all_nil))))) (over_all rfl) ?_
    refine W_end ?_
    refine E_then ?_
    refine C_region ?_
    refine W_move rfl rfl rfl ?_
    refine W_field (o := 0) rfl rfl Proofs.Try.runUnderlying46 rfl Proofs.Try.sizeOf29 rfl rfl rfl ?_
    refine W_loadAgg (cs := [.string (y151.TelemetryMsg.Point), .int .i64 (y151.TelemetryMsg.Number), .int .i64 (y151.TelemetryMsg.Time), .int .i64 (y151.TelemetryMsg.Value)]) rfl rfl Proofs.Try.isAgg29 Proofs.Try.sizeOf29 rfl (own_part (List.mem_cons_self ..) rfl) rfl ?_
    refine W_buildSlice (α := S_api_TelemetryMsg) (css := [[.string (y151.TelemetryMsg.Point), .int .i64 (y151.TelemetryMsg.Number), .int .i64 (y151.TelemetryMsg.Time), .int .i64 (y151.TelemetryMsg.Value)]]) (zs := [.string (⟨#[]⟩), .int .i64 (0), .int .i64 (0), .int .i64 (0)]) (out := [.string (y151.TelemetryMsg.Point), .int .i64 (y151.TelemetryMsg.Number), .int .i64 (y151.TelemetryMsg.Time), .int .i64 (y151.TelemetryMsg.Value)]) (ys := [y151.TelemetryMsg]) rfl rfl rfl ⟨rfl, trivial⟩ Proofs.Try.runUnderlying27 Proofs.Try.sizeOf29 rfl Proofs.Try.zeroValue29 (by kernel_rfl) rfl rfl rfl rfl ⟨[.string (y151.TelemetryMsg.Point), .int .i64 (y151.TelemetryMsg.Number), .int .i64 (y151.TelemetryMsg.Time), .int .i64 (y151.TelemetryMsg.Value)], [], rfl, rfl, rfl⟩ rfl ?_
    intro b159 v160 H161 hv162 hle163 h164
    have hc165 : Value.cap' v160 = ([y151.TelemetryMsg]).length := by rw [hv162]; rfl
    obtain ⟨hz166, hm⟩ := need_some hm
    refine Wp [1] ?_
    refine W_appendO (α := S_api_TelemetryMsg) (l := l142) (ys := [y151.TelemetryMsg]) rfl rfl Proofs.Try.underlying27 ⟨_, rfl, rfl, rfl, rfl⟩ rfl rfl rfl rfl rfl (hr143.mono hle163) h164 hz166 ?_
    intro v167 xs168 hr169
    refine W_assign rfl rfl rfl ?_
    refine W_end ?_
    refine E_normal_block ?_
    refine E_then ?_
    refine C_region ?_
    refine W_bin rfl rfl rfl rfl rfl ?_
    refine W_move rfl rfl rfl ?_
    refine W_end ?_
    exact kx [0, 1, 1] 1 (E_back (Nat.lt_succ_self _) ⟨k101 + 1, zs152, _, _, _, hd155, rfl, ((congrFun hn148 _).trans hm), hr169, (Hp.le_trans hle145 hle163), rfl, rfl⟩) rfl ⟨rfl, (congrArg (fun z => some (Value.int .i64 z)) (i64_succ hy153 hmx150)), rfl, rfl, trivial⟩
  · obtain rfl := rng_f hd154 hb156
    have hm := (hm177 _ _).symm.trans hm
    refine C_exit (E_exit_then ?_)
    refine E_exit_then ?_
    refine E_exit_hit ?_
    refine E_then ?_
    refine C_seq ?_
    refine C_region ?_
    refine W_move rfl rfl rfl ?_
    obtain ⟨r170, hc171, hm⟩ := bind_some hm
    refine W_call Proofs.Try.call19 rfl rfl rfl (fun w ht => by have h := m_slices_SortFunc_api_TelemetryMsg_api_TelemetryMsg__telemetry_Points_List_1_c (hm := hc171) hr143 ht; exact h) ?_
    rintro _ _ _ ⟨rfl, xs173, rfl, rfl, h174⟩
    have h174 := h174 H144
    refine W_end ?_
    refine E_then ?_
    refine C_seq ?_
    refine C_region ?_
    refine W_move rfl rfl rfl ?_
    refine W_assign rfl rfl rfl ?_
    refine W_end ?_
    refine E_then ?_
    refine C_ret ?_
    obtain rfl := Option.some.inj hm
    refine E_weak hle145 ?_
    exact end1 rfl rfl ⟨rfl, v140, xs173, rfl, rfl, (h174).toF⟩

theorem m_second_taken_c {B : Nat} {w0 : Bs Proofs.Try.prog} {w : World} {H : Hp} {M : List Res} {p0_l : (List S_api_TelemetryMsg)} {v0 : Value} {r : (List S_api_TelemetryMsg)} (hm : m_second_taken p0_l = some r) (h0 : RdS H v0 p0_l) (ht : St B w0 H (M) w) :
    Calls Proofs.Try.prog 16 [v0].toArray w (Ret B w0 fun H' M' v => H = H' ∧ ∃ qv0 : Value, ∃ qxs0 : List Value, .row qv0 29 (Rep.sz S_api_TelemetryMsg) r.length qxs0 :: M = M' ∧ qv0 = v ∧ RwF qv0 qxs0 r) := by
  unfold m_second_taken at hm
  refine enter Proofs.Try.func16 rfl rfl rfl ht ?_
  refine C_seq ?_
  refine C_region ?_
  refine W_assign rfl rfl rfl ?_
  refine W_end ?_
  refine E_then ?_
  refine C_seq ?_
  refine C_region ?_
  refine W_call Proofs.Try.call4 rfl rfl rfl (fun w ht => by have h := m_telemetry_New_c (hm := (rfl : m_telemetry_New 0 = _))  ht; exact h) ?_
  rintro _ H112 _ (⟨hn106, hle108, rfl, rfl⟩ | ⟨sp101, hn109, hle111, b102, v103, xs104, rfl, rfl, h105⟩)
  · have hm := optC_n hn106 hm
    refine W_move rfl rfl rfl ?_
    refine W_extract rfl rfl rfl rfl ?_
    refine W_extract rfl rfl rfl rfl ?_
    refine W_assign rfl rfl rfl ?_
    refine W_assign rfl rfl rfl ?_
    refine W_end ?_
    refine E_then ?_
    refine C_seq ?_
    refine C_seq ?_
    refine C_region ?_
    refine W_move rfl rfl rfl ?_
    refine W_lenR rfl rfl Proofs.Try.runUnderlying27 rfl (h0.mono hle108) ?_
    refine W_move rfl rfl rfl ?_
    refine W_end ?_
    refine E_then ?_
    refine C_block ?_
    obtain ⟨J132, hm133, hm134, hm⟩ := forI_nm hm
    refine cl [(3, _), (11, _), (12, _)] [] 0 [] 0 (fun u m n H' M' L' => ∃ (k113 : Nat) (zs125' : List S_api_TelemetryMsg), (p0_l).drop k113 = zs125' ∧ zs125'.length = n ∧ J132 k113 zs125' () = some r ∧ H112.le H' ∧ m = M' ∧ (13, .int .i64 ((k113 : Int))) :: u = L') _ rfl ⟨0, _, rfl, rfl, hm, (Hp.le_refl _), rfl, rfl⟩ ?_
    rintro _ H118 _ _ ⟨k113, zs125', hd127, rfl, hm, hle119, rfl, rfl⟩
    refine C_seq ?_
    refine C_region ?_
    refine W_bin rfl rfl rfl rfl rfl ?_
    refine W_end (E_then ?_)
    refine C_seq ?_
    refine C_cond rfl (fun hb129 => ?_) (fun hb129 => ?_)
    · obtain ⟨y124, zs125, rfl, hy126, hd128⟩ := rng_t hd127 hb129
      have hm := (hm133 _ _ _ _).symm.trans hm
      generalize hn122 : J132 (k113 + 1) zs125 = nx121 at hm
      unfold m_second_taken_b1 at hm
      refine C_skip (E_then ?_)
      refine C_seq ?_
      refine C_block ?_
      refine C_seq ?_
      refine C_region ?_
      obtain ⟨_, ⟨rfl⟩, hc130⟩ := (h0).elem hy126
      refine W_indexS rfl rfl Proofs.Try.runUnderlying27 Proofs.Try.sizeOf29 rfl ((h0.mono hle108).mono hle119) rfl (Int.natCast_nonneg _) hy126 ?_
      refine W_loadAgg rfl rfl Proofs.Try.isAgg29 Proofs.Try.sizeOf29 rfl ((hc130.mono hle108).mono hle119).at rfl ?_
      refine W_alloc (cs := [.string (⟨#[]⟩), .int .i64 (0), .int .i64 (0), .int .i64 (0)]) rfl rfl Proofs.Try.zeroValue29 rfl (fun b131 => ?_)
      refine W_store (cs := [.string (y124.Point), .int .i64 (y124.Number), .int .i64 (y124.Time), .int .i64 (y124.Value)]) (out := [.string (y124.Point), .int .i64 (y124.Number), .int .i64 (y124.Time), .int .i64 (y124.Value)]) rfl Proofs.Try.sizeOf29 rfl rfl rfl rfl rfl (all_cons rfl (all_cons rfl (all_cons rfl (all_cons rfl all_nil)))) (over_all rfl) ?_
      refine W_end ?_
      refine E_then ?_
      refine C_region ?_
      refine W_move rfl rfl rfl ?_
      refine W_loadAgg rfl rfl Proofs.Try.isAgg29 Proofs.Try.sizeOf29 rfl (own_all (List.mem_cons_self ..)) rfl ?_
      cases hm
    · obtain rfl := rng_f hd127 hb129
      have hm := (hm134 _ _).symm.trans hm
      refine C_exit (E_exit_then ?_)
      refine E_exit_then ?_
      refine E_exit_hit ?_
      refine E_then ?_
      refine C_seq ?_
      refine C_region ?_
      refine W_move rfl rfl rfl ?_
      cases hm
  · have hm := optC_s hn109 hm
    refine W_move rfl rfl rfl ?_
    refine W_extract rfl rfl rfl rfl ?_
    refine W_extract rfl rfl rfl rfl ?_
    refine W_assign rfl rfl rfl ?_
    refine W_assign rfl rfl rfl ?_
    refine W_end ?_
    refine E_then ?_
    refine C_seq ?_
    refine C_seq ?_
    refine C_region ?_
    refine W_move rfl rfl rfl ?_
    refine W_lenR rfl rfl Proofs.Try.runUnderlying27 rfl (h0.mono hle111) ?_
    refine W_move rfl rfl rfl ?_
    refine W_end ?_
    refine E_then ?_
    refine C_block ?_
    obtain ⟨J192, hm193, hm194, hm⟩ := forI_nm hm
    refine cl [(3, _), (11, _), (12, _)] [] 2 [1] 0 (fun u m n H' M' L' => ∃ (k135 : Nat) (zs174' : List S_api_TelemetryMsg), ∃ n162 : Int, ∃ l165 : List S_telemetry_point, ∃ v163 : Value, ∃ xs164 : List Value, (p0_l).drop k135 = zs174' ∧ zs174'.length = n ∧ J192 k135 zs174' (n162, l165) = some r ∧ Rw H' v163 xs164 l165 ∧ H112.le H' ∧ .row v163 46 (Rep.sz S_telemetry_point) l165.length xs164 :: .obj b102 (.cells [.int .i64 (n162), v163].toArray 42 (0, 0)) :: m = M' ∧ (13, .int .i64 ((k135 : Int))) :: u = L') _ rfl ⟨0, _, _, _, _, _, rfl, rfl, hm, h105, (Hp.le_refl _), rfl, rfl⟩ ?_
    rintro _ H167 _ _ ⟨k135, zs174', n162, l165, v163, xs164, hd176, rfl, hm, hr166, hle168, rfl, rfl⟩
    refine C_seq ?_
    refine C_region ?_
    refine W_bin rfl rfl rfl rfl rfl ?_
    refine W_end (E_then ?_)
    refine C_seq ?_
    refine C_cond rfl (fun hb178 => ?_) (fun hb178 => ?_)
    · obtain ⟨y173, zs174, rfl, hy175, hd177⟩ := rng_t hd176 hb178
      have hm := (hm193 _ _ _ _).symm.trans hm
      generalize hn171 : J192 (k135 + 1) zs174 = nx170 at hm
      try dsimp only at hm
      unfold m_second_taken_b2 at hm
      refine C_skip (E_then ?_)
      refine C_seq ?_
      refine C_block ?_
      refine C_seq ?_
      refine C_region ?_
      obtain ⟨_, ⟨rfl⟩, hc179⟩ := (h0).elem hy175
      refine W_indexS rfl rfl Proofs.Try.runUnderlying27 Proofs.Try.sizeOf29 rfl ((h0.mono hle111).mono hle168) rfl (Int.natCast_nonneg _) hy175 ?_
      refine W_loadAgg rfl rfl Proofs.Try.isAgg29 Proofs.Try.sizeOf29 rfl ((hc179.mono hle111).mono hle168).at rfl ?_
      refine W_alloc (cs := [.string (⟨#[]⟩), .int .i64 (0), .int .i64 (0), .int .i64 (0)]) rfl rfl Proofs.Try.zeroValue29 rfl (fun b180 => ?_)
      refine W_store (cs := [.string (y173.Point), .int .i64 (y173.Number), .int .i64 (y173.Time), .int .i64 (y173.Value)]) (out := [.string (y173.Point), .int .i64 (y173.Number), .int .i64 (y173.Time), .int .i64 (y173.Value)]) rfl Proofs.Try.sizeOf29 rfl rfl rfl rfl rfl (all_cons rfl (all_cons rfl (all_cons rfl (all_cons rfl all_nil)))) (over_all rfl) ?_
      refine W_end ?_
      refine E_then ?_
      refine C_region ?_
      refine W_move rfl rfl rfl ?_
      refine W_loadAgg rfl rfl Proofs.Try.isAgg29 Proofs.Try.sizeOf29 rfl (own_all (List.mem_cons_self ..)) rfl ?_
      refine Wp [2, 1] ?_
      obtain ⟨r181, hc182, hm⟩ := bind_some hm
      refine W_call Proofs.Try.call6 rfl rfl rfl (fun w ht => by have h := m_telemetry_Points_Take_c (hm := hc182) hr166 ht; exact h) ?_
      rintro _ _ _ ⟨rfl, v184, xs185, rfl, rfl, h186⟩
      have h186 := h186 H167
      refine W_end ?_
      refine E_normal_block ?_
      refine E_then ?_
      refine C_region ?_
      refine W_bin rfl rfl rfl rfl rfl ?_
      refine W_move rfl rfl rfl ?_
      refine W_end ?_
      exact kx [1, 0] 1 (E_back (Nat.lt_succ_self _) ⟨k135 + 1, zs174, _, _, _, _, hd177, rfl, ((congrFun hn171 _).trans hm), h186, hle168, rfl, rfl⟩) rfl ⟨(congrArg (fun z => some (Value.int .i64 z)) (i64_succ hy175 (((h0.mono hle111).mono hle168)).lenMax)), rfl, rfl, rfl, trivial⟩
    · obtain rfl := rng_f hd176 hb178
      have hm := (hm194 _ _).symm.trans hm
      try dsimp only at hm
      refine C_exit (E_exit_then ?_)
      refine E_exit_then ?_
      refine E_exit_hit ?_
      refine E_then ?_
      refine C_seq ?_
      refine C_region ?_
      refine W_move rfl rfl rfl ?_
      refine Wp [1] ?_
      obtain ⟨r187, hc188, hm⟩ := bind_some hm
      refine W_call Proofs.Try.call10 rfl rfl rfl (fun w ht => by have h := m_telemetry_Points_List_c (hm := hc188) hr166 ht; exact h) ?_
      rintro _ _ _ ⟨rfl, v189, xs190, rfl, rfl, h191⟩
      have h191 := h191 H167
      refine W_assign rfl rfl rfl ?_
      refine W_end ?_
      refine E_then ?_
      refine C_ret ?_
      obtain rfl := Option.some.inj hm
      refine Ek [0] 2 ?_
      refine E_weak (Hp.le_trans hle111 hle168) ?_
      exact end1 rfl rfl ⟨rfl, v189, xs190, rfl, rfl, (h191).toF⟩

theorem grow43_c {B : Nat} {w0 : Bs Proofs.Try.prog} {w : World} {H : Hp} {M : List Res} {n : Int} (hz : 0 ≤ n ∧ n * 40 ≤ 281474976710656) (ht : St B w0 H M w) :
    Calls Proofs.Try.prog 43 [.slice none 0 0, .int .i64 n].toArray w (Ret B w0 fun H' M' v => H = H' ∧ ∃ (v' : Value) (xs' : List Value), .row v' 29 (Rep.sz S_api_TelemetryMsg) ([] : List S_api_TelemetryMsg).length xs' :: M = M' ∧ v' = v ∧ RwF v' xs' ([] : List S_api_TelemetryMsg) ∧ n ≤ Value.cap' v') := by
  refine enter Proofs.Try.func43 rfl rfl rfl ht ?_
  have hn : IntKind.i64.wrap (n - IntKind.i64.wrap (((0 : Nat) : Int) - ((0 : Nat) : Int))) = n := by
    rw [show IntKind.i64.wrap (((0 : Nat) : Int) - ((0 : Nat) : Int)) = 0 from rfl, Int.sub_zero, i64_of (by omega) (by omega)]
  refine C_seq ?_
  refine C_region ?_
  refine W_assign rfl rfl rfl ?_
  refine W_end (E_then ?_)
  refine C_seq ?_
  refine C_seq ?_
  refine C_region ?_
  refine W_move rfl rfl rfl ?_
  refine W_bin rfl rfl rfl rfl rfl ?_
  refine W_end (E_then ?_)
  refine C_cond (b := decide (n < 0)) rfl (fun hb => absurd (of_decide_eq_true hb) (by omega)) (fun _ => ?_)
  refine C_skip (E_then ?_)
  refine C_seq_join (fun H1 M1 L1 => ∃ (v' : Value) (xs' : List Value), H = H1 ∧ .row v' 29 (Rep.sz S_api_TelemetryMsg) ([] : List S_api_TelemetryMsg).length xs' :: M = M1 ∧ [(0, v')] = L1 ∧ Rw H v' xs' ([] : List S_api_TelemetryMsg) ∧ n ≤ Value.cap' v') ?_ (fun J => ?_)
  · rintro _ _ _ ⟨v', xs', rfl, rfl, rfl, h, hc⟩
    refine C_seq ?_
    refine C_region ?_
    refine W_move rfl rfl rfl ?_
    refine W_assign rfl rfl rfl ?_
    refine W_end (E_then ?_)
    refine C_ret ?_
    exact end1 rfl rfl ⟨rfl, v', xs', rfl, rfl, h.toF, hc⟩
  · refine C_seq ?_
    refine C_region ?_
    refine W_move rfl rfl rfl ?_
    refine W_move rfl rfl rfl ?_
    refine W_capS rfl rfl Proofs.Try.runUnderlying27 rfl ?_
    refine W_move rfl rfl rfl ?_
    refine W_lenS rfl rfl Proofs.Try.runUnderlying27 rfl ?_
    refine W_bin rfl rfl rfl rfl rfl ?_
    refine W_bin rfl rfl rfl rfl rfl ?_
    refine W_assign rfl rfl rfl ?_
    refine W_end (E_then ?_)
    rw [hn]
    refine C_seq ?_
    refine C_region ?_
    refine W_move rfl rfl rfl ?_
    refine W_bin rfl rfl rfl rfl rfl ?_
    refine W_end (E_then ?_)
    refine C_cond (b := decide (0 < n)) rfl (fun hb => ?_) (fun hb => ?_)
    · refine C_region ?_
      refine W_move rfl rfl rfl ?_
      refine W_move rfl rfl rfl ?_
      refine W_capS rfl rfl Proofs.Try.runUnderlying27 rfl ?_
      refine W_sliceNil rfl rfl Proofs.Try.runUnderlying27 Proofs.Try.sizeOf29 rfl rfl ?_
      refine W_move rfl rfl rfl ?_
      refine W_growNil (α := S_api_TelemetryMsg) (ze := (S_api_TelemetryMsg.mk (⟨#[]⟩) 0 0 0)) (bytes := 40) rfl rfl Proofs.Try.underlying27 Proofs.Try.underlying3 ⟨_, rfl, rfl, rfl, rfl⟩ rfl rfl rfl rfl rfl rfl (of_decide_eq_true hb) hz.2 ?_
      intro v1 xs1 l1 h1 hl1 hc1
      refine W_move rfl rfl rfl ?_
      refine W_lenS rfl rfl Proofs.Try.runUnderlying27 rfl ?_
      refine W_sliceOC (α := S_api_TelemetryMsg) (l := 0) (h := 0) rfl rfl Proofs.Try.runUnderlying27 Proofs.Try.sizeOf29 rfl rfl h1 (by omega) (by omega) (fun m hmm => (.inr ⟨_, _, _, rfl, rfl, by omega, by omega, rfl⟩)) (.inl ⟨rfl, rfl⟩) ?_
      intro v2 xs2 h2 hc2
      refine W_assign rfl rfl rfl ?_
      refine W_end ?_
      exact E_keepJ (J _ _ _ ⟨v2, xs2, rfl, rfl, rfl, h2, by rw [hc2, Nat.sub_zero]; exact hc1⟩) (List.Perm.refl _) ⟨rfl, trivial⟩
    · refine C_skip ?_
      refine E_nilRow 29 (Rep.sz S_api_TelemetryMsg) ?_
      exact E_keepJ (J _ _ _ ⟨.slice none 0 0, [], rfl, rfl, rfl, Rw.nil, by have := of_decide_eq_false hb; simp only [Value.cap']; omega⟩) (List.Perm.refl _) ⟨rfl, trivial⟩

theorem m_slices_Concat_api_TelemetryMsg_api_TelemetryMsg_c {B : Nat} {w0 : Bs Proofs.Try.prog} {w : World} {H : Hp} {M : List Res} {slices : (List (List S_api_TelemetryMsg))} {v0 : Value} {r : (List S_api_TelemetryMsg)} (hm : m_slices_Concat_api_TelemetryMsg_api_TelemetryMsg slices = some r) (h0 : RdS H v0 slices) (ht : St B w0 H (M) w) :
    Calls Proofs.Try.prog 18 [v0].toArray w (Ret B w0 fun H' M' v => H = H' ∧ ∃ qv0 : Value, ∃ qxs0 : List Value, .row qv0 29 (Rep.sz S_api_TelemetryMsg) r.length qxs0 :: M = M' ∧ qv0 = v ∧ RwF qv0 qxs0 r) := by
  unfold m_slices_Concat_api_TelemetryMsg_api_TelemetryMsg at hm
  refine enter Proofs.Try.func18 rfl rfl rfl ht ?_
  refine C_seq ?_
  refine C_region ?_
  refine W_assign rfl rfl rfl ?_
  refine W_end ?_
  refine E_then ?_
  refine C_seq ?_
  refine C_region ?_
  refine W_assign rfl rfl rfl ?_
  refine W_end ?_
  refine E_then ?_
  refine C_seq ?_
  refine C_seq ?_
  refine C_region ?_
  refine W_move rfl rfl rfl ?_
  refine W_lenR rfl rfl Proofs.Try.runUnderlying22 rfl h0 ?_
  refine W_move rfl rfl rfl ?_
  refine W_end ?_
  refine E_then ?_
  refine C_block ?_
  obtain ⟨J192, hm193, hm194, hm⟩ := forI_nm hm
  refine cl [(0, _), (9, _), (10, _)] [] 0 [] 0 (fun u m n H' M' L' => ∃ (k101 : Nat) (zs120' : List (List S_api_TelemetryMsg)), ∃ n112 : Int, (slices).drop k101 = zs120' ∧ zs120'.length = n ∧ J192 k101 zs120' n112 = some r ∧ H.le H' ∧ m = M' ∧ (3, .int .i64 (n112)) :: (11, .int .i64 ((k101 : Int))) :: u = L') _ rfl ⟨0, _, _, rfl, rfl, hm, (Hp.le_refl _), rfl, rfl⟩ ?_
  rintro _ H113 _ _ ⟨k101, zs120', n112, hd122, rfl, hm, hle114, rfl, rfl⟩
  refine C_seq ?_
  refine C_region ?_
  refine W_bin rfl rfl rfl rfl rfl ?_
  refine W_end (E_then ?_)
  refine C_seq ?_
  refine C_cond rfl (fun hb124 => ?_) (fun hb124 => ?_)
  · obtain ⟨y119, zs120, rfl, hy121, hd123⟩ := rng_t hd122 hb124
    have hm := (hm193 _ _ _ _).symm.trans hm
    generalize hn117 : J192 (k101 + 1) zs120 = nx116 at hm
    unfold m_slices_Concat_api_TelemetryMsg_api_TelemetryMsg_b1 at hm
    refine C_skip (E_then ?_)
    refine C_seq ?_
    refine C_block ?_
    refine C_seq ?_
    refine C_region ?_
    obtain ⟨_, ⟨v126, rfl, h127⟩, hc125⟩ := (h0).elem hy121
    refine W_indexS rfl rfl Proofs.Try.runUnderlying22 Proofs.Try.sizeOf27 rfl (h0.mono hle114) rfl (Int.natCast_nonneg _) hy121 ?_
    refine W_load rfl rfl Proofs.Try.isAgg27 rfl (HCells.one (hc125.mono hle114) 0 rfl).at ?_
    refine W_assign rfl rfl rfl ?_
    refine W_end ?_
    refine E_then ?_
    refine C_seq ?_
    refine C_region ?_
    refine W_move rfl rfl rfl ?_
    refine W_move rfl rfl rfl ?_
    refine W_lenR rfl rfl Proofs.Try.runUnderlying27 rfl (h127.mono hle114) ?_
    refine W_bin rfl rfl rfl rfl rfl ?_
    refine W_assign rfl rfl rfl ?_
    refine W_end ?_
    refine E_then ?_
    refine C_seq ?_
    refine C_region ?_
    refine W_move rfl rfl rfl ?_
    refine W_bin rfl rfl rfl rfl rfl ?_
    refine W_end ?_
    refine E_then ?_
    refine cd hm rfl (fun hb128 hm => ?_) (fun hb128 hm => ?_)
    · cases hm
    · refine C_skip ?_
      refine E_normal_block ?_
      refine E_then ?_
      refine C_region ?_
      refine W_bin rfl rfl rfl rfl rfl ?_
      refine W_move rfl rfl rfl ?_
      refine W_end ?_
      exact kj (E_back (Nat.lt_succ_self _) ⟨k101 + 1, zs120, _, hd123, rfl, ((congrFun hn117 _).trans hm), hle114, rfl, rfl⟩) ⟨rfl, (congrArg (fun z => some (Value.int .i64 z)) (i64_succ hy121 ((h0.mono hle114)).lenMax)), rfl, rfl, rfl, trivial⟩
  · obtain rfl := rng_f hd122 hb124
    have hm := (hm194 _ _).symm.trans hm
    refine C_exit (E_exit_then ?_)
    refine E_exit_then ?_
    refine E_exit_hit ?_
    refine E_then ?_
    refine C_seq ?_
    refine C_region ?_
    refine W_move rfl rfl rfl ?_
    obtain ⟨hz129, hm⟩ := need_some hm
    refine W_call Proofs.Try.call43 rfl rfl rfl (fun w ht => by have h := grow43_c hz129 ht; exact h) ?_
    rintro _ _ _ ⟨rfl, v131, xs132, rfl, rfl, hr133, hcap130⟩
    have hr133 := hr133 H113
    refine W_assign rfl rfl rfl ?_
    refine W_end ?_
    refine E_then ?_
    refine C_seq ?_
    refine C_seq ?_
    refine C_region ?_
    refine W_move rfl rfl rfl ?_
    refine W_lenR rfl rfl Proofs.Try.runUnderlying22 rfl (h0.mono hle114) ?_
    refine W_move rfl rfl rfl ?_
    refine W_end ?_
    refine E_then ?_
    refine C_block ?_
    obtain ⟨J189, hm190, hm191, hm⟩ := forI_nm hm
    refine cl [(25, _), (26, _)] [] 1 [] 0 (fun u m n H' M' L' => ∃ (k134 : Nat) (zs175' : List (List S_api_TelemetryMsg)), ∃ l165 : List S_api_TelemetryMsg, ∃ v163 : Value, ∃ xs164 : List Value, (slices).drop k134 = zs175' ∧ zs175'.length = n ∧ J189 k134 zs175' l165 = some r ∧ Rw H' v163 xs164 l165 ∧ n112 ≤ (Value.cap' v163 : Int) ∧ H113.le H' ∧ .row v163 29 (Rep.sz S_api_TelemetryMsg) l165.length xs164 :: m = M' ∧ (6, v163) :: (27, .int .i64 ((k134 : Int))) :: u = L') _ rfl ⟨0, _, _, _, _, rfl, rfl, hm, hr133, hcap130, (Hp.le_refl _), rfl, rfl⟩ ?_
    rintro _ H168 _ _ ⟨k134, zs175', l165, v163, xs164, hd177, rfl, hm, hr166, hcap167, hle169, rfl, rfl⟩
    refine C_seq ?_
    refine C_region ?_
    refine W_bin rfl rfl rfl rfl rfl ?_
    refine W_end (E_then ?_)
    refine C_seq ?_
    refine C_cond rfl (fun hb179 => ?_) (fun hb179 => ?_)
    · obtain ⟨y174, zs175, rfl, hy176, hd178⟩ := rng_t hd177 hb179
      have hm := (hm190 _ _ _ _).symm.trans hm
      generalize hn172 : J189 (k134 + 1) zs175 = nx171 at hm
      unfold m_slices_Concat_api_TelemetryMsg_api_TelemetryMsg_b2 at hm
      refine C_skip (E_then ?_)
      refine C_seq ?_
      refine C_block ?_
      refine C_seq ?_
      refine C_region ?_
      obtain ⟨_, ⟨v181, rfl, h182⟩, hc180⟩ := (h0).elem hy176
      refine W_indexS rfl rfl Proofs.Try.runUnderlying22 Proofs.Try.sizeOf27 rfl ((h0.mono hle114).mono hle169) rfl (Int.natCast_nonneg _) hy176 ?_
      refine W_load rfl rfl Proofs.Try.isAgg27 rfl (HCells.one ((hc180.mono hle114).mono hle169) 0 rfl).at ?_
      refine W_assign rfl rfl rfl ?_
      refine W_end ?_
      refine E_then ?_
      refine C_region ?_
      refine W_move rfl rfl rfl ?_
      refine W_move rfl rfl rfl ?_
      obtain ⟨hz183, hm⟩ := need_some hm
      refine W_appendC (α := S_api_TelemetryMsg) (l := l165) (ys := y174) rfl rfl Proofs.Try.underlying27 ⟨_, rfl, rfl, rfl, rfl⟩ rfl rfl rfl rfl hr166 ((h182.mono hle114).mono hle169) (by have h1_ := hz183; have h2_ := hcap167; omega) ?_
      intro v186 xs187 hr188 hc184
      have hcap185 : n112 ≤ (Value.cap' v186 : Int) := by rw [hc184]; exact hcap167
      refine W_assign rfl rfl rfl ?_
      refine W_end ?_
      refine E_normal_block ?_
      refine E_then ?_
      refine C_region ?_
      refine W_bin rfl rfl rfl rfl rfl ?_
      refine W_move rfl rfl rfl ?_
      refine W_end ?_
      exact kj (E_back (Nat.lt_succ_self _) ⟨k134 + 1, zs175, _, _, _, hd178, rfl, ((congrFun hn172 _).trans hm), hr188, hcap185, hle169, rfl, rfl⟩) ⟨rfl, (congrArg (fun z => some (Value.int .i64 z)) (i64_succ hy176 (((h0.mono hle114).mono hle169)).lenMax)), rfl, rfl, trivial⟩
    · obtain rfl := rng_f hd177 hb179
      have hm := (hm191 _ _).symm.trans hm
      refine C_exit (E_exit_then ?_)
      refine E_exit_then ?_
      refine E_exit_hit ?_
      refine E_then ?_
      refine C_seq ?_
      refine C_region ?_
      refine W_move rfl rfl rfl ?_
      refine W_assign rfl rfl rfl ?_
      refine W_end ?_
      refine E_then ?_
      refine C_ret ?_
      obtain rfl := Option.some.inj hm
      refine E_weak (Hp.le_trans hle114 hle169) ?_
      exact end1 rfl rfl ⟨rfl, v163, xs164, rfl, rfl, (hr166).toF⟩

theorem m_slices_Equal_api_TelemetryMsg_api_TelemetryMsg_c {B : Nat} {w0 : Bs Proofs.Try.prog} {w : World} {H : Hp} {M : List Res} {p0_s1 : (List S_api_TelemetryMsg)} {p1_s2 : (List S_api_TelemetryMsg)} {v0 : Value} {v1 : Value} {r : Bool} (hm : m_slices_Equal_api_TelemetryMsg_api_TelemetryMsg p0_s1 p1_s2 = some r) (h0 : RdS H v0 p0_s1) (h1 : RdS H v1 p1_s2) (ht : St B w0 H (M) w) :
    Calls Proofs.Try.prog 9 [v0, v1].toArray w (Ret B w0 fun H' M' v => H = H' ∧ M = M' ∧ .bool (r) = v) := by
  unfold m_slices_Equal_api_TelemetryMsg_api_TelemetryMsg at hm
  refine enter Proofs.Try.func9 rfl rfl rfl ht ?_
  refine C_seq ?_
  refine C_region ?_
  refine W_assign rfl rfl rfl ?_
  refine W_end ?_
  refine E_then ?_
  refine C_seq ?_
  refine C_seq ?_
  refine C_region ?_
  refine W_move rfl rfl rfl ?_
  refine W_lenR rfl rfl Proofs.Try.runUnderlying27 rfl h0 ?_
  refine W_move rfl rfl rfl ?_
  refine W_lenR rfl rfl Proofs.Try.runUnderlying27 rfl h1 ?_
  refine W_bin rfl rfl rfl rfl rfl ?_
  refine W_end ?_
  refine E_then ?_
  refine cd hm rfl (fun hb101 hm => ?_) (fun hb101 hm => ?_)
  · refine C_seq ?_
    refine C_region ?_
    refine W_assign rfl rfl rfl ?_
    refine W_end ?_
    refine E_then ?_
    refine C_ret ?_
    refine E_ret_then ?_
    obtain rfl := Option.some.inj hm
    refine E_weak (Hp.le_refl _) ?_
    exact end1 rfl rfl ⟨rfl, rfl, rfl⟩
  · refine C_skip ?_
    refine E_then ?_
    refine C_seq ?_
    refine C_seq ?_
    refine C_region ?_
    refine W_move rfl rfl rfl ?_
    refine W_lenR rfl rfl Proofs.Try.runUnderlying27 rfl h0 ?_
    refine W_move rfl rfl rfl ?_
    refine W_end ?_
    refine E_then ?_
    refine C_block ?_
    obtain ⟨J152, hm153, hm154, hm⟩ := forN_nm hm
    refine cl [(0, _), (1, _), (12, _)] [] 0 [] 0 (fun u m n H' M' L' => ∃ (k102 : Nat) (zs136' : Nat), k102 + zs136' = ((p0_s1.length : Int) : Int).toNat ∧ zs136' = n ∧ J152 zs136' k102 () = some r ∧ H.le H' ∧ m = M' ∧ (13, .int .i64 ((k102 : Int))) :: u = L') _ rfl ⟨0, _, Nat.zero_add _, rfl, hm, (Hp.le_refl _), rfl, rfl⟩ ?_
    rintro _ H129 _ _ ⟨k102, zs136', hd138, rfl, hm, hle130, rfl, rfl⟩
    refine C_seq ?_
    refine C_region ?_
    refine W_bin rfl rfl rfl rfl rfl ?_
    refine W_end (E_then ?_)
    refine C_seq ?_
    refine C_cond rfl (fun hb140 => ?_) (fun hb140 => ?_)
    · obtain ⟨zs136, rfl, hd139, hy137⟩ := rngN_t hd138 hb140
      have hm := (hm153 _ _ _).symm.trans hm
      generalize hn133 : J152 zs136 (k102 + 1) = nx132 at hm
      unfold m_slices_Equal_api_TelemetryMsg_api_TelemetryMsg_b1 at hm
      refine C_skip (E_then ?_)
      refine C_seq ?_
      refine C_block ?_
      refine C_seq ?_
      refine C_region ?_
      refine W_move rfl rfl rfl ?_
      refine W_assign rfl rfl rfl ?_
      refine W_end ?_
      refine E_then ?_
      refine C_seq ?_
      obtain ⟨y141, h142, he143, hm⟩ := idx_some hm
      obtain ⟨_, ⟨rfl⟩, hc144⟩ := (h0).elem he143
      obtain ⟨y145, h146, he147, hm⟩ := idx_some hm
      obtain ⟨_, ⟨rfl⟩, hc148⟩ := (h1).elem he147
      refine rgp fm 8 [ph _, ph _, ph (.pointer (some ((Value.base (v0)).add (((k102 : Int) : Int).toNat * 4)))), ph (.agg [.string (y141.Point), .int .i64 (y141.Number), .int .i64 (y141.Time), .int .i64 (y141.Value)].toArray), ph _, ph _, ph (.pointer (some ((Value.base (v1)).add (((k102 : Int) : Int).toNat * 4)))), ph (.agg [.string (y145.Point), .int .i64 (y145.Number), .int .i64 (y145.Time), .int .i64 (y145.Value)].toArray)] ⟨om, om, ?_, ?_, om, om, ?_, ?_, trivial⟩ ?_
      · intro HX hX X Rest hR
        rintro _ _ ⟨rfl, rfl⟩
        rintro _ _ ⟨rfl, rfl⟩
        intro hU hUp
        refine W_indexS rfl rfl Proofs.Try.runUnderlying27 Proofs.Try.sizeOf29 rfl ((h0.mono hle130).mono hX) rfl h142 he143 ?_
        exact o0 ⟨rfl, rfl⟩
      · intro HX hX X Rest hR
        rintro _ _ ⟨rfl, rfl⟩
        intro hU hUp
        refine W_loadAgg rfl rfl Proofs.Try.isAgg29 Proofs.Try.sizeOf29 rfl ((hc144.mono hle130).mono hX).at rfl ?_
        exact o0 ⟨rfl, rfl⟩
      · intro HX hX X Rest hR
        rintro _ _ ⟨rfl, rfl⟩
        rintro _ _ ⟨rfl, rfl⟩
        intro hU hUp
        refine W_indexS rfl rfl Proofs.Try.runUnderlying27 Proofs.Try.sizeOf29 rfl ((h1.mono hle130).mono hX) rfl h146 he147 ?_
        exact o0 ⟨rfl, rfl⟩
      · intro HX hX X Rest hR
        rintro _ _ ⟨rfl, rfl⟩
        intro hU hUp
        refine W_loadAgg rfl rfl Proofs.Try.isAgg29 Proofs.Try.sizeOf29 rfl ((hc148.mono hle130).mono hX).at rfl ?_
        exact o0 ⟨rfl, rfl⟩
      intro H149 hle150
      rintro _ _ ⟨rfl, rfl⟩
      rintro _ _ ⟨rfl, rfl⟩
      rintro _ _ ⟨rfl, rfl⟩
      rintro _ _ ⟨rfl, rfl⟩
      rintro _ _ ⟨rfl, rfl⟩
      rintro _ _ ⟨rfl, rfl⟩
      rintro _ _ ⟨rfl, rfl⟩
      rintro _ _ ⟨rfl, rfl⟩
      refine isW ?_
      refine W_neAgg (b := decide (y141.Point = y145.Point) && (decide (y141.Number = y145.Number) && (decide (y141.Time = y145.Time) && (decide (y141.Value = y145.Value) && true)))) rfl rfl (by kernel_rfl) rfl rfl (fun w => run_equal_struct (bs := [decide (y141.Point = y145.Point), decide (y141.Number = y145.Number), decide (y141.Time = y145.Time), decide (y141.Value = y145.Value)]) Proofs.Try.runUnderlying29 (by kernel_rfl) ⟨(by decide), (fldEq_str Proofs.Try.isAgg9 Proofs.Try.runUnderlying9 rfl rfl), (by decide), (fldEq_int Proofs.Try.isAgg3 Proofs.Try.runUnderlying3 rfl rfl), (by decide), (fldEq_int Proofs.Try.isAgg3 Proofs.Try.runUnderlying3 rfl rfl), (by decide), (fldEq_int Proofs.Try.isAgg3 Proofs.Try.runUnderlying3 rfl rfl), trivial⟩) ?_
      refine W_end ?_
      refine E_then ?_
      refine cd hm rfl (fun hb151 hm => ?_) (fun hb151 hm => ?_)
      · refine C_seq ?_
        refine C_region ?_
        refine W_assign rfl rfl rfl ?_
        refine W_end ?_
        refine E_then ?_
        refine C_ret ?_
        refine E_ret_block ?_
        refine E_ret_then ?_
        refine E_ret_then ?_
        refine E_ret_block ?_
        refine E_ret_then ?_
        obtain rfl := Option.some.inj hm
        refine E_weak (Hp.le_trans hle130 hle150) ?_
        exact end1 rfl rfl ⟨rfl, rfl, rfl⟩
      · refine C_skip ?_
        refine E_normal_block ?_
        refine E_then ?_
        refine C_region ?_
        refine W_bin rfl rfl rfl rfl rfl ?_
        refine W_move rfl rfl rfl ?_
        refine W_end ?_
        exact kj (E_back (Nat.lt_succ_self _) ⟨k102 + 1, zs136, hd139, rfl, ((congrFun hn133 _).trans hm), (Hp.le_trans hle130 hle150), rfl, rfl⟩) ⟨(congrArg (fun z => some (Value.int .i64 z)) (i64_succN hy137 (toNat_max (len_max (h0).lenMax)))), rfl, rfl, rfl, trivial⟩
    · obtain rfl := rngN_f hd138 hb140
      have hm := (hm154 _ _).symm.trans hm
      refine C_exit (E_exit_then ?_)
      refine E_exit_then ?_
      refine E_exit_hit ?_
      refine E_then ?_
      refine C_seq ?_
      refine C_region ?_
      refine W_assign rfl rfl rfl ?_
      refine W_end ?_
      refine E_then ?_
      refine C_ret ?_
      obtain rfl := Option.some.inj hm
      refine E_weak hle130 ?_
      exact end1 rfl rfl ⟨rfl, rfl, rfl⟩

theorem m_gridhallref4_Cut_c {B : Nat} {w0 : Bs Proofs.Try.prog} {w : World} {H : Hp} {M : List Res} {p0_n : Int} {p1_low : Int} {p2_high : Int} {r : Int} (hm : m_gridhallref4_Cut p0_n p1_low p2_high = some r) (ht : St B w0 H (M) w) :
    Calls Proofs.Try.prog 5 [.int .i64 (p0_n), .int .i64 (p1_low), .int .i64 (p2_high)].toArray w (Ret B w0 fun H' M' v => H = H' ∧ M = M' ∧ .int .i64 (r) = v) := by
  unfold m_gridhallref4_Cut at hm
  refine enter Proofs.Try.func5 rfl rfl rfl ht ?_
  refine C_seq ?_
  refine C_region ?_
  refine W_assign rfl rfl rfl ?_
  refine W_end ?_
  refine E_then ?_
  refine C_seq ?_
  refine C_region ?_
  refine W_move rfl rfl rfl ?_
  refine W_move rfl rfl rfl ?_
  refine W_bin rfl rfl rfl rfl rfl ?_
  refine W_bin rfl rfl rfl rfl rfl ?_
  refine W_assign rfl rfl rfl ?_
  refine W_end ?_
  refine E_then ?_
  refine C_seq ?_
  refine C_region ?_
  refine W_move rfl rfl rfl ?_
  refine W_move rfl rfl rfl ?_
  obtain ⟨hq101, hm⟩ := need_some hm
  refine W_rem rfl rfl rfl rfl hq101 ?_
  refine W_assign rfl rfl rfl ?_
  refine W_end ?_
  refine E_then ?_
  refine cj [(1, _)] [] 0 (fun u m H' M' L' => ∃ n103 : Int, m_gridhallref4_Cut_b1 p1_low n103 = some r ∧ H = H' ∧ m = M' ∧ (0, .int .i64 (n103)) :: u = L') ?_ (fun J104 => ?_)
  · rintro _ _ _ ⟨n103, hm, rfl, rfl, rfl⟩
    unfold m_gridhallref4_Cut_b1 at hm
    refine C_seq ?_
    refine C_region ?_
    refine W_move rfl rfl rfl ?_
    refine W_move rfl rfl rfl ?_
    refine W_bin rfl rfl rfl rfl rfl ?_
    refine W_assign rfl rfl rfl ?_
    refine W_end ?_
    refine E_then ?_
    refine C_ret ?_
    obtain rfl := Option.some.inj hm
    refine E_weak (Hp.le_refl _) ?_
    exact end1 rfl rfl ⟨rfl, rfl, rfl⟩
  · refine C_seq ?_
    refine C_region ?_
    refine W_move rfl rfl rfl ?_
    refine W_bin rfl rfl rfl rfl rfl ?_
    refine W_end ?_
    refine E_then ?_
    refine cd hm rfl (fun hb105 hm => ?_) (fun hb105 hm => ?_)
    · refine C_region ?_
      refine W_move rfl rfl rfl ?_
      refine W_move rfl rfl rfl ?_
      refine W_bin rfl rfl rfl rfl rfl ?_
      refine W_assign rfl rfl rfl ?_
      refine W_end ?_
      exact kj (J104 _ _ _ ⟨_, hm, rfl, rfl, rfl⟩)
    · refine C_skip ?_
      exact kj (J104 _ _ _ ⟨_, hm, rfl, rfl, rfl⟩)
end Go.Sim
