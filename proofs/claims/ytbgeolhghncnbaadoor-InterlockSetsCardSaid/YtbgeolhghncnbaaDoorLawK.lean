/-
  Printed by a program: from the models to the given statements.
-/
import Derived.Test.YtbgeolhghncnbaaDoorConK
import Derived.Test.YtbgeolhghncnbaaDoorSimL
import Derived.OpenShut
import Derived.HandedShaped
import Derived.Handed
import Derived.Lay
import Derived.LaidByTextLater
namespace Go.Sim
open Go Go.RowKit Go.ChangeShapes Go.WideShapes Go.ChangeAt
set_option linter.unusedVariables false
theorem law_own : ownKnob Proofs.Tryd.prog.godebug = none := by kernel_rfl
theorem law_laid : laidOutB Proofs.Tryd.prog = true := by kernel_rfl
instance : Ok S_api_InterlockNode := ⟨fun x => ok x.Kind ∧ ok x.Name ∧ ok x.A ∧ ok x.B_⟩
instance : Ok S_api_InterlockRule := ⟨fun x => ok x.Close ∧ ok x.Switch ∧ ok x.Cond⟩
instance : Ok S_api_InterlockState := ⟨fun x => ok x.Name ∧ ok x.Closed⟩
theorem tread71 : Tread Proofs.Tryd.prog 71 S_api_InterlockNode := by
  intro Hd enc w fuel cs d h
  obtain ⟨xs, n, rfl, rfl, hl, hlen, hf⟩ := DataW.trod_struct Proofs.Tryd.underlying71 h
  obtain ⟨x0, e0, o0⟩ := field_tread (α := Int) hlen hf 0 (o := 0) rfl rfl (by kernel_rfl) (tread_int Proofs.Tryd.underlying3)
  obtain ⟨x1, e1, o1⟩ := field_tread (α := ByteArray) hlen hf 1 (o := 1) rfl rfl (by kernel_rfl) (tread_string Proofs.Tryd.underlying9)
  obtain ⟨x2, e2, o2⟩ := field_tread (α := Int) hlen hf 2 (o := 2) rfl rfl (by kernel_rfl) (tread_int Proofs.Tryd.underlying3)
  obtain ⟨x3, e3, o3⟩ := field_tread (α := Int) hlen hf 3 (o := 3) rfl rfl (by kernel_rfl) (tread_int Proofs.Tryd.underlying3)
  exact ⟨⟨x0, x1, x2, x3⟩, piece (o := 0) e0 (by rfl) (piece (o := 1) e1 (by rfl) (piece (o := 2) e2 (by rfl) (piece (o := 3) e3 (by rfl) (piece_end hl (by kernel_rfl))))), ⟨o0, o1, o2, o3⟩⟩
theorem tread36 : Tread Proofs.Tryd.prog 36 (List S_api_InterlockNode) := tread_slice Proofs.Tryd.underlying36 (by kernel_rfl) rfl tread71
theorem tread38 : Tread Proofs.Tryd.prog 38 S_api_InterlockRule := by
  intro Hd enc w fuel cs d h
  obtain ⟨xs, n, rfl, rfl, hl, hlen, hf⟩ := DataW.trod_struct Proofs.Tryd.underlying38 h
  obtain ⟨x0, e0, o0⟩ := field_tread (α := Bool) hlen hf 0 (o := 0) rfl rfl (by kernel_rfl) (tread_bool Proofs.Tryd.underlying4)
  obtain ⟨x1, e1, o1⟩ := field_tread (α := ByteArray) hlen hf 1 (o := 1) rfl rfl (by kernel_rfl) (tread_string Proofs.Tryd.underlying9)
  obtain ⟨x2, ⟨v2_0, e2, h2_0⟩, o2⟩ := field_tread (α := (List S_api_InterlockNode)) hlen hf 2 (o := 2) rfl rfl (by kernel_rfl) tread36
  exact ⟨⟨x0, x1, x2⟩, ⟨v2_0, piece (o := 0) e0 (by rfl) (piece (o := 1) e1 (by rfl) (piece (o := 2) e2 (by rfl) (piece_end hl (by kernel_rfl)))), h2_0⟩, ⟨o0, o1, o2⟩⟩
theorem tread49 : Tread Proofs.Tryd.prog 49 S_api_InterlockState := by
  intro Hd enc w fuel cs d h
  obtain ⟨xs, n, rfl, rfl, hl, hlen, hf⟩ := DataW.trod_struct Proofs.Tryd.underlying49 h
  obtain ⟨x0, e0, o0⟩ := field_tread (α := ByteArray) hlen hf 0 (o := 0) rfl rfl (by kernel_rfl) (tread_string Proofs.Tryd.underlying9)
  obtain ⟨x1, e1, o1⟩ := field_tread (α := Bool) hlen hf 1 (o := 1) rfl rfl (by kernel_rfl) (tread_bool Proofs.Tryd.underlying4)
  exact ⟨⟨x0, x1⟩, piece (o := 0) e0 (by rfl) (piece (o := 1) e1 (by rfl) (piece_end hl (by kernel_rfl))), ⟨o0, o1⟩⟩
theorem tread39 : Tread Proofs.Tryd.prog 39 (List S_api_InterlockState) := tread_slice Proofs.Tryd.underlying39 (by kernel_rfl) rfl tread49
set_option maxRecDepth 100000 in
theorem InterlockNot_lifted (hp : ∀ (x0 : S_api_InterlockRule) (x1 : (List S_api_InterlockState)), ok x0 → ok x1 → x1.length * 24 ≤ 140737488351232 → x0.Cond.length * 40 ≤ 140737488351232 → m_gridhallkeep4_InterlockNot x0 x1 = some true) (os : Os) (started : os.Started) (Hd : Type) (enc : TypeId × Value → Hd) :
    ReturnsInHanded {} Proofs.Tryd.checked os 4 .any (fun w args => (Proofs.YtbgeolhghncnbaaDoor.Rows.interlockNotSpec.pre enc Proofs.Tryd.prog Proofs.Tryd.f4 Proofs.YtbgeolhghncnbaaDoor.Rows.interlockNotRow.domain false w args ∧ laidMetH Proofs.Tryd.prog Proofs.YtbgeolhghncnbaaDoor.Rows.interlockNotRow.laid w) ∧ sizedMet enc Proofs.Tryd.prog Proofs.Tryd.f4 (OpenSpec.ofChange Proofs.YtbgeolhghncnbaaDoor.Rows.interlockNotSpec) false w args) (Proofs.YtbgeolhghncnbaaDoor.Rows.interlockNotSpec.post enc Proofs.Tryd.prog Proofs.Tryd.f4 false true false false) := by
  refine returnsInHanded_of_change_and (C := Proofs.Tryd.checked) (X := fun w _ => laidMetH Proofs.Tryd.prog Proofs.YtbgeolhghncnbaaDoor.Rows.interlockNotRow.laid w) (fun _ _ _ hh h => h.of_heap hh) law_own started (by kernel_rfl) Proofs.Tryd.func4
    (ChangeSpec.witness_shaped (enc := enc) (C := Proofs.Tryd.checked) (os := os) (X := fun w _ => laidMetH Proofs.Tryd.prog Proofs.YtbgeolhghncnbaaDoor.Rows.interlockNotRow.laid w) false (World.laidAll Proofs.Tryd.prog os Proofs.YtbgeolhghncnbaaDoor.Rows.interlockNotRow.laid) #[.agg #[.bool false, .string ⟨#[]⟩, .slice none 0 0], .slice none 0 0] 8 (World.laidAll_os _ _ _)
      (World.shaped_of_ZipB (by kernel_rfl) (by kernel_rfl)) (by kernel_rfl) (by kernel_rfl) (by kernel_rfl)
      (by rw [MakeChecks.laidMetH_plain _ _ _ (by kernel_rfl)]; exact laidMet_laidAll _ (by kernel_rfl) (by kernel_rfl))) ?_
  intro W base args ds gs before hval0 hW hcnd hsz0 _ _
  have hval : ∀ (j : Nat) t v, Proofs.Tryd.f4.params[j]? = some t → args[j]? = some v → Value.okWide Proofs.Tryd.prog W .any base t v := hval0
  have hW2 : DataW.Whole enc Proofs.Tryd.prog Proofs.Tryd.f4.params.toList Proofs.YtbgeolhghncnbaaDoor.Rows.interlockNotSpec.vars false W args.toList ds gs before := hW
  obtain ⟨p, q, hA0, hV, rfl, hfz, hnd⟩ := hW
  have hA : DataW.TrodAll enc Proofs.Tryd.prog W 0 (fun _ => true) true Proofs.Tryd.f4.params.toList args.toList ds p := hA0
  rw [Proofs.Tryd.params4] at hA hval hsz0
  obtain ⟨v0, vs0, d0, ds0, p0, q0, hargs, rfl, rfl, h0, r0⟩ := trodAll_cons hA
  obtain ⟨v1, vs1, d1, ds1, p1, q1, rfl, rfl, rfl, h1, r1⟩ := trodAll_cons r0
  obtain ⟨rfl, rfl, rfl⟩ := trodAll_nil r1
  obtain ⟨w0, hsz1⟩ := sz_cons hsz0
  obtain ⟨w1, hsz2⟩ := sz_cons hsz1
  obtain rfl : args = #[v0, v1] := by cases args; simp_all
  obtain ⟨x0, cs0, rfl, ⟨v0_2, rfl, e0_2⟩, ok0⟩ := arg_struct Proofs.Tryd.underlying38 tread38 (hval 0 38 v0 rfl rfl) h0
  obtain ⟨x1, e1, ok1⟩ := arg_slice Proofs.Tryd.underlying39 tread39 (hval 1 39 v1 rfl rfl) h1
  have z1 := size_slice Proofs.Tryd.underlying39 (by kernel_rfl : _ = 24) h1 w1 e1
  have zf0_2 := size_field (i := 2) (o := 2) Proofs.Tryd.underlying38 rfl rfl (by kernel_rfl) Proofs.Tryd.underlying36 (by kernel_rfl : _ = 40) h0 w0 rfl e0_2
  have hc := m_gridhallkeep4_InterlockNot_c (hp x0 x1 ok0 ok1 z1 zf0_2) e0_2 e1 (St.begin W)
  refine hc.mono fun e W' h => ?_
  cases e with
  | returned v =>
    obtain ⟨H', M', hst, hphi⟩ := h
    obtain ⟨_, _, rfl⟩ := hphi
    exact ⟨_, rfl, law_post law_laid rfl rfl Proofs.Tryd.underlying4 (by kernel_rfl) hW2 (fun _ => rfl) hst.below⟩
  | _ => exact h.elim
theorem InterlockNot_law (hp : ∀ (x0 : S_api_InterlockRule) (x1 : (List S_api_InterlockState)), ok x0 → ok x1 → x1.length * 24 ≤ 140737488351232 → x0.Cond.length * 40 ≤ 140737488351232 → m_gridhallkeep4_InterlockNot x0 x1 = some true) : Proofs.YtbgeolhghncnbaaDoor.Rows.InterlockNotSaid :=
  OpenClaim.holds_of_wide 4 Proofs.Tryd.f4 rfl rfl rfl rfl rfl rfl rfl ⟨rfl, rfl, rfl, rfl, rfl⟩ rfl rfl rfl rfl rfl (by kernel_rfl) Proofs.Tryd.func4 (by kernel_rfl)
    (of_decide_eq_true (by kernel_rfl)) (by unfold Func.isWrapper; first | (rw [if_pos (by decide +kernel)]; kernel_rfl) | (rw [if_neg (by decide +kernel)]; exact ⟨rfl, rfl⟩))
    (fun os started H enc _ => InterlockNot_lifted hp os started H enc)
set_option maxRecDepth 100000 in
theorem InterlockSets_lifted (hp : ∀ (x0 : (List S_api_InterlockState)) (x1 : Bool) (x2 : ByteArray), ok x0 → x2.size ≤ maxLen → m_gridhallkeep4_InterlockSets x0 x1 x2 = some true) (os : Os) (started : os.Started) (Hd : Type) (enc : TypeId × Value → Hd) :
    ReturnsInHanded {} Proofs.Tryd.checked os 5 .any (fun w args => (Proofs.YtbgeolhghncnbaaDoor.Rows.interlockSetsSpec.pre enc Proofs.Tryd.prog Proofs.Tryd.f5 Proofs.YtbgeolhghncnbaaDoor.Rows.interlockSetsRow.domain false w args ∧ laidMetH Proofs.Tryd.prog Proofs.YtbgeolhghncnbaaDoor.Rows.interlockSetsRow.laid w) ∧ sizedMet enc Proofs.Tryd.prog Proofs.Tryd.f5 (OpenSpec.ofChange Proofs.YtbgeolhghncnbaaDoor.Rows.interlockSetsSpec) false w args) (Proofs.YtbgeolhghncnbaaDoor.Rows.interlockSetsSpec.post enc Proofs.Tryd.prog Proofs.Tryd.f5 false true false false) := by
  refine returnsInHanded_of_change_and (C := Proofs.Tryd.checked) (X := fun w _ => laidMetH Proofs.Tryd.prog Proofs.YtbgeolhghncnbaaDoor.Rows.interlockSetsRow.laid w) (fun _ _ _ hh h => h.of_heap hh) law_own started (by kernel_rfl) Proofs.Tryd.func5
    (ChangeSpec.witness_shaped (enc := enc) (C := Proofs.Tryd.checked) (os := os) (X := fun w _ => laidMetH Proofs.Tryd.prog Proofs.YtbgeolhghncnbaaDoor.Rows.interlockSetsRow.laid w) false (World.laidAll Proofs.Tryd.prog os Proofs.YtbgeolhghncnbaaDoor.Rows.interlockSetsRow.laid) #[.slice none 0 0, .bool false, .string ⟨#[]⟩] 8 (World.laidAll_os _ _ _)
      (World.shaped_of_ZipB (by kernel_rfl) (by kernel_rfl)) (by kernel_rfl) (by kernel_rfl) (by kernel_rfl)
      (by rw [MakeChecks.laidMetH_plain _ _ _ (by kernel_rfl)]; exact laidMet_laidAll _ (by kernel_rfl) (by kernel_rfl))) ?_
  intro W base args ds gs before hval0 hW hcnd _ _ _
  have hval : ∀ (j : Nat) t v, Proofs.Tryd.f5.params[j]? = some t → args[j]? = some v → Value.okWide Proofs.Tryd.prog W .any base t v := hval0
  have hW2 : DataW.Whole enc Proofs.Tryd.prog Proofs.Tryd.f5.params.toList Proofs.YtbgeolhghncnbaaDoor.Rows.interlockSetsSpec.vars false W args.toList ds gs before := hW
  obtain ⟨p, q, hA0, hV, rfl, hfz, hnd⟩ := hW
  have hA : DataW.TrodAll enc Proofs.Tryd.prog W 0 (fun _ => true) true Proofs.Tryd.f5.params.toList args.toList ds p := hA0
  rw [Proofs.Tryd.params5] at hA hval
  obtain ⟨v0, vs0, d0, ds0, p0, q0, hargs, rfl, rfl, h0, r0⟩ := trodAll_cons hA
  obtain ⟨v1, vs1, d1, ds1, p1, q1, rfl, rfl, rfl, h1, r1⟩ := trodAll_cons r0
  obtain ⟨v2, vs2, d2, ds2, p2, q2, rfl, rfl, rfl, h2, r2⟩ := trodAll_cons r1
  obtain ⟨rfl, rfl, rfl⟩ := trodAll_nil r2
  obtain rfl : args = #[v0, v1, v2] := by cases args; simp_all
  obtain ⟨x0, e0, ok0⟩ := arg_slice Proofs.Tryd.underlying39 tread39 (hval 0 39 v0 rfl rfl) h0
  obtain ⟨x1, rfl⟩ := arg_bool Proofs.Tryd.underlying4 (hval 1 4 v1 rfl rfl) h1
  obtain ⟨x2, rfl, ok2⟩ := arg_string Proofs.Tryd.underlying9 (hval 2 9 v2 rfl rfl) h2
  have hc := m_gridhallkeep4_InterlockSets_c (hp x0 x1 x2 ok0 ok2) e0 (St.begin W)
  refine hc.mono fun e W' h => ?_
  cases e with
  | returned v =>
    obtain ⟨H', M', hst, hphi⟩ := h
    obtain ⟨_, _, rfl⟩ := hphi
    exact ⟨_, rfl, law_post law_laid rfl rfl Proofs.Tryd.underlying4 (by kernel_rfl) hW2 (fun _ => rfl) hst.below⟩
  | _ => exact h.elim
theorem InterlockSets_law (hp : ∀ (x0 : (List S_api_InterlockState)) (x1 : Bool) (x2 : ByteArray), ok x0 → x2.size ≤ maxLen → m_gridhallkeep4_InterlockSets x0 x1 x2 = some true) : Proofs.YtbgeolhghncnbaaDoor.Rows.InterlockSetsSaid :=
  OpenClaim.holds_of_wide 5 Proofs.Tryd.f5 rfl rfl rfl rfl rfl rfl rfl ⟨rfl, rfl, rfl, rfl, rfl⟩ rfl rfl rfl rfl rfl (by kernel_rfl) Proofs.Tryd.func5 (by kernel_rfl)
    (of_decide_eq_true (by kernel_rfl)) (by unfold Func.isWrapper; first | (rw [if_pos (by decide +kernel)]; kernel_rfl) | (rw [if_neg (by decide +kernel)]; exact ⟨rfl, rfl⟩))
    (fun os started H enc _ => InterlockSets_lifted hp os started H enc)
theorem tread44 : Tread Proofs.Tryd.prog 44 (List S_api_InterlockRule) := tread_slice Proofs.Tryd.underlying44 (by kernel_rfl) rfl tread38
set_option maxRecDepth 100000 in
theorem InterlockMore_lifted (hp : ∀ (x0 : (List S_api_InterlockRule)) (x1 : (List S_api_InterlockRule)) (x2 : (List S_api_InterlockState)) (x3 : Bool) (x4 : ByteArray), ok x0 → ok x1 → ok x2 → x4.size ≤ maxLen → x0.length * 48 ≤ 140737488351232 → x1.length * 48 ≤ 140737488351232 → x2.length * 24 ≤ 140737488351232 → m_gridhallkeep4_InterlockMore x0 x1 x2 x3 x4 = some true) (os : Os) (started : os.Started) (Hd : Type) (enc : TypeId × Value → Hd) :
    ReturnsInHanded {} Proofs.Tryd.checked os 6 .any (fun w args => (Proofs.YtbgeolhghncnbaaDoor.Rows.interlockMoreSpec.pre enc Proofs.Tryd.prog Proofs.Tryd.f6 Proofs.YtbgeolhghncnbaaDoor.Rows.interlockMoreRow.domain false w args ∧ laidMetH Proofs.Tryd.prog Proofs.YtbgeolhghncnbaaDoor.Rows.interlockMoreRow.laid w) ∧ sizedMet enc Proofs.Tryd.prog Proofs.Tryd.f6 (OpenSpec.ofChange Proofs.YtbgeolhghncnbaaDoor.Rows.interlockMoreSpec) false w args) (Proofs.YtbgeolhghncnbaaDoor.Rows.interlockMoreSpec.post enc Proofs.Tryd.prog Proofs.Tryd.f6 false true false false) := by
  refine returnsInHanded_of_change_and (C := Proofs.Tryd.checked) (X := fun w _ => laidMetH Proofs.Tryd.prog Proofs.YtbgeolhghncnbaaDoor.Rows.interlockMoreRow.laid w) (fun _ _ _ hh h => h.of_heap hh) law_own started (by kernel_rfl) Proofs.Tryd.func6
    (ChangeSpec.witness_shaped (enc := enc) (C := Proofs.Tryd.checked) (os := os) (X := fun w _ => laidMetH Proofs.Tryd.prog Proofs.YtbgeolhghncnbaaDoor.Rows.interlockMoreRow.laid w) false (World.laidAll Proofs.Tryd.prog os Proofs.YtbgeolhghncnbaaDoor.Rows.interlockMoreRow.laid) #[.slice none 0 0, .slice none 0 0, .slice none 0 0, .bool false, .string ⟨#[]⟩] 8 (World.laidAll_os _ _ _)
      (World.shaped_of_ZipB (by kernel_rfl) (by kernel_rfl)) (by kernel_rfl) (by kernel_rfl) (by kernel_rfl)
      (by rw [MakeChecks.laidMetH_plain _ _ _ (by kernel_rfl)]; exact laidMet_laidAll _ (by kernel_rfl) (by kernel_rfl))) ?_
  intro W base args ds gs before hval0 hW hcnd hsz0 _ _
  have hval : ∀ (j : Nat) t v, Proofs.Tryd.f6.params[j]? = some t → args[j]? = some v → Value.okWide Proofs.Tryd.prog W .any base t v := hval0
  have hW2 : DataW.Whole enc Proofs.Tryd.prog Proofs.Tryd.f6.params.toList Proofs.YtbgeolhghncnbaaDoor.Rows.interlockMoreSpec.vars false W args.toList ds gs before := hW
  obtain ⟨p, q, hA0, hV, rfl, hfz, hnd⟩ := hW
  have hA : DataW.TrodAll enc Proofs.Tryd.prog W 0 (fun _ => true) true Proofs.Tryd.f6.params.toList args.toList ds p := hA0
  rw [Proofs.Tryd.params6] at hA hval hsz0
  obtain ⟨v0, vs0, d0, ds0, p0, q0, hargs, rfl, rfl, h0, r0⟩ := trodAll_cons hA
  obtain ⟨v1, vs1, d1, ds1, p1, q1, rfl, rfl, rfl, h1, r1⟩ := trodAll_cons r0
  obtain ⟨v2, vs2, d2, ds2, p2, q2, rfl, rfl, rfl, h2, r2⟩ := trodAll_cons r1
  obtain ⟨v3, vs3, d3, ds3, p3, q3, rfl, rfl, rfl, h3, r3⟩ := trodAll_cons r2
  obtain ⟨v4, vs4, d4, ds4, p4, q4, rfl, rfl, rfl, h4, r4⟩ := trodAll_cons r3
  obtain ⟨rfl, rfl, rfl⟩ := trodAll_nil r4
  obtain ⟨w0, hsz1⟩ := sz_cons hsz0
  obtain ⟨w1, hsz2⟩ := sz_cons hsz1
  obtain ⟨w2, hsz3⟩ := sz_cons hsz2
  obtain ⟨w3, hsz4⟩ := sz_cons hsz3
  obtain ⟨w4, hsz5⟩ := sz_cons hsz4
  obtain rfl : args = #[v0, v1, v2, v3, v4] := by cases args; simp_all
  obtain ⟨x0, e0, ok0⟩ := arg_slice Proofs.Tryd.underlying44 tread44 (hval 0 44 v0 rfl rfl) h0
  obtain ⟨x1, e1, ok1⟩ := arg_slice Proofs.Tryd.underlying44 tread44 (hval 1 44 v1 rfl rfl) h1
  obtain ⟨x2, e2, ok2⟩ := arg_slice Proofs.Tryd.underlying39 tread39 (hval 2 39 v2 rfl rfl) h2
  obtain ⟨x3, rfl⟩ := arg_bool Proofs.Tryd.underlying4 (hval 3 4 v3 rfl rfl) h3
  obtain ⟨x4, rfl, ok4⟩ := arg_string Proofs.Tryd.underlying9 (hval 4 9 v4 rfl rfl) h4
  have z0 := size_slice Proofs.Tryd.underlying44 (by kernel_rfl : _ = 48) h0 w0 e0
  have z1 := size_slice Proofs.Tryd.underlying44 (by kernel_rfl : _ = 48) h1 w1 e1
  have z2 := size_slice Proofs.Tryd.underlying39 (by kernel_rfl : _ = 24) h2 w2 e2
  have hc := m_gridhallkeep4_InterlockMore_c (hp x0 x1 x2 x3 x4 ok0 ok1 ok2 ok4 z0 z1 z2) e0 e1 e2 (St.begin W)
  refine hc.mono fun e W' h => ?_
  cases e with
  | returned v =>
    obtain ⟨H', M', hst, hphi⟩ := h
    obtain ⟨_, _, rfl⟩ := hphi
    exact ⟨_, rfl, law_post law_laid rfl rfl Proofs.Tryd.underlying4 (by kernel_rfl) hW2 (fun _ => rfl) hst.below⟩
  | _ => exact h.elim
theorem InterlockMore_law (hp : ∀ (x0 : (List S_api_InterlockRule)) (x1 : (List S_api_InterlockRule)) (x2 : (List S_api_InterlockState)) (x3 : Bool) (x4 : ByteArray), ok x0 → ok x1 → ok x2 → x4.size ≤ maxLen → x0.length * 48 ≤ 140737488351232 → x1.length * 48 ≤ 140737488351232 → x2.length * 24 ≤ 140737488351232 → m_gridhallkeep4_InterlockMore x0 x1 x2 x3 x4 = some true) : Proofs.YtbgeolhghncnbaaDoor.Rows.InterlockMoreSaid :=
  OpenClaim.holds_of_wide 6 Proofs.Tryd.f6 rfl rfl rfl rfl rfl rfl rfl ⟨rfl, rfl, rfl, rfl, rfl⟩ rfl rfl rfl rfl rfl (by kernel_rfl) Proofs.Tryd.func6 (by kernel_rfl)
    (of_decide_eq_true (by kernel_rfl)) (by unfold Func.isWrapper; first | (rw [if_pos (by decide +kernel)]; kernel_rfl) | (rw [if_neg (by decide +kernel)]; exact ⟨rfl, rfl⟩))
    (fun os started H enc _ => InterlockMore_lifted hp os started H enc)
end Go.Sim
