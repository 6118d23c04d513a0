/-
  Printed by a program: from the models to the given statements.
-/
import Derived.Test.YtppfglcmgkjgkaaConO
import Derived.Test.YtppfglcmgkjgkaaSimL
import Derived.OpenShut
import Derived.HandedShaped
namespace Go.Sim
open Go Go.RowKit Go.ChangeShapes Go.WideShapes Go.ChangeAt
set_option linter.unusedVariables false
theorem law_own : ownKnob Proofs.Try.prog.godebug = none := by kernel_rfl
theorem law_laid : laidOutB Proofs.Try.prog = true := by kernel_rfl
instance : Ok S_api_InterlockNode := ⟨fun x => ok x.Kind ∧ ok x.Name ∧ ok x.A ∧ ok x.B_⟩
instance : Ok S_api_InterlockRule := ⟨fun x => ok x.Close ∧ ok x.Switch ∧ ok x.Cond⟩
instance : Ok S_api_InterlockState := ⟨fun x => ok x.Name ∧ ok x.Closed⟩
theorem tread58 : Tread Proofs.Try.prog 58 S_api_InterlockNode := by
  intro Hd enc w fuel cs d h
  obtain ⟨xs, n, rfl, rfl, hl, hlen, hf⟩ := DataW.trod_struct Proofs.Try.underlying58 h
  obtain ⟨x0, e0, o0⟩ := field_tread (α := Int) hlen hf 0 (o := 0) rfl rfl (by kernel_rfl) (tread_int Proofs.Try.underlying3)
  obtain ⟨x1, e1, o1⟩ := field_tread (α := ByteArray) hlen hf 1 (o := 1) rfl rfl (by kernel_rfl) (tread_string Proofs.Try.underlying9)
  obtain ⟨x2, e2, o2⟩ := field_tread (α := Int) hlen hf 2 (o := 2) rfl rfl (by kernel_rfl) (tread_int Proofs.Try.underlying3)
  obtain ⟨x3, e3, o3⟩ := field_tread (α := Int) hlen hf 3 (o := 3) rfl rfl (by kernel_rfl) (tread_int Proofs.Try.underlying3)
  exact ⟨⟨x0, x1, x2, x3⟩, piece (o := 0) e0 (by rfl) (piece (o := 1) e1 (by rfl) (piece (o := 2) e2 (by rfl) (piece (o := 3) e3 (by rfl) (piece_end hl (by kernel_rfl))))), ⟨o0, o1, o2, o3⟩⟩
theorem tread44 : Tread Proofs.Try.prog 44 (List S_api_InterlockNode) := tread_slice Proofs.Try.underlying44 (by kernel_rfl) rfl tread58
theorem tread46 : Tread Proofs.Try.prog 46 S_api_InterlockRule := by
  intro Hd enc w fuel cs d h
  obtain ⟨xs, n, rfl, rfl, hl, hlen, hf⟩ := DataW.trod_struct Proofs.Try.underlying46 h
  obtain ⟨x0, e0, o0⟩ := field_tread (α := Bool) hlen hf 0 (o := 0) rfl rfl (by kernel_rfl) (tread_bool Proofs.Try.underlying4)
  obtain ⟨x1, e1, o1⟩ := field_tread (α := ByteArray) hlen hf 1 (o := 1) rfl rfl (by kernel_rfl) (tread_string Proofs.Try.underlying9)
  obtain ⟨x2, ⟨v2_0, e2, h2_0⟩, o2⟩ := field_tread (α := (List S_api_InterlockNode)) hlen hf 2 (o := 2) rfl rfl (by kernel_rfl) tread44
  exact ⟨⟨x0, x1, x2⟩, ⟨v2_0, piece (o := 0) e0 (by rfl) (piece (o := 1) e1 (by rfl) (piece (o := 2) e2 (by rfl) (piece_end hl (by kernel_rfl)))), h2_0⟩, ⟨o0, o1, o2⟩⟩
theorem tread22 : Tread Proofs.Try.prog 22 (List S_api_InterlockRule) := tread_slice Proofs.Try.underlying22 (by kernel_rfl) rfl tread46
theorem tread33 : Tread Proofs.Try.prog 33 S_api_InterlockState := by
  intro Hd enc w fuel cs d h
  obtain ⟨xs, n, rfl, rfl, hl, hlen, hf⟩ := DataW.trod_struct Proofs.Try.underlying33 h
  obtain ⟨x0, e0, o0⟩ := field_tread (α := ByteArray) hlen hf 0 (o := 0) rfl rfl (by kernel_rfl) (tread_string Proofs.Try.underlying9)
  obtain ⟨x1, e1, o1⟩ := field_tread (α := Bool) hlen hf 1 (o := 1) rfl rfl (by kernel_rfl) (tread_bool Proofs.Try.underlying4)
  exact ⟨⟨x0, x1⟩, piece (o := 0) e0 (by rfl) (piece (o := 1) e1 (by rfl) (piece_end hl (by kernel_rfl))), ⟨o0, o1⟩⟩
theorem tread23 : Tread Proofs.Try.prog 23 (List S_api_InterlockState) := tread_slice Proofs.Try.underlying23 (by kernel_rfl) rfl tread33
theorem tread24 : Tread Proofs.Try.prog 24 (List ByteArray) := tread_slice Proofs.Try.underlying24 (by kernel_rfl) rfl (tread_string Proofs.Try.underlying9)
set_option maxRecDepth 100000 in
theorem OrderThrough_lifted (hp : ∀ (x0 : (List S_api_InterlockRule)) (x1 : (List S_api_InterlockState)) (x2 : (List S_api_InterlockState)) (x3 : (List S_api_InterlockState)) (x4 : (List ByteArray)), ok x0 → ok x1 → ok x2 → ok x3 → ok x4 → m_gridhallkeep4_OrderThrough x0 x1 x2 x3 x4 = some true) (os : Os) (started : os.Started) (Hd : Type) (enc : TypeId × Value → Hd) :
    ReturnsInHanded {} Proofs.Try.checked os 3 .any (Proofs.Ytppfglcmgkjgkaa.Rows.orderThroughSpec.pre6 enc Proofs.Try.prog Proofs.Try.f3 Proofs.Ytppfglcmgkjgkaa.Rows.orderThroughRow.domain false) (Proofs.Ytppfglcmgkjgkaa.Rows.orderThroughSpec.post enc Proofs.Try.prog Proofs.Try.f3 false true false false) := by
  refine returnsInHanded_of_change (C := Proofs.Try.checked) law_own started (by kernel_rfl) Proofs.Try.func3
    (ChangeSpec.witness6 (enc := enc) (C := Proofs.Try.checked) false ⟨#[], #[.slice none 0 0, .slice none 0 0, .slice none 0 0, .slice none 0 0, .slice none 0 0], []⟩ 8 (by kernel_rfl) (by kernel_rfl) (by kernel_rfl) (by kernel_rfl)) ?_
  intro W base args ds gs before hval0 hW hcnd _
  have hval : ∀ (j : Nat) t v, Proofs.Try.f3.params[j]? = some t → args[j]? = some v → Value.okWide Proofs.Try.prog W .any base t v := hval0
  have hW2 : DataW.Whole enc Proofs.Try.prog Proofs.Try.f3.params.toList Proofs.Ytppfglcmgkjgkaa.Rows.orderThroughSpec.vars false W args.toList ds gs before := hW
  obtain ⟨p, q, hA0, hV, rfl, hfz, hnd⟩ := hW
  have hA : DataW.TrodAll enc Proofs.Try.prog W 0 (fun _ => true) true Proofs.Try.f3.params.toList args.toList ds p := hA0
  rw [Proofs.Try.params3] at hA hval
  obtain ⟨v0, vs0, d0, ds0, p0, q0, hargs, rfl, rfl, h0, r0⟩ := trodAll_cons hA
  obtain ⟨v1, vs1, d1, ds1, p1, q1, rfl, rfl, rfl, h1, r1⟩ := trodAll_cons r0
  obtain ⟨v2, vs2, d2, ds2, p2, q2, rfl, rfl, rfl, h2, r2⟩ := trodAll_cons r1
  obtain ⟨v3, vs3, d3, ds3, p3, q3, rfl, rfl, rfl, h3, r3⟩ := trodAll_cons r2
  obtain ⟨v4, vs4, d4, ds4, p4, q4, rfl, rfl, rfl, h4, r4⟩ := trodAll_cons r3
  obtain ⟨rfl, rfl, rfl⟩ := trodAll_nil r4
  obtain rfl : args = #[v0, v1, v2, v3, v4] := by cases args; simp_all
  obtain ⟨x0, e0, ok0⟩ := arg_slice Proofs.Try.underlying22 tread22 (hval 0 22 v0 rfl rfl) h0
  obtain ⟨x1, e1, ok1⟩ := arg_slice Proofs.Try.underlying23 tread23 (hval 1 23 v1 rfl rfl) h1
  obtain ⟨x2, e2, ok2⟩ := arg_slice Proofs.Try.underlying23 tread23 (hval 2 23 v2 rfl rfl) h2
  obtain ⟨x3, e3, ok3⟩ := arg_slice Proofs.Try.underlying23 tread23 (hval 3 23 v3 rfl rfl) h3
  obtain ⟨x4, e4, ok4⟩ := arg_slice Proofs.Try.underlying24 tread24 (hval 4 24 v4 rfl rfl) h4
  have hc := m_gridhallkeep4_OrderThrough_c (hp _ _ _ _ _ ok0 ok1 ok2 ok3 ok4) e0 e1 e2 e3 e4 (St.begin W)
  refine hc.mono fun e W' h => ?_
  cases e with
  | returned v =>
    obtain ⟨H', M', hst, hphi⟩ := h
    obtain ⟨_, _, rfl⟩ := hphi
    exact ⟨_, rfl, law_post law_laid rfl rfl Proofs.Try.underlying4 (by kernel_rfl) hW2 (fun _ => rfl) hst.below⟩
  | _ => exact h.elim
theorem OrderThrough_law (hp : ∀ (x0 : (List S_api_InterlockRule)) (x1 : (List S_api_InterlockState)) (x2 : (List S_api_InterlockState)) (x3 : (List S_api_InterlockState)) (x4 : (List ByteArray)), ok x0 → ok x1 → ok x2 → ok x3 → ok x4 → m_gridhallkeep4_OrderThrough x0 x1 x2 x3 x4 = some true) : Proofs.Ytppfglcmgkjgkaa.Rows.OrderThroughSaid :=
  OpenClaim.holds_of_wide 3 Proofs.Try.f3 rfl rfl rfl rfl rfl rfl rfl ⟨rfl, rfl, rfl, rfl, rfl⟩ rfl rfl rfl rfl rfl (by kernel_rfl) Proofs.Try.func3 (by kernel_rfl)
    (of_decide_eq_true (by kernel_rfl)) (by unfold Func.isWrapper; first | (rw [if_pos (by decide +kernel)]; kernel_rfl) | (rw [if_neg (by decide +kernel)]; exact ⟨rfl, rfl⟩))
    (fun os started H enc _ => OrderThrough_lifted hp os started H enc)
set_option maxRecDepth 100000 in
theorem OrderHeld_lifted (hp : ∀ (x0 : (List S_api_InterlockRule)) (x1 : (List S_api_InterlockState)) (x2 : (List S_api_InterlockState)) (x3 : Int), ok x0 → ok x1 → ok x2 → i64ok x3 → m_gridhallkeep4_OrderHeld x0 x1 x2 x3 = some true) (os : Os) (started : os.Started) (Hd : Type) (enc : TypeId × Value → Hd) :
    ReturnsInHanded {} Proofs.Try.checked os 4 .any (Proofs.Ytppfglcmgkjgkaa.Rows.orderHeldSpec.pre6 enc Proofs.Try.prog Proofs.Try.f4 Proofs.Ytppfglcmgkjgkaa.Rows.orderHeldRow.domain false) (Proofs.Ytppfglcmgkjgkaa.Rows.orderHeldSpec.post enc Proofs.Try.prog Proofs.Try.f4 false true false false) := by
  refine returnsInHanded_of_change (C := Proofs.Try.checked) law_own started (by kernel_rfl) Proofs.Try.func4
    (ChangeSpec.witness6 (enc := enc) (C := Proofs.Try.checked) false ⟨#[], #[.slice none 0 0, .slice none 0 0, .slice none 0 0, .int .i64 0], []⟩ 8 (by kernel_rfl) (by kernel_rfl) (by kernel_rfl) (by kernel_rfl)) ?_
  intro W base args ds gs before hval0 hW hcnd _
  have hval : ∀ (j : Nat) t v, Proofs.Try.f4.params[j]? = some t → args[j]? = some v → Value.okWide Proofs.Try.prog W .any base t v := hval0
  have hW2 : DataW.Whole enc Proofs.Try.prog Proofs.Try.f4.params.toList Proofs.Ytppfglcmgkjgkaa.Rows.orderHeldSpec.vars false W args.toList ds gs before := hW
  obtain ⟨p, q, hA0, hV, rfl, hfz, hnd⟩ := hW
  have hA : DataW.TrodAll enc Proofs.Try.prog W 0 (fun _ => true) true Proofs.Try.f4.params.toList args.toList ds p := hA0
  rw [Proofs.Try.params4] at hA hval
  obtain ⟨v0, vs0, d0, ds0, p0, q0, hargs, rfl, rfl, h0, r0⟩ := trodAll_cons hA
  obtain ⟨v1, vs1, d1, ds1, p1, q1, rfl, rfl, rfl, h1, r1⟩ := trodAll_cons r0
  obtain ⟨v2, vs2, d2, ds2, p2, q2, rfl, rfl, rfl, h2, r2⟩ := trodAll_cons r1
  obtain ⟨v3, vs3, d3, ds3, p3, q3, rfl, rfl, rfl, h3, r3⟩ := trodAll_cons r2
  obtain ⟨rfl, rfl, rfl⟩ := trodAll_nil r3
  obtain rfl : args = #[v0, v1, v2, v3] := by cases args; simp_all
  obtain ⟨x0, e0, ok0⟩ := arg_slice Proofs.Try.underlying22 tread22 (hval 0 22 v0 rfl rfl) h0
  obtain ⟨x1, e1, ok1⟩ := arg_slice Proofs.Try.underlying23 tread23 (hval 1 23 v1 rfl rfl) h1
  obtain ⟨x2, e2, ok2⟩ := arg_slice Proofs.Try.underlying23 tread23 (hval 2 23 v2 rfl rfl) h2
  obtain ⟨x3, rfl, ok3⟩ := arg_int Proofs.Try.underlying3 (hval 3 3 v3 rfl rfl) h3
  have hc := m_gridhallkeep4_OrderHeld_c (hp _ _ _ _ ok0 ok1 ok2 ok3) e0 e1 e2 (St.begin W)
  refine hc.mono fun e W' h => ?_
  cases e with
  | returned v =>
    obtain ⟨H', M', hst, hphi⟩ := h
    obtain ⟨_, _, rfl⟩ := hphi
    exact ⟨_, rfl, law_post law_laid rfl rfl Proofs.Try.underlying4 (by kernel_rfl) hW2 (fun _ => rfl) hst.below⟩
  | _ => exact h.elim
theorem OrderHeld_law (hp : ∀ (x0 : (List S_api_InterlockRule)) (x1 : (List S_api_InterlockState)) (x2 : (List S_api_InterlockState)) (x3 : Int), ok x0 → ok x1 → ok x2 → i64ok x3 → m_gridhallkeep4_OrderHeld x0 x1 x2 x3 = some true) : Proofs.Ytppfglcmgkjgkaa.Rows.OrderHeldSaid :=
  OpenClaim.holds_of_wide 4 Proofs.Try.f4 rfl rfl rfl rfl rfl rfl rfl ⟨rfl, rfl, rfl, rfl, rfl⟩ rfl rfl rfl rfl rfl (by kernel_rfl) Proofs.Try.func4 (by kernel_rfl)
    (of_decide_eq_true (by kernel_rfl)) (by unfold Func.isWrapper; first | (rw [if_pos (by decide +kernel)]; kernel_rfl) | (rw [if_neg (by decide +kernel)]; exact ⟨rfl, rfl⟩))
    (fun os started H enc _ => OrderHeld_lifted hp os started H enc)
set_option maxRecDepth 100000 in
theorem OrderReach_lifted (hp : ∀ (x0 : (List S_api_InterlockRule)) (x1 : (List S_api_InterlockState)) (x2 : (List ByteArray)), ok x0 → ok x1 → ok x2 → m_gridhallkeep4_OrderReach x0 x1 x2 = some true) (os : Os) (started : os.Started) (Hd : Type) (enc : TypeId × Value → Hd) :
    ReturnsInHanded {} Proofs.Try.checked os 5 .any (Proofs.Ytppfglcmgkjgkaa.Rows.orderReachSpec.pre6 enc Proofs.Try.prog Proofs.Try.f5 Proofs.Ytppfglcmgkjgkaa.Rows.orderReachRow.domain false) (Proofs.Ytppfglcmgkjgkaa.Rows.orderReachSpec.post enc Proofs.Try.prog Proofs.Try.f5 false true false false) := by
  refine returnsInHanded_of_change (C := Proofs.Try.checked) law_own started (by kernel_rfl) Proofs.Try.func5
    (ChangeSpec.witness6 (enc := enc) (C := Proofs.Try.checked) false ⟨#[], #[.slice none 0 0, .slice none 0 0, .slice none 0 0], []⟩ 8 (by kernel_rfl) (by kernel_rfl) (by kernel_rfl) (by kernel_rfl)) ?_
  intro W base args ds gs before hval0 hW hcnd _
  have hval : ∀ (j : Nat) t v, Proofs.Try.f5.params[j]? = some t → args[j]? = some v → Value.okWide Proofs.Try.prog W .any base t v := hval0
  have hW2 : DataW.Whole enc Proofs.Try.prog Proofs.Try.f5.params.toList Proofs.Ytppfglcmgkjgkaa.Rows.orderReachSpec.vars false W args.toList ds gs before := hW
  obtain ⟨p, q, hA0, hV, rfl, hfz, hnd⟩ := hW
  have hA : DataW.TrodAll enc Proofs.Try.prog W 0 (fun _ => true) true Proofs.Try.f5.params.toList args.toList ds p := hA0
  rw [Proofs.Try.params5] at hA hval
  obtain ⟨v0, vs0, d0, ds0, p0, q0, hargs, rfl, rfl, h0, r0⟩ := trodAll_cons hA
  obtain ⟨v1, vs1, d1, ds1, p1, q1, rfl, rfl, rfl, h1, r1⟩ := trodAll_cons r0
  obtain ⟨v2, vs2, d2, ds2, p2, q2, rfl, rfl, rfl, h2, r2⟩ := trodAll_cons r1
  obtain ⟨rfl, rfl, rfl⟩ := trodAll_nil r2
  obtain rfl : args = #[v0, v1, v2] := by cases args; simp_all
  obtain ⟨x0, e0, ok0⟩ := arg_slice Proofs.Try.underlying22 tread22 (hval 0 22 v0 rfl rfl) h0
  obtain ⟨x1, e1, ok1⟩ := arg_slice Proofs.Try.underlying23 tread23 (hval 1 23 v1 rfl rfl) h1
  obtain ⟨x2, e2, ok2⟩ := arg_slice Proofs.Try.underlying24 tread24 (hval 2 24 v2 rfl rfl) h2
  have hc := m_gridhallkeep4_OrderReach_c (hp _ _ _ ok0 ok1 ok2) e0 e1 e2 (St.begin W)
  refine hc.mono fun e W' h => ?_
  cases e with
  | returned v =>
    obtain ⟨H', M', hst, hphi⟩ := h
    obtain ⟨_, _, rfl⟩ := hphi
    exact ⟨_, rfl, law_post law_laid rfl rfl Proofs.Try.underlying4 (by kernel_rfl) hW2 (fun _ => rfl) hst.below⟩
  | _ => exact h.elim
theorem OrderReach_law (hp : ∀ (x0 : (List S_api_InterlockRule)) (x1 : (List S_api_InterlockState)) (x2 : (List ByteArray)), ok x0 → ok x1 → ok x2 → m_gridhallkeep4_OrderReach x0 x1 x2 = some true) : Proofs.Ytppfglcmgkjgkaa.Rows.OrderReachSaid :=
  OpenClaim.holds_of_wide 5 Proofs.Try.f5 rfl rfl rfl rfl rfl rfl rfl ⟨rfl, rfl, rfl, rfl, rfl⟩ rfl rfl rfl rfl rfl (by kernel_rfl) Proofs.Try.func5 (by kernel_rfl)
    (of_decide_eq_true (by kernel_rfl)) (by unfold Func.isWrapper; first | (rw [if_pos (by decide +kernel)]; kernel_rfl) | (rw [if_neg (by decide +kernel)]; exact ⟨rfl, rfl⟩))
    (fun os started H enc _ => OrderReach_lifted hp os started H enc)
set_option maxRecDepth 100000 in
theorem OrderMore_lifted (hp : ∀ (x0 : (List S_api_InterlockRule)) (x1 : (List S_api_InterlockRule)) (x2 : (List S_api_InterlockState)) (x3 : (List S_api_InterlockState)), ok x0 → ok x1 → ok x2 → ok x3 → x0.length * 48 ≤ 140737488351232 → x1.length * 48 ≤ 140737488351232 → x2.length * 24 ≤ 140737488351232 → x3.length * 24 ≤ 140737488351232 → m_gridhallkeep4_OrderMore x0 x1 x2 x3 = some true) (os : Os) (started : os.Started) (Hd : Type) (enc : TypeId × Value → Hd) :
    ReturnsInHanded {} Proofs.Try.checked os 6 .any (Proofs.Ytppfglcmgkjgkaa.Rows.orderMoreSpec.pre6 enc Proofs.Try.prog Proofs.Try.f6 Proofs.Ytppfglcmgkjgkaa.Rows.orderMoreRow.domain false) (Proofs.Ytppfglcmgkjgkaa.Rows.orderMoreSpec.post enc Proofs.Try.prog Proofs.Try.f6 false true false false) := by
  refine returnsInHanded_of_change_shaped (C := Proofs.Try.checked) law_own started (by kernel_rfl) Proofs.Try.func6
    (ChangeSpec.witness6 (enc := enc) (C := Proofs.Try.checked) false ⟨#[], #[.slice none 0 0, .slice none 0 0, .slice none 0 0, .slice none 0 0], []⟩ 8 (by kernel_rfl) (by kernel_rfl) (by kernel_rfl) (by kernel_rfl)) ?_
  intro W base args ds gs before hval0 hW hcnd hsz0 _ _
  have hval : ∀ (j : Nat) t v, Proofs.Try.f6.params[j]? = some t → args[j]? = some v → Value.okWide Proofs.Try.prog W .any base t v := hval0
  have hW2 : DataW.Whole enc Proofs.Try.prog Proofs.Try.f6.params.toList Proofs.Ytppfglcmgkjgkaa.Rows.orderMoreSpec.vars false W args.toList ds gs before := hW
  obtain ⟨p, q, hA0, hV, rfl, hfz, hnd⟩ := hW
  have hA : DataW.TrodAll enc Proofs.Try.prog W 0 (fun _ => true) true Proofs.Try.f6.params.toList args.toList ds p := hA0
  rw [Proofs.Try.params6] at hA hval hsz0
  obtain ⟨v0, vs0, d0, ds0, p0, q0, hargs, rfl, rfl, h0, r0⟩ := trodAll_cons hA
  obtain ⟨v1, vs1, d1, ds1, p1, q1, rfl, rfl, rfl, h1, r1⟩ := trodAll_cons r0
  obtain ⟨v2, vs2, d2, ds2, p2, q2, rfl, rfl, rfl, h2, r2⟩ := trodAll_cons r1
  obtain ⟨v3, vs3, d3, ds3, p3, q3, rfl, rfl, rfl, h3, r3⟩ := trodAll_cons r2
  obtain ⟨rfl, rfl, rfl⟩ := trodAll_nil r3
  obtain ⟨w0, hsz1⟩ := sz_cons hsz0
  obtain ⟨w1, hsz2⟩ := sz_cons hsz1
  obtain ⟨w2, hsz3⟩ := sz_cons hsz2
  obtain ⟨w3, hsz4⟩ := sz_cons hsz3
  obtain rfl : args = #[v0, v1, v2, v3] := by cases args; simp_all
  obtain ⟨x0, e0, ok0⟩ := arg_slice Proofs.Try.underlying22 tread22 (hval 0 22 v0 rfl rfl) h0
  obtain ⟨x1, e1, ok1⟩ := arg_slice Proofs.Try.underlying22 tread22 (hval 1 22 v1 rfl rfl) h1
  obtain ⟨x2, e2, ok2⟩ := arg_slice Proofs.Try.underlying23 tread23 (hval 2 23 v2 rfl rfl) h2
  obtain ⟨x3, e3, ok3⟩ := arg_slice Proofs.Try.underlying23 tread23 (hval 3 23 v3 rfl rfl) h3
  have z0 := size_slice Proofs.Try.underlying22 (by kernel_rfl : _ = 48) h0 w0 e0
  have z1 := size_slice Proofs.Try.underlying22 (by kernel_rfl : _ = 48) h1 w1 e1
  have z2 := size_slice Proofs.Try.underlying23 (by kernel_rfl : _ = 24) h2 w2 e2
  have z3 := size_slice Proofs.Try.underlying23 (by kernel_rfl : _ = 24) h3 w3 e3
  have hc := m_gridhallkeep4_OrderMore_c (hp _ _ _ _ ok0 ok1 ok2 ok3 z0 z1 z2 z3) e0 e1 e2 e3 (St.begin W)
  refine hc.mono fun e W' h => ?_
  cases e with
  | returned v =>
    obtain ⟨H', M', hst, hphi⟩ := h
    obtain ⟨_, _, rfl⟩ := hphi
    exact ⟨_, rfl, law_post law_laid rfl rfl Proofs.Try.underlying4 (by kernel_rfl) hW2 (fun _ => rfl) hst.below⟩
  | _ => exact h.elim
theorem OrderMore_law (hp : ∀ (x0 : (List S_api_InterlockRule)) (x1 : (List S_api_InterlockRule)) (x2 : (List S_api_InterlockState)) (x3 : (List S_api_InterlockState)), ok x0 → ok x1 → ok x2 → ok x3 → x0.length * 48 ≤ 140737488351232 → x1.length * 48 ≤ 140737488351232 → x2.length * 24 ≤ 140737488351232 → x3.length * 24 ≤ 140737488351232 → m_gridhallkeep4_OrderMore x0 x1 x2 x3 = some true) : Proofs.Ytppfglcmgkjgkaa.Rows.OrderMoreSaid :=
  OpenClaim.holds_of_wide 6 Proofs.Try.f6 rfl rfl rfl rfl rfl rfl rfl ⟨rfl, rfl, rfl, rfl, rfl⟩ rfl rfl rfl rfl rfl (by kernel_rfl) Proofs.Try.func6 (by kernel_rfl)
    (of_decide_eq_true (by kernel_rfl)) (by unfold Func.isWrapper; first | (rw [if_pos (by decide +kernel)]; kernel_rfl) | (rw [if_neg (by decide +kernel)]; exact ⟨rfl, rfl⟩))
    (fun os started H enc _ => OrderMore_lifted hp os started H enc)
set_option maxRecDepth 100000 in
theorem OrderSafe_lifted (hp : ∀ (x0 : (List S_api_InterlockRule)) (x1 : (List S_api_InterlockState)) (x2 : (List S_api_InterlockState)) (x3 : (List ByteArray)), ok x0 → ok x1 → ok x2 → ok x3 → m_gridhallkeep4_OrderSafe x0 x1 x2 x3 = some true) (os : Os) (started : os.Started) (Hd : Type) (enc : TypeId × Value → Hd) :
    ReturnsInHanded {} Proofs.Try.checked os 7 .any (Proofs.Ytppfglcmgkjgkaa.Rows.orderSafeSpec.pre6 enc Proofs.Try.prog Proofs.Try.f7 Proofs.Ytppfglcmgkjgkaa.Rows.orderSafeRow.domain false) (Proofs.Ytppfglcmgkjgkaa.Rows.orderSafeSpec.post enc Proofs.Try.prog Proofs.Try.f7 false true false false) := by
  refine returnsInHanded_of_change (C := Proofs.Try.checked) law_own started (by kernel_rfl) Proofs.Try.func7
    (ChangeSpec.witness6 (enc := enc) (C := Proofs.Try.checked) false ⟨#[], #[.slice none 0 0, .slice none 0 0, .slice none 0 0, .slice none 0 0], []⟩ 8 (by kernel_rfl) (by kernel_rfl) (by kernel_rfl) (by kernel_rfl)) ?_
  intro W base args ds gs before hval0 hW hcnd _
  have hval : ∀ (j : Nat) t v, Proofs.Try.f7.params[j]? = some t → args[j]? = some v → Value.okWide Proofs.Try.prog W .any base t v := hval0
  have hW2 : DataW.Whole enc Proofs.Try.prog Proofs.Try.f7.params.toList Proofs.Ytppfglcmgkjgkaa.Rows.orderSafeSpec.vars false W args.toList ds gs before := hW
  obtain ⟨p, q, hA0, hV, rfl, hfz, hnd⟩ := hW
  have hA : DataW.TrodAll enc Proofs.Try.prog W 0 (fun _ => true) true Proofs.Try.f7.params.toList args.toList ds p := hA0
  rw [Proofs.Try.params7] at hA hval
  obtain ⟨v0, vs0, d0, ds0, p0, q0, hargs, rfl, rfl, h0, r0⟩ := trodAll_cons hA
  obtain ⟨v1, vs1, d1, ds1, p1, q1, rfl, rfl, rfl, h1, r1⟩ := trodAll_cons r0
  obtain ⟨v2, vs2, d2, ds2, p2, q2, rfl, rfl, rfl, h2, r2⟩ := trodAll_cons r1
  obtain ⟨v3, vs3, d3, ds3, p3, q3, rfl, rfl, rfl, h3, r3⟩ := trodAll_cons r2
  obtain ⟨rfl, rfl, rfl⟩ := trodAll_nil r3
  obtain rfl : args = #[v0, v1, v2, v3] := by cases args; simp_all
  obtain ⟨x0, e0, ok0⟩ := arg_slice Proofs.Try.underlying22 tread22 (hval 0 22 v0 rfl rfl) h0
  obtain ⟨x1, e1, ok1⟩ := arg_slice Proofs.Try.underlying23 tread23 (hval 1 23 v1 rfl rfl) h1
  obtain ⟨x2, e2, ok2⟩ := arg_slice Proofs.Try.underlying23 tread23 (hval 2 23 v2 rfl rfl) h2
  obtain ⟨x3, e3, ok3⟩ := arg_slice Proofs.Try.underlying24 tread24 (hval 3 24 v3 rfl rfl) h3
  have hc := m_gridhallkeep4_OrderSafe_c (hp _ _ _ _ ok0 ok1 ok2 ok3) e0 e1 e2 e3 (St.begin W)
  refine hc.mono fun e W' h => ?_
  cases e with
  | returned v =>
    obtain ⟨H', M', hst, hphi⟩ := h
    obtain ⟨_, _, rfl⟩ := hphi
    exact ⟨_, rfl, law_post law_laid rfl rfl Proofs.Try.underlying4 (by kernel_rfl) hW2 (fun _ => rfl) hst.below⟩
  | _ => exact h.elim
theorem OrderSafe_law (hp : ∀ (x0 : (List S_api_InterlockRule)) (x1 : (List S_api_InterlockState)) (x2 : (List S_api_InterlockState)) (x3 : (List ByteArray)), ok x0 → ok x1 → ok x2 → ok x3 → m_gridhallkeep4_OrderSafe x0 x1 x2 x3 = some true) : Proofs.Ytppfglcmgkjgkaa.Rows.OrderSafeSaid :=
  OpenClaim.holds_of_wide 7 Proofs.Try.f7 rfl rfl rfl rfl rfl rfl rfl ⟨rfl, rfl, rfl, rfl, rfl⟩ rfl rfl rfl rfl rfl (by kernel_rfl) Proofs.Try.func7 (by kernel_rfl)
    (of_decide_eq_true (by kernel_rfl)) (by unfold Func.isWrapper; first | (rw [if_pos (by decide +kernel)]; kernel_rfl) | (rw [if_neg (by decide +kernel)]; exact ⟨rfl, rfl⟩))
    (fun os started H enc _ => OrderSafe_lifted hp os started H enc)
end Go.Sim
