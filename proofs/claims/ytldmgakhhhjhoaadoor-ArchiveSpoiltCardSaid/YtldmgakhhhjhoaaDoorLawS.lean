/-
  Printed by a program: from the models to the given statements.
-/
import Derived.Test.YtldmgakhhhjhoaaDoorConS
import Derived.Test.YtldmgakhhhjhoaaDoorSimL
import Derived.OpenShut
import Derived.HandedShaped
import Derived.Handed
import Derived.Lay
import Derived.LaidByTextLater
import Derived.Stop.LaidErr
namespace Go.Sim
open Go Go.RowKit Go.ChangeShapes Go.WideShapes Go.ChangeAt
set_option linter.unusedVariables false
theorem law_own : ownKnob Proofs.Tryd.prog.godebug = none := by kernel_rfl
theorem law_laid : laidOutB Proofs.Tryd.prog = true := by kernel_rfl
instance : Ok S_api_Event := ⟨fun x => ok x.Time ∧ ok x.Kind ∧ ok x.Name ∧ ok x.Value⟩
theorem tread30 : Tread Proofs.Tryd.prog 30 S_api_Event := by
  intro Hd enc w fuel cs d h
  obtain ⟨xs, n, rfl, rfl, hl, hlen, hf⟩ := DataW.trod_struct Proofs.Tryd.underlying30 h
  obtain ⟨x0, e0, o0⟩ := field_tread (α := Int) hlen hf 0 (o := 0) rfl rfl (by kernel_rfl) (tread_int Proofs.Tryd.underlying3)
  obtain ⟨x1, e1, o1⟩ := field_tread (α := ByteArray) hlen hf 1 (o := 1) rfl rfl (by kernel_rfl) (tread_string Proofs.Tryd.underlying9)
  obtain ⟨x2, e2, o2⟩ := field_tread (α := ByteArray) hlen hf 2 (o := 2) rfl rfl (by kernel_rfl) (tread_string Proofs.Tryd.underlying9)
  obtain ⟨x3, e3, o3⟩ := field_tread (α := Int) hlen hf 3 (o := 3) rfl rfl (by kernel_rfl) (tread_int Proofs.Tryd.underlying3)
  exact ⟨⟨x0, x1, x2, x3⟩, piece (o := 0) e0 (by rfl) (piece (o := 1) e1 (by rfl) (piece (o := 2) e2 (by rfl) (piece (o := 3) e3 (by rfl) (piece_end hl (by kernel_rfl))))), ⟨o0, o1, o2, o3⟩⟩
theorem tread22 : Tread Proofs.Tryd.prog 22 (List S_api_Event) := tread_slice Proofs.Tryd.underlying22 (by kernel_rfl) rfl tread30
theorem ArchiveSpoilt_tabs {W : World} (h0 : laidMetH Proofs.Tryd.prog Proofs.YtldmgakhhhjhoaaDoor.Rows.archiveSpoiltRow.laid W) : Tabs W.heap.size W := by
  rw [MakeChecks.laidMetH_plain _ _ _ (by kernel_rfl)] at h0
  have t6 : Lib.TabIs Proofs.Tryd.prog W "math/bits.deBruijn32tab" .u8 gt6 := Lib.tabIs_of_head gn6 (by kernel_rfl : (Proofs.Tryd.prog.globals[6]?).map (·.type) = some 115) Proofs.Tryd.underlying115 Proofs.Tryd.underlying5 (by kernel_rfl) (by kernel_rfl) (show laidMet Proofs.Tryd.prog (("math/bits.deBruijn32tab", Lib.tabData .u8 gt6) :: _) W from h0)
  have h1 := laidMet.tail h0
  have t7 : Lib.TabIs Proofs.Tryd.prog W "math/bits.deBruijn64tab" .u8 gt7 := Lib.tabIs_of_head gn7 (by kernel_rfl : (Proofs.Tryd.prog.globals[7]?).map (·.type) = some 116) Proofs.Tryd.underlying116 Proofs.Tryd.underlying5 (by kernel_rfl) (by kernel_rfl) (show laidMet Proofs.Tryd.prog (("math/bits.deBruijn64tab", Lib.tabData .u8 gt7) :: _) W from h1)
  have h2 := laidMet.tail h1
  have t3 : Lib.TabIs Proofs.Tryd.prog W "internal/strconv.uint64pow10" .u64 gt3 := Lib.tabIs_of_head gn3 (by kernel_rfl : (Proofs.Tryd.prog.globals[3]?).map (·.type) = some 101) Proofs.Tryd.underlying101 Proofs.Tryd.underlying42 (by kernel_rfl) (by kernel_rfl) (show laidMet Proofs.Tryd.prog (("internal/strconv.uint64pow10", Lib.tabData .u64 gt3) :: _) W from h2)
  have h3 := laidMet.tail h2
  have h4 := laidMet.tail h3
  have star : "*" ++ "errors.errorString" = "*errors.errorString" := by decide
  have rowe : ∀ u, Proofs.Tryd.prog.typeName? 3 u = some "*errors.errorString" → u = 107 := fun u h => typeName_ptr_named (nm := "errors.errorString") (by rw [star]; kernel_rfl) (by kernel_rfl) (by decide) u (by rw [star]; exact h)
  obtain ⟨a2, s2, e2, -⟩ := laid_sentinel h4 gn2 (by kernel_rfl : (Proofs.Tryd.prog.globals[2]?).map (·.type) = some 61) Proofs.Tryd.underlying61 rowe Proofs.Tryd.underlying107 Proofs.Tryd.underlying109 rfl rfl Proofs.Tryd.underlying9 (by kernel_rfl) (by kernel_rfl)
  have h5 := laidMet.tail h4
  obtain ⟨a1, s1, e1, -⟩ := laid_sentinel h5 gn1 (by kernel_rfl : (Proofs.Tryd.prog.globals[1]?).map (·.type) = some 61) Proofs.Tryd.underlying61 rowe Proofs.Tryd.underlying107 Proofs.Tryd.underlying109 rfl rfl Proofs.Tryd.underlying9 (by kernel_rfl) (by kernel_rfl)
  have h6 := laidMet.tail h5
  exact { lt := var_lt gn7 t7, t6 := t6, t7 := t7, t3 := t3, e2 := ⟨_, _, e2⟩, e1 := ⟨_, _, e1⟩ }
set_option maxRecDepth 100000 in
theorem ArchiveSpoilt_lifted (hp : ∀ (x0 : (List S_api_Event)) (x1 : Int) (x2 : Int), ok x0 → i64ok x1 → (0 ≤ x2 ∧ x2 ≤ 255) → m_gridhallkeep4_ArchiveSpoilt x0 x1 x2 = some true) (os : Os) (started : os.Started) (Hd : Type) (enc : TypeId × Value → Hd) :
    ReturnsInHanded {} Proofs.Tryd.checked os 5 .any (fun w args => (Proofs.YtldmgakhhhjhoaaDoor.Rows.archiveSpoiltSpec.pre enc Proofs.Tryd.prog Proofs.Tryd.f5 Proofs.YtldmgakhhhjhoaaDoor.Rows.archiveSpoiltRow.domain false w args ∧ laidMetH Proofs.Tryd.prog Proofs.YtldmgakhhhjhoaaDoor.Rows.archiveSpoiltRow.laid w) ∧ sizedMet enc Proofs.Tryd.prog Proofs.Tryd.f5 (OpenSpec.ofChange Proofs.YtldmgakhhhjhoaaDoor.Rows.archiveSpoiltSpec) false w args) (Proofs.YtldmgakhhhjhoaaDoor.Rows.archiveSpoiltSpec.post enc Proofs.Tryd.prog Proofs.Tryd.f5 false true false false) := by
  refine returnsInHanded_of_change_and (C := Proofs.Tryd.checked) (X := fun w _ => laidMetH Proofs.Tryd.prog Proofs.YtldmgakhhhjhoaaDoor.Rows.archiveSpoiltRow.laid w) (fun _ _ _ hh h => h.of_heap hh) law_own started (by kernel_rfl) Proofs.Tryd.func5
    (ChangeSpec.witness_shaped (enc := enc) (C := Proofs.Tryd.checked) (os := os) (X := fun w _ => laidMetH Proofs.Tryd.prog Proofs.YtldmgakhhhjhoaaDoor.Rows.archiveSpoiltRow.laid w) false (World.laidAll Proofs.Tryd.prog os Proofs.YtldmgakhhhjhoaaDoor.Rows.archiveSpoiltRow.laid) #[.slice none 0 0, .int .i64 0, .int .u8 0] 8 (World.laidAll_os _ _ _)
      (World.shaped_of_ZipB (by kernel_rfl) (by kernel_rfl)) (by kernel_rfl) (by kernel_rfl) (by kernel_rfl)
      (by rw [MakeChecks.laidMetH_plain _ _ _ (by kernel_rfl)]; exact laidMet_laidAll _ (by kernel_rfl) (by kernel_rfl))) ?_
  intro W base args ds gs before hval0 hW hcnd _ hL _
  have hval : ∀ (j : Nat) t v, Proofs.Tryd.f5.params[j]? = some t → args[j]? = some v → Value.okWide Proofs.Tryd.prog W .any base t v := hval0
  haveI : Tabs W.heap.size W := ArchiveSpoilt_tabs hL
  have hW2 : DataW.Whole enc Proofs.Tryd.prog Proofs.Tryd.f5.params.toList Proofs.YtldmgakhhhjhoaaDoor.Rows.archiveSpoiltSpec.vars false W args.toList ds gs before := hW
  obtain ⟨p, q, hA0, hV, rfl, hfz, hnd⟩ := hW
  have hA : DataW.TrodAll enc Proofs.Tryd.prog W 0 (fun _ => true) true Proofs.Tryd.f5.params.toList args.toList ds p := hA0
  rw [Proofs.Tryd.params5] at hA hval
  obtain ⟨v0, vs0, d0, ds0, p0, q0, hargs, rfl, rfl, h0, r0⟩ := trodAll_cons hA
  obtain ⟨v1, vs1, d1, ds1, p1, q1, rfl, rfl, rfl, h1, r1⟩ := trodAll_cons r0
  obtain ⟨v2, vs2, d2, ds2, p2, q2, rfl, rfl, rfl, h2, r2⟩ := trodAll_cons r1
  obtain ⟨rfl, rfl, rfl⟩ := trodAll_nil r2
  obtain rfl : args = #[v0, v1, v2] := by cases args; simp_all
  obtain ⟨x0, e0, ok0⟩ := arg_slice Proofs.Tryd.underlying22 tread22 (hval 0 22 v0 rfl rfl) h0
  obtain ⟨x1, rfl, ok1⟩ := arg_int Proofs.Tryd.underlying3 (hval 1 3 v1 rfl rfl) h1
  obtain ⟨x2, rfl, ok2⟩ := arg_u8 Proofs.Tryd.underlying5 (hval 2 5 v2 rfl rfl) h2
  have hc := m_gridhallkeep4_ArchiveSpoilt_c (hp x0 x1 x2 ok0 ok1 ok2) e0 (St.begin W)
  refine hc.mono fun e W' h => ?_
  cases e with
  | returned v =>
    obtain ⟨H', M', hst, hphi⟩ := h
    obtain ⟨_, _, rfl⟩ := hphi
    exact ⟨_, rfl, law_post law_laid rfl rfl Proofs.Tryd.underlying4 (by kernel_rfl) hW2 (fun _ => rfl) hst.below⟩
  | _ => exact h.elim
theorem ArchiveSpoilt_law (hp : ∀ (x0 : (List S_api_Event)) (x1 : Int) (x2 : Int), ok x0 → i64ok x1 → (0 ≤ x2 ∧ x2 ≤ 255) → m_gridhallkeep4_ArchiveSpoilt x0 x1 x2 = some true) : Proofs.YtldmgakhhhjhoaaDoor.Rows.ArchiveSpoiltSaid :=
  OpenClaim.holds_of_wide 5 Proofs.Tryd.f5 rfl rfl rfl rfl rfl rfl rfl ⟨rfl, rfl, rfl, rfl, rfl⟩ rfl rfl rfl rfl rfl (by kernel_rfl) Proofs.Tryd.func5 (by kernel_rfl)
    (of_decide_eq_true (by kernel_rfl)) (by unfold Func.isWrapper; first | (rw [if_pos (by decide +kernel)]; kernel_rfl) | (rw [if_neg (by decide +kernel)]; exact ⟨rfl, rfl⟩))
    (fun os started H enc _ => ArchiveSpoilt_lifted hp os started H enc)
end Go.Sim
